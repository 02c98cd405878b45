/- What the program's grid's Put and Erase do, as contracts of the abstract machine. Conditions: as each law says. -/
import Derived.Test.YtjgfmanahimpoaaGriA
namespace Go.Proofs.Ytjgfmanahimpoaa
open Go.AM
set_option maxHeartbeats 1600000
set_option maxRecDepth 10000
def gputB (R C : Nat) (r c : Int) (x : Cl) : Bool := inB R C r c && (decide (x.w = 1) || decide (x.w = 2)) && inB R C r (c + x.w - 1)
def gput (l : Row) (i : Nat) (x : Cl) : Row := (if x.w = 2 then (gloose (gloose l i) (i + 1)).set (i + 1) ⟨[], 0⟩ else gloose l i).set i x
def gputI (R C : Nat) (r c : Int) (x : Cl) (l : Row) : Row := if gputB R C r c x then gput l (r.toNat * C + c.toNat) x else l
theorem gput_cr (R C N : Nat) (l : Row) (r c : Int) (x : Cl) (hN : N = R * C) (hR : R ≤ 500) (hC : C ≤ 1000) (hl : l.length = N) (ho : OkR l) :
    CR Try.prog 40 [[0], [1]] [.lp [0] 0, .p (.int .i64 r), .p (.int .i64 c), .p (clP x)] (gp R C N l) (fun v rs' => v = .p (.bool (gputB R C r c x)) ∧ rs' = gp R C N (gputI R C r c x l)) := by
  obtain ⟨t, w⟩ := x
  have hNb : N ≤ 500000 := by rw [hN]; exact Nat.mul_le_mul hR hC
  refine CR_of_wp mixed 10 [] Try.func40 rfl (by kernel_rfl) rfl (by simp) (by simp) ?_
  have hin := gin_cr R C N l r c
  by_cases hB : inB R C r c = true
  · rw [hB] at hin
    obtain ⟨⟨⟨h0, h1⟩, h2⟩, h3⟩ : ((0 ≤ r ∧ r < R) ∧ 0 ≤ c) ∧ c < C := by simpa [inB] using hB
    obtain ⟨q, rfl⟩ : ∃ q : Nat, c = q := ⟨c.toNat, by omega⟩
    obtain ⟨k, rfl⟩ : ∃ k : Nat, r = k := ⟨r.toNat, by omega⟩
    have hq : q < C := by omega
    have hk : k < R := by omega
    obtain ⟨i, hi⟩ : ∃ i, i = k * C + q := ⟨_, rfl⟩
    have hiI : (k : Int) * (C : Int) + (q : Int) = (i : Int) := by rw [hi]; simp
    have hkC : (k : Int) * (C : Int) ≤ 500000 ∧ 0 ≤ (k : Int) * (C : Int) := by
      have h5 : k * C ≤ 500 * 1000 := Nat.mul_le_mul (by omega) hC
      have h6 : ((k * C : Nat) : Int) = (k : Int) * (C : Int) := by simp
      omega
    have hiN : i < N := by
      have h5 : k * C + C ≤ R * C := by rw [← Nat.succ_mul]; exact Nat.mul_le_mul_right _ hk
      omega
    by_cases hw1 : w = 1
    · subst hw1
      have hin2 := gin_cr R C N l k q
      rw [hB] at hin2
      have hpb : gputB R C k q ⟨t, 1⟩ = true := by
        have e : ((q : Int) + 1 - 1) = q := by omega
        simp only [gputB, hB, e]; rfl
      rw [hpb]
      have hpi : gputI R C k q ⟨t, 1⟩ l = gput l i ⟨t, 1⟩ := by rw [gputI, hpb, if_pos rfl, hi]; rfl
      rw [hpi]
      have e1 : ((q : Int) + 1 - 1) = q := by omega
      have hlo := gloose_cr R C N l i hl (by omega) hiN ho
      have ll := gloose_len l i
      have hpr : gput l i ⟨t, 1⟩ = (gloose l i).set i ⟨t, 1⟩ := by simp [gput]
      have ew := cw_put (l := gloose l i) (c := i) t 1 (by omega)
      clear hpi hpb hB hi
      simp (maxSteps := 1000000) (disch := omega) [go_sem, Try.f40, gp, clP]
      refine ⟨⟨rfl, by simp [Try.f58]⟩, CallK_of [([0], [0]), ([1], [1])] hin (by simp [go_sem]) ⟨by simp [go_sem], by simp [go_sem]⟩ (by simp [go_sem, gp, cw_ren, cw_upd]) ?_⟩
      rintro y rs ⟨rfl, rfl⟩
      simp (maxSteps := 1000000) (disch := omega) [go_sem, wrap64, gp, cw_ren, cw_upd, e1]
      refine ⟨⟨rfl, by simp [Try.f58]⟩, CallK_of [([0], [0]), ([1], [1])] hin2 (by simp [go_sem]) ⟨by simp [go_sem], by simp [go_sem]⟩ (by simp [go_sem, gp, cw_ren]) ?_⟩
      rintro y rs ⟨rfl, rfl⟩
      simp (maxSteps := 1000000) (disch := omega) [go_sem, wrap64, gp, cw_ren, cw_upd, hiI]
      refine ⟨⟨rfl, by simp [Try.f59]⟩, CallK_of [([0], [0]), ([1], [1])] hlo (by simp [go_sem]) ⟨by simp [go_sem], by simp [go_sem]⟩ (by simp [go_sem, gp, cw_ren]) ?_⟩
      rintro y rs ⟨rfl, rfl⟩
      simp (maxSteps := 1000000) (disch := omega) [go_sem, gp, cw_ren, cw_upd, cw_len, ll, hl, ew]
      refine ⟨by omega, by omega, ?_⟩
      exact ret_keep [[0], [1]] _ (by simp) (by simp [go_sem, resOf, leA]) ⟨rfl, by simp [go_sem, cw_upd, hpr]⟩
    · by_cases hw2 : w = 2
      · subst hw2
        have e1 : ((q : Int) + 2 - 1) = (q : Int) + 1 := by omega
        have hin2 := gin_cr R C N l k ((q : Int) + 1)
        by_cases hq1 : q + 1 < C
        · have hB2 : inB R C k ((q : Int) + 1) = true := by simp [inB, hk]; omega
          rw [hB2] at hin2
          have hpb : gputB R C k q ⟨t, 2⟩ = true := by simp only [gputB, hB, e1, hB2]; rfl
          rw [hpb]
          have hpi : gputI R C k q ⟨t, 2⟩ l = gput l i ⟨t, 2⟩ := by rw [gputI, hpb, if_pos rfl, hi]; rfl
          rw [hpi]
          have hi1 : i + 1 < N := by
            have h5 : k * C + C ≤ R * C := by rw [← Nat.succ_mul]; exact Nat.mul_le_mul_right _ hk
            omega
          have hlo := gloose_cr R C N l i hl (by omega) hiN ho
          have ll := gloose_len l i
          have hlo2 := gloose_cr R C N (gloose l i) (i + 1) (by omega) (by omega) hi1 (ho.gloose i)
          have ll2 := gloose_len (gloose l i) (i + 1)
          have hpr : gput l i ⟨t, 2⟩ = ((gloose (gloose l i) (i + 1)).set (i + 1) ⟨[], 0⟩).set i ⟨t, 2⟩ := by simp [gput]
          have ew1 := cw_put (l := gloose (gloose l i) (i + 1)) (c := i + 1) [] 0 (by omega)
          have ew2 := cw_put (l := (gloose (gloose l i) (i + 1)).set (i + 1) ⟨[], 0⟩) (c := i) t 2 (by rw [List.length_set]; omega)
          clear hpi hpb hB hi hB2
          simp (maxSteps := 1000000) (disch := omega) [go_sem, Try.f40, gp, clP]
          refine ⟨⟨rfl, by simp [Try.f58]⟩, CallK_of [([0], [0]), ([1], [1])] hin (by simp [go_sem]) ⟨by simp [go_sem], by simp [go_sem]⟩ (by simp [go_sem, gp, cw_ren, cw_upd]) ?_⟩
          rintro y rs ⟨rfl, rfl⟩
          simp (maxSteps := 1000000) (disch := omega) [go_sem, wrap64, gp, cw_ren, cw_upd, e1]
          refine ⟨⟨rfl, by simp [Try.f58]⟩, CallK_of [([0], [0]), ([1], [1])] hin2 (by simp [go_sem]) ⟨by simp [go_sem], by simp [go_sem]⟩ (by simp [go_sem, gp, cw_ren]) ?_⟩
          rintro y rs ⟨rfl, rfl⟩
          simp (maxSteps := 1000000) (disch := omega) [go_sem, wrap64, gp, cw_ren, cw_upd, hiI]
          refine ⟨⟨rfl, by simp [Try.f59]⟩, CallK_of [([0], [0]), ([1], [1])] hlo (by simp [go_sem]) ⟨by simp [go_sem], by simp [go_sem]⟩ (by simp [go_sem, gp, cw_ren]) ?_⟩
          rintro y rs ⟨rfl, rfl⟩
          simp (maxSteps := 1000000) (disch := omega) [go_sem, wrap64, gp, cw_ren, cw_upd]
          refine ⟨⟨rfl, by simp [Try.f59]⟩, CallK_of [([0], [0]), ([1], [1])] hlo2 (by simp [go_sem]) ⟨by simp [go_sem], by simp [go_sem]⟩ (by simp [go_sem, gp, cw_ren]) ?_⟩
          rintro y rs ⟨rfl, rfl⟩
          simp (maxSteps := 1000000) (disch := omega) [go_sem, wrap64, gp, cw_ren, cw_upd, cw_len, ll, ll2, hl, ew1, ew2]
          refine ⟨⟨by omega, by omega⟩, by omega, by omega, by omega, ?_⟩
          exact ret_keep [[0], [1]] _ (by simp) (by simp [go_sem, resOf, leA]) ⟨rfl, by simp [go_sem, cw_upd, hpr]⟩
        · have hB2 : inB R C k ((q : Int) + 1) = false := by
            have : ¬ ((q : Int) + 1 < C) := by omega
            simp [inB, this]
          rw [hB2] at hin2
          have hpb : gputB R C k q ⟨t, 2⟩ = false := by simp only [gputB, hB, e1, hB2]; rfl
          rw [hpb]
          have hpi : gputI R C k q ⟨t, 2⟩ l = l := by rw [gputI, hpb]; rfl
          rw [hpi]
          clear hpi hpb hB hi hB2
          simp (maxSteps := 1000000) (disch := omega) [go_sem, Try.f40, gp, clP]
          refine ⟨⟨rfl, by simp [Try.f58]⟩, CallK_of [([0], [0]), ([1], [1])] hin (by simp [go_sem]) ⟨by simp [go_sem], by simp [go_sem]⟩ (by simp [go_sem, gp, cw_ren, cw_upd]) ?_⟩
          rintro y rs ⟨rfl, rfl⟩
          simp (maxSteps := 1000000) (disch := omega) [go_sem, wrap64, gp, cw_ren, cw_upd, e1]
          refine ⟨⟨rfl, by simp [Try.f58]⟩, CallK_of [([0], [0]), ([1], [1])] hin2 (by simp [go_sem]) ⟨by simp [go_sem], by simp [go_sem]⟩ (by simp [go_sem, gp, cw_ren]) ?_⟩
          rintro y rs ⟨rfl, rfl⟩
          simp (maxSteps := 1000000) (disch := omega) [go_sem, gp, cw_ren, cw_upd]
          exact ret_keep [[0], [1]] _ (by simp) (by simp [go_sem, resOf, leA]) ⟨rfl, by simp [go_sem, cw_upd]⟩
      · have hpb : gputB R C k q ⟨t, w⟩ = false := by simp [gputB, hw1, hw2]
        rw [hpb]
        have hpi : gputI R C k q ⟨t, w⟩ l = l := by rw [gputI, hpb]; rfl
        rw [hpi]
        clear hpi hpb hB hi
        rcases Int.lt_or_le w 1 with hw | hw
        · simp (maxSteps := 1000000) (disch := omega) [go_sem, Try.f40, gp, clP]
          refine ⟨⟨rfl, by simp [Try.f58]⟩, CallK_of [([0], [0]), ([1], [1])] hin (by simp [go_sem]) ⟨by simp [go_sem], by simp [go_sem]⟩ (by simp [go_sem, gp, cw_ren, cw_upd]) ?_⟩
          rintro y rs ⟨rfl, rfl⟩
          simp (maxSteps := 1000000) (disch := omega) [go_sem, gp, cw_ren, cw_upd, hw]
          exact ret_keep [[0], [1]] _ (by simp) (by simp [go_sem, resOf, leA]) ⟨rfl, by simp [go_sem, cw_upd]⟩
        · have hw3 : ¬ (w < 1) := by omega
          have hw4 : 2 < w := by omega
          simp (maxSteps := 1000000) (disch := omega) [go_sem, Try.f40, gp, clP]
          refine ⟨⟨rfl, by simp [Try.f58]⟩, CallK_of [([0], [0]), ([1], [1])] hin (by simp [go_sem]) ⟨by simp [go_sem], by simp [go_sem]⟩ (by simp [go_sem, gp, cw_ren, cw_upd]) ?_⟩
          rintro y rs ⟨rfl, rfl⟩
          simp (maxSteps := 1000000) (disch := omega) [go_sem, gp, cw_ren, cw_upd, hw3, hw4]
          exact ret_keep [[0], [1]] _ (by simp) (by simp [go_sem, resOf, leA]) ⟨rfl, by simp [go_sem, cw_upd]⟩
  · have hB' : inB R C r c = false := by simpa using hB
    rw [hB'] at hin
    have hpb : gputB R C r c ⟨t, w⟩ = false := by simp [gputB, hB']
    rw [hpb]
    have hpi : gputI R C r c ⟨t, w⟩ l = l := by rw [gputI, hpb]; rfl
    rw [hpi]
    clear hpi hpb hB hB'
    simp (maxSteps := 1000000) (disch := omega) [go_sem, Try.f40, gp, clP]
    refine ⟨⟨rfl, by simp [Try.f58]⟩, CallK_of [([0], [0]), ([1], [1])] hin (by simp [go_sem]) ⟨by simp [go_sem], by simp [go_sem]⟩ (by simp [go_sem, gp, cw_ren, cw_upd]) ?_⟩
    rintro y rs ⟨rfl, rfl⟩
    simp (maxSteps := 1000000) (disch := omega) [go_sem, gp, cw_ren, cw_upd]
    exact ret_keep [[0], [1]] _ (by simp) (by simp [go_sem, resOf, leA]) ⟨rfl, by simp [go_sem, cw_upd]⟩
theorem gput_len (l : Row) (i : Nat) (x : Cl) : (gput l i x).length = l.length := by
  unfold gput
  split <;> simp [gloose_len]
theorem gputI_len (R C : Nat) (r c : Int) (x : Cl) (l : Row) : (gputI R C r c x l).length = l.length := by
  unfold gputI
  split
  · exact gput_len _ _ _
  · rfl
theorem gputI_ok (R C : Nat) (r c : Int) (x : Cl) (l : Row) (hl : l.length = R * C) (h : OkR l) : OkR (gputI R C r c x l) := by
  unfold gputI
  split
  · rename_i hb
    have hb' : ((((0 ≤ r ∧ r < R) ∧ 0 ≤ c) ∧ c < C) ∧ (x.w = 1 ∨ x.w = 2)) ∧ ((0 ≤ r ∧ r < R) ∧ 0 ≤ c + x.w - 1) ∧ c + x.w - 1 < C := by simpa [gputB, inB] using hb
    obtain ⟨⟨⟨⟨⟨h0, h0'⟩, h1⟩, h2⟩, h3⟩, _, h4⟩ := hb'
    have hk : r.toNat * C + C ≤ R * C := by rw [← Nat.succ_mul]; exact Nat.mul_le_mul_right _ (by omega)
    unfold gput
    by_cases hw : x.w = 2
    · rw [if_pos hw]
      refine (((h.gloose _).gloose _).set _ _ (fun _ => by omega) (fun e => by simp at e)).set _ _ (fun e => by omega) (fun _ => ?_)
      rw [List.length_set, gloose_len, gloose_len, hl]
      omega
    · rw [if_neg hw]
      exact (h.gloose _).set _ _ (fun e => by omega) (fun e => absurd e hw)
  · exact h
/-- So many cells, made blank from a place on. -/
def gerP (l : Row) (i : Nat) : Nat → Row
  | 0 => l
  | j + 1 => gloose (gerP l i j) (i + j)
theorem gerP_len (l : Row) (i j : Nat) : (gerP l i j).length = l.length := by
  induction j with
  | zero => rfl
  | succ j ih => rw [gerP, gloose_len, ih]
theorem gerP_ok (l : Row) (i j : Nat) (h : OkR l) : OkR (gerP l i j) := by
  induction j with
  | zero => exact h
  | succ j ih => exact ih.gloose _
def gerI (R C : Nat) (r c : Int) (l : Row) : Row := if (0 ≤ r ∧ r < R) ∧ 0 ≤ c then gerP l (r.toNat * C + c.toNat) (C - c.toNat) else l
theorem gerI_len (R C : Nat) (r c : Int) (l : Row) : (gerI R C r c l).length = l.length := by
  unfold gerI
  split
  · exact gerP_len _ _ _
  · rfl
theorem gerI_ok (R C : Nat) (r c : Int) (l : Row) (h : OkR l) : OkR (gerI R C r c l) := by
  unfold gerI
  split
  · exact gerP_ok _ _ _ h
  · exact h
theorem gerase_cr (R C N : Nat) (l : Row) (r c : Int) (hN : N = R * C) (hR : R ≤ 500) (hC : C ≤ 1000) (hl : l.length = N) (ho : OkR l) :
    CR Try.prog 38 [[0], [1]] [.lp [0] 0, .p (.int .i64 r), .p (.int .i64 c)] (gp R C N l) (fun v rs' => v = .tup [] ∧ rs' = gp R C N (gerI R C r c l)) := by
  have hNb : N ≤ 500000 := by rw [hN]; exact Nat.mul_le_mul hR hC
  refine CR_of_wp mixed 3 [] Try.func38 rfl (by kernel_rfl) rfl (by simp) (by simp) ?_
  by_cases hB : (0 ≤ r ∧ r < R) ∧ 0 ≤ c
  · obtain ⟨⟨h0, h1⟩, h2⟩ := hB
    have hei : gerI R C r c l = gerP l (r.toNat * C + c.toNat) (C - c.toNat) := by rw [gerI]; exact if_pos ⟨⟨h0, h1⟩, h2⟩
    rw [hei]
    obtain ⟨q, rfl⟩ : ∃ q : Nat, c = q := ⟨c.toNat, by omega⟩
    obtain ⟨k, rfl⟩ : ∃ k : Nat, r = k := ⟨r.toNat, by omega⟩
    have hk : k < R := by omega
    simp only [Int.toNat_natCast]
    obtain ⟨m, hm⟩ : ∃ m, m = k * C := ⟨_, rfl⟩
    have hmI : (k : Int) * (C : Int) = (m : Int) := by rw [hm]; simp
    have hmN : m + C ≤ N := by rw [hm, hN, ← Nat.succ_mul]; exact Nat.mul_le_mul_right _ hk
    rw [← hm]
    clear hei hm hN
    simp (maxSteps := 1000000) (disch := omega) [go_sem, Try.f38, gp]
    refine wpA_loop (fun j : Nat => j ≤ C - q) (fun j => { n := 22, nv := 3, vs := [(0, .lp [0] 0), (1, .p (.int .i64 k)), (2, .p (.int .i64 ((q : Int) + j)))], ts := [], rs := [([0], [.p (.int .i64 R), .p (.int .i64 C), .la [1] 2 0 N]), ([1], cw (gerP l (m + q) j))], pin := [[0], [1]] }) (fun j => C - q - j) 0 (by simp) (by simp [go_sem, LeS, leV, leR, leA, leL, leL_refl, cw_upd, gerP]) ?_
    intro j hj
    have hin := gin_cr R C N (gerP l (m + q) j) k ((q : Int) + j)
    have lp := gerP_len l (m + q) j
    have op := gerP_ok l (m + q) j ho
    have es : gerP l (m + q) (j + 1) = gloose (gerP l (m + q) j) (m + q + j) := rfl
    simp (maxSteps := 1000000) (disch := omega) [go_sem]
    refine ⟨⟨rfl, by simp [Try.f58]⟩, CallK_of [([0], [0]), ([1], [1])] hin (by simp [go_sem]) ⟨by simp [go_sem], by simp [go_sem]⟩ (by simp [go_sem, gp, cw_ren]) ?_⟩
    rintro y rs ⟨rfl, rfl⟩
    by_cases hqj : q + j < C
    · have hB2 : inB R C k ((q : Int) + j) = true := by simp [inB, hk]; omega
      have hlo := gloose_cr R C N (gerP l (m + q) j) (m + q + j) (by omega) (by omega) (by omega) op
      have e2 : (m : Int) + ((q : Int) + j) = ((m + q + j : Nat) : Int) := by omega
      simp (maxSteps := 1000000) (disch := omega) [go_sem, wrap64, gp, cw_ren, cw_upd, hB2, hmI]
      rw [e2]
      refine ⟨⟨rfl, by simp [Try.f59]⟩, CallK_of [([0], [0]), ([1], [1])] hlo (by simp [go_sem]) ⟨by simp [go_sem], by simp [go_sem]⟩ (by simp [go_sem, gp, cw_ren]) ?_⟩
      rintro y rs ⟨rfl, rfl⟩
      simp (maxSteps := 1000000) (disch := omega) [go_sem, wrap64, gp, cw_ren, cw_upd]
      refine LoopK_next (j + 1) (by omega) (by simp [go_sem, LeS, leV, leR, leA, leL, leL_refl, cw_upd, es]; omega) (by omega)
    · have hB2 : inB R C k ((q : Int) + j) = false := by
        have : ¬ ((q : Int) + j < C) := by omega
        simp [inB, this]
      obtain rfl : j = C - q := by omega
      simp (maxSteps := 1000000) (disch := omega) [go_sem, gp, cw_ren, cw_upd, hB2]
      exact ret_keep [[0], [1]] _ (by simp) (by simp [go_sem, resOf]) ⟨rfl, by simp [go_sem, cw_upd]⟩
  · have hei : gerI R C r c l = l := by rw [gerI]; exact if_neg hB
    rw [hei]
    have hin := gin_cr R C N l r c
    have hb : inB R C r c = false := by
      by_cases a : 0 ≤ r <;> by_cases b : r < R <;> by_cases d : 0 ≤ c <;> simp [inB, a, b, d]
      exact absurd ⟨⟨a, b⟩, d⟩ hB
    rw [hb] at hin
    clear hei
    simp (maxSteps := 1000000) (disch := omega) [go_sem, Try.f38, gp]
    refine wpA_loop (fun j : Nat => j = 0) (fun j => { n := 22, nv := 3, vs := [(0, .lp [0] 0), (1, .p (.int .i64 r)), (2, .p (.int .i64 c))], ts := [], rs := [([0], [.p (.int .i64 R), .p (.int .i64 C), .la [1] 2 0 N]), ([1], cw l)], pin := [[0], [1]] }) (fun j => 0) 0 (by simp) (by simp [go_sem, LeS, leV, leR, leA, leL, leL_refl, cw_upd]) ?_
    rintro j rfl
    simp (maxSteps := 1000000) (disch := omega) [go_sem]
    refine ⟨⟨rfl, by simp [Try.f58]⟩, CallK_of [([0], [0]), ([1], [1])] hin (by simp [go_sem]) ⟨by simp [go_sem], by simp [go_sem]⟩ (by simp [go_sem, gp, cw_ren]) ?_⟩
    rintro y rs ⟨rfl, rfl⟩
    simp (maxSteps := 1000000) (disch := omega) [go_sem, gp, cw_ren, cw_upd]
    exact ret_keep [[0], [1]] _ (by simp) (by simp [go_sem, resOf]) ⟨rfl, by simp [go_sem, cw_upd]⟩
end Go.Proofs.Ytjgfmanahimpoaa

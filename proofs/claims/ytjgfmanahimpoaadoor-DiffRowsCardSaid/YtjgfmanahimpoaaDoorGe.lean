/- What the program's grid's functions do, as contracts of the abstract machine. Conditions: as each law says. -/
import Derived.Test.YtjgfmanahimpoaaDoorGa
import Derived.Test.YtjgfmanahimpoaaDoorClt
namespace Go.Proofs.YtjgfmanahimpoaaDoor
open Go.AM
set_option maxHeartbeats 1600000
set_option maxRecDepth 10000
theorem gblank_cr : CR Tryd.prog 45 [] [] [] (is (.p (clP blk))) := by
  refine CR_of_wp mixed 1 [] Tryd.func45 rfl (by kernel_rfl) rfl (by simp) (by simp) ?_
  simp (maxSteps := 1000000) (disch := omega) [go_sem, Tryd.f45]
  exact ret_is _ rfl (by simp [go_sem, resOf, leA, clP, blk]) ⟨rfl, rfl⟩
/-- A grid, as its pointer leads to it. -/
def gp (R C N : Nat) (l : Row) : List (Tok × List AV) := [([0], [.p (.int .i64 R), .p (.int .i64 C), .la [1] 2 0 N]), ([1], cw l)]
def zc : Cl := ⟨[], 0⟩
/-- So many cells are blank, the others not yet. -/
def nw (n i : Nat) : Row := List.replicate i blk ++ List.replicate (n - i) zc
theorem nw_len {n i : Nat} (h : i ≤ n) : (nw n i).length = n := by simp [nw]; omega
theorem nw_zero (n : Nat) : (List.replicate n [AV.p (PV.str []), AV.p (PV.int .i64 0)]).flatten = cw (nw n 0) := by
  have : ∀ n, (List.replicate n [AV.p (PV.str []), AV.p (PV.int .i64 0)]).flatten = cw (List.replicate n zc) := by
    intro n
    induction n with
    | zero => rfl
    | succ n ih =>
      simp only [List.replicate_succ, List.flatten_cons] at ih ⊢
      rw [ih]; rfl
  rw [this, nw]; rfl
theorem nw_set {n i : Nat} (h : i < n) : (nw n i).set i blk = nw n (i + 1) := by
  apply List.ext_getElem?
  intro j
  simp only [nw, List.getElem?_set, List.getElem?_append, List.length_append, List.length_replicate, List.getElem?_replicate]
  repeat' split
  all_goals first | rfl | (exfalso; omega)
theorem nw_all (n : Nat) : nw n n = List.replicate n blk := by simp [nw]
theorem gnew_lk (R C : Nat) (hR : 1 ≤ R ∧ R ≤ 500) (hC : 2 ≤ C ∧ C ≤ 1000) : CR Tryd.prog 32 [] [.p (.int .i64 R), .p (.int .i64 C)] []
    (fun x rs' => x = .lp [28] 0 ∧ lookT rs' [28] = some [.p (.int .i64 R), .p (.int .i64 C), .la [26] 2 0 (R * C)] ∧ lookT rs' [26] = some (cw (List.replicate (R * C) blk))) := by
  refine CR_of_wpD [7] mixed 7 [33, 34] Tryd.func32 rfl (by kernel_rfl) rfl (by simp) (by simp) ?_
  have a1 : ¬ ((R : Int) < 1) := by omega
  have a2 : ¬ ((500 : Int) < R) := by omega
  have a3 : ¬ ((C : Int) < 2) := by omega
  have a4 : ¬ ((1000 : Int) < C) := by omega
  obtain ⟨N, hN⟩ : ∃ N, N = R * C := ⟨_, rfl⟩
  have hN' : (R : Int) * (C : Int) = (N : Int) := by rw [hN]; simp
  have hNb : N ≤ 500000 := by rw [hN]; exact Nat.mul_le_mul hR.2 hC.2
  rw [← hN]
  clear hN
  simp (maxSteps := 1000000) (disch := omega) [go_sem, Tryd.f32, wrap64, a1, a2, a3, a4, hN']
  rw [nw_zero]
  refine ⟨by omega, rfl, ?_⟩
  refine wpA_loop (fun i : Nat => i ≤ N) (fun i => { n := 46, nv := 7, vs := [(5, .lp [28] 0), (33, .p (.int .i64 N)), (34, .p (.int .i64 i))], ts := [], rs := [([26], cw (nw N i)), ([28], [.p (.int .i64 R), .p (.int .i64 C), .la [26] 2 0 N])], ex := [33, 34] }) (fun i => N - i) 0 (by simp) (by simp [go_sem, LeS, leV, leR, leA, leL, leL_refl, cw_upd]) ?_
  intro i hi
  have hl := nw_len hi
  simp (maxSteps := 1000000) (disch := omega) [go_sem]
  refine condK_if (fun h1 => ?_) (fun h1 => ?_)
  · have h1' : i < N := by omega
    have ew := cw_put (l := nw N i) (c := i) [32] 1 (by omega)
    have es : (nw N i).set i ⟨[32], 1⟩ = nw N (i + 1) := nw_set h1'
    rw [es] at ew
    simp (maxSteps := 1000000) (disch := omega) [go_sem]
    refine HCallK_of (.p (clP blk)) rfl rfl (fun _ => pcallA_of 45 gblank_cr rfl ⟨rfl, by simp [Tryd.f45]⟩ ⟨by simp [go_sem], by simp [go_sem]⟩) ?_
    simp (maxSteps := 1000000) (disch := omega) [go_sem, wrap64, clP, blk, cw_len, hl, ew]
    refine ⟨h1', by omega, ?_⟩
    refine LoopK_next (i + 1) (by omega) (by simp [go_sem, LeS, leV, leR, leA, leL, leL_refl, cw_upd]) (by omega)
  · obtain rfl : i = N := by omega
    rw [nw_all]
    simp (maxSteps := 1000000) (disch := omega) [go_sem]
    exact ret_keep [[28], [26]] _ (by simp) (by simp [go_sem, resOf, leA]) ⟨rfl, by simp [go_sem, cw_upd]⟩
theorem gnew_cr (R C : Nat) (hR : 1 ≤ R ∧ R ≤ 500) (hC : 2 ≤ C ∧ C ≤ 1000) : CR Tryd.prog 32 [] [.p (.int .i64 R), .p (.int .i64 C)] []
    (fun x rs' => x = .lp [0] 0 ∧ rs' = gp R C (R * C) (List.replicate (R * C) blk)) := by
  refine (gnew_lk R C hR hC).ren 1000 ?_
  rintro x rs' ⟨rfl, h0, h1⟩
  exact ⟨[([0], [28]), ([1], [26])], rfl, rfl, rfl, by simp [rootsR, St.ofR, h0, h1, gp, cw_ren, AV.ren, AV.upd, renG, renF, inM]⟩
def inB (R C : Nat) (r c : Int) : Bool := decide (0 ≤ r) && decide (r < R) && decide (0 ≤ c) && decide (c < C)
theorem gin_cr (R C N : Nat) (l : Row) (r c : Int) : CR Tryd.prog 47 [[0], [1]] [.lp [0] 0, .p (.int .i64 r), .p (.int .i64 c)] (gp R C N l) (fun x rs' => x = .p (.bool (inB R C r c)) ∧ rs' = gp R C N l) := by
  refine CR_of_wp mixed 7 [] Tryd.func47 rfl (by kernel_rfl) rfl (by simp) (by simp) ?_
  simp (maxSteps := 1000000) (disch := omega) [go_sem, Tryd.f47, gp]
  exact ret_keep [[0], [1]] (.p (.bool (inB R C r c))) (by simp) (by simp [go_sem, resOf, leA, inB]) ⟨rfl, by simp [go_sem, cw_upd]⟩
/-- What a cell belongs to, made blank. -/
def gloo1 (l : Row) (i : Nat) : Row := if (l.getD i blk).w = 0 then l.set (i - 1) blk else if (l.getD i blk).w = 2 then l.set (i + 1) blk else l
def gloose (l : Row) (i : Nat) : Row := (gloo1 l i).set i blk
theorem gloo1_len (l : Row) (i : Nat) : (gloo1 l i).length = l.length := by unfold gloo1; split <;> (try split) <;> simp
theorem gloose_len (l : Row) (i : Nat) : (gloose l i).length = l.length := by rw [gloose, List.length_set, gloo1_len]
theorem OkR.gloose {l : Row} (h : OkR l) (i : Nat) : OkR (gloose l i) := by
  unfold Go.Proofs.YtjgfmanahimpoaaDoor.gloose gloo1
  split
  · exact (h.blank _).blank _
  · split
    · exact (h.blank _).blank _
    · exact h.blank _
theorem gloose_cr (R C N : Nat) (l : Row) (i : Nat) (hl : l.length = N) (hb : N ≤ 1000000) (hi : i < N) (ho : OkR l) : CR Tryd.prog 48 [[0], [1]] [.lp [0] 0, .p (.int .i64 i)] (gp R C N l) (fun x rs' => x = .tup [] ∧ rs' = gp R C N (gloose l i)) := by
  have hi' : i < l.length := by omega
  refine CR_of_wpD [2, 4, 5] mixed 12 [] Tryd.func48 rfl (by kernel_rfl) rfl (by simp) (by simp) ?_
  simp (maxSteps := 1000000) (disch := omega) [go_sem, Tryd.f48, gp, cw_at1 hi']
  have ll := gloo1_len l i
  have ew2 := cw_put (l := gloo1 l i) (c := i) [32] 1 (by omega)
  have er : gloose l i = (gloo1 l i).set i ⟨[32], 1⟩ := rfl
  rw [er]
  refine ⟨hi, condK_if (fun h => ?_) (fun h => ?_)⟩
  · have h0 := (ho i l[i] (List.getElem?_eq_getElem hi')).1 h
    obtain ⟨k, rfl⟩ : ∃ k, i = k + 1 := ⟨i - 1, by omega⟩
    have ea : gloo1 l (k + 1) = l.set k ⟨[32], 1⟩ := by rw [gloo1, row_getD hi', if_pos h]; rfl
    have ew := cw_put (l := l) (c := k) [32] 1 (by omega)
    rw [ea] at ew2 ll
    simp (maxSteps := 1000000) (disch := omega) [go_sem, wrap64]
    refine HCallK_of (.p (clP blk)) rfl rfl (fun _ => pcallA_of 45 gblank_cr rfl ⟨rfl, by simp [Tryd.f45]⟩ ⟨by simp [go_sem], by simp [go_sem]⟩) ?_
    simp (maxSteps := 1000000) (disch := omega) [go_sem, clP, blk, cw_len, hl, ew]
    refine ⟨by omega, by omega, ?_⟩
    refine HCallK_of (.p (clP blk)) rfl rfl (fun _ => pcallA_of 45 gblank_cr rfl ⟨rfl, by simp [Tryd.f45]⟩ ⟨by simp [go_sem], by simp [go_sem]⟩) ?_
    simp (maxSteps := 1000000) (disch := omega) [go_sem, clP, blk, cw_len, hl, ew2]
    exact ⟨⟨by omega, by omega⟩, by omega, ret_keep [[0], [1]] _ (by simp) (by simp [go_sem, resOf]) ⟨rfl, by simp [go_sem, cw_upd, ea]⟩⟩
  · simp (maxSteps := 1000000) (disch := omega) [go_sem]
    refine condK_if (fun h2 => ?_) (fun h2 => ?_)
    · have h0 := (ho i l[i] (List.getElem?_eq_getElem hi')).2 h2
      have ea : gloo1 l i = l.set (i + 1) ⟨[32], 1⟩ := by rw [gloo1, row_getD hi', if_neg h, if_pos h2]; rfl
      have ew := cw_put (l := l) (c := i + 1) [32] 1 h0
      rw [ea] at ew2 ll
      simp (maxSteps := 1000000) (disch := omega) [go_sem, wrap64]
      refine HCallK_of (.p (clP blk)) rfl rfl (fun _ => pcallA_of 45 gblank_cr rfl ⟨rfl, by simp [Tryd.f45]⟩ ⟨by simp [go_sem], by simp [go_sem]⟩) ?_
      simp (maxSteps := 1000000) (disch := omega) [go_sem, clP, blk, cw_len, hl, ew]
      refine ⟨⟨by omega, by omega⟩, by omega, ?_⟩
      refine HCallK_of (.p (clP blk)) rfl rfl (fun _ => pcallA_of 45 gblank_cr rfl ⟨rfl, by simp [Tryd.f45]⟩ ⟨by simp [go_sem], by simp [go_sem]⟩) ?_
      simp (maxSteps := 1000000) (disch := omega) [go_sem, clP, blk, cw_len, hl, ew2]
      exact ⟨hi, by omega, ret_keep [[0], [1]] _ (by simp) (by simp [go_sem, resOf]) ⟨rfl, by simp [go_sem, cw_upd, ea]⟩⟩
    · have ea : gloo1 l i = l := by rw [gloo1, row_getD hi', if_neg h, if_neg h2]
      rw [ea] at ew2 ll
      simp (maxSteps := 1000000) (disch := omega) [go_sem]
      refine HCallK_of (.p (clP blk)) rfl rfl (fun _ => pcallA_of 45 gblank_cr rfl ⟨rfl, by simp [Tryd.f45]⟩ ⟨by simp [go_sem], by simp [go_sem]⟩) ?_
      simp (maxSteps := 1000000) (disch := omega) [go_sem, clP, blk, cw_len, hl, ew2]
      exact ⟨hi, by omega, ret_keep [[0], [1]] _ (by simp) (by simp [go_sem, resOf]) ⟨rfl, by simp [go_sem, cw_upd, ea]⟩⟩
def gputB (R C : Nat) (r c : Int) (x : Cl) : Bool := inB R C r c && (decide (x.w = 1) || decide (x.w = 2)) && inB R C r (c + x.w - 1)
def gput (l : Row) (i : Nat) (x : Cl) : Row := (if x.w = 2 then (gloose (gloose l i) (i + 1)).set (i + 1) ⟨[], 0⟩ else gloose l i).set i x
def gputI (R C : Nat) (r c : Int) (x : Cl) (l : Row) : Row := if gputB R C r c x then gput l (r.toNat * C + c.toNat) x else l
theorem gput_cr (R C N : Nat) (l : Row) (r c : Int) (x : Cl) (hN : N = R * C) (hR : R ≤ 500) (hC : C ≤ 1000) (hl : l.length = N) (ho : OkR l) :
    CR Tryd.prog 36 [[0], [1]] [.lp [0] 0, .p (.int .i64 r), .p (.int .i64 c), .p (clP x)] (gp R C N l) (fun v rs' => v = .p (.bool (gputB R C r c x)) ∧ rs' = gp R C N (gputI R C r c x l)) := by
  obtain ⟨t, w⟩ := x
  have hNb : N ≤ 500000 := by rw [hN]; exact Nat.mul_le_mul hR hC
  refine CR_of_wp mixed 10 [] Tryd.func36 rfl (by kernel_rfl) rfl (by simp) (by simp) ?_
  have hin := gin_cr R C N l r c
  by_cases hB : inB R C r c = true
  · rw [hB] at hin
    obtain ⟨⟨⟨h0, h1⟩, h2⟩, h3⟩ : ((0 ≤ r ∧ r < R) ∧ 0 ≤ c) ∧ c < C := by simpa [inB] using hB
    obtain ⟨q, rfl⟩ : ∃ q : Nat, c = q := ⟨c.toNat, by omega⟩
    obtain ⟨k, rfl⟩ : ∃ k : Nat, r = k := ⟨r.toNat, by omega⟩
    have hq : q < C := by omega
    have hk : k < R := by omega
    obtain ⟨i, hi⟩ : ∃ i, i = k * C + q := ⟨_, rfl⟩
    have hiI : (k : Int) * (C : Int) + (q : Int) = (i : Int) := by rw [hi]; simp
    have hkC : (k : Int) * (C : Int) ≤ 500000 ∧ 0 ≤ (k : Int) * (C : Int) := by
      have h5 : k * C ≤ 500 * 1000 := Nat.mul_le_mul (by omega) hC
      have h6 : ((k * C : Nat) : Int) = (k : Int) * (C : Int) := by simp
      omega
    have hiN : i < N := by
      have h5 : k * C + C ≤ R * C := by rw [← Nat.succ_mul]; exact Nat.mul_le_mul_right _ hk
      omega
    by_cases hw1 : w = 1
    · subst hw1
      have hin2 := gin_cr R C N l k q
      rw [hB] at hin2
      have hpb : gputB R C k q ⟨t, 1⟩ = true := by
        have e : ((q : Int) + 1 - 1) = q := by omega
        simp only [gputB, hB, e]; rfl
      rw [hpb]
      have hpi : gputI R C k q ⟨t, 1⟩ l = gput l i ⟨t, 1⟩ := by rw [gputI, hpb, if_pos rfl, hi]; rfl
      rw [hpi]
      have e1 : ((q : Int) + 1 - 1) = q := by omega
      have hlo := gloose_cr R C N l i hl (by omega) hiN ho
      have ll := gloose_len l i
      have hpr : gput l i ⟨t, 1⟩ = (gloose l i).set i ⟨t, 1⟩ := by simp [gput]
      have ew := cw_put (l := gloose l i) (c := i) t 1 (by omega)
      clear hpi hpb hB hi
      simp (maxSteps := 1000000) (disch := omega) [go_sem, Tryd.f36, gp, clP]
      refine ⟨⟨rfl, by simp [Tryd.f47]⟩, CallK_of [([0], [0]), ([1], [1])] hin (by simp [go_sem]) ⟨by simp [go_sem], by simp [go_sem]⟩ (by simp [go_sem, gp, cw_ren, cw_upd]) ?_⟩
      rintro y rs ⟨rfl, rfl⟩
      simp (maxSteps := 1000000) (disch := omega) [go_sem, wrap64, gp, cw_ren, cw_upd, e1]
      refine ⟨⟨rfl, by simp [Tryd.f47]⟩, CallK_of [([0], [0]), ([1], [1])] hin2 (by simp [go_sem]) ⟨by simp [go_sem], by simp [go_sem]⟩ (by simp [go_sem, gp, cw_ren]) ?_⟩
      rintro y rs ⟨rfl, rfl⟩
      simp (maxSteps := 1000000) (disch := omega) [go_sem, wrap64, gp, cw_ren, cw_upd, hiI]
      refine ⟨⟨rfl, by simp [Tryd.f48]⟩, CallK_of [([0], [0]), ([1], [1])] hlo (by simp [go_sem]) ⟨by simp [go_sem], by simp [go_sem]⟩ (by simp [go_sem, gp, cw_ren]) ?_⟩
      rintro y rs ⟨rfl, rfl⟩
      simp (maxSteps := 1000000) (disch := omega) [go_sem, gp, cw_ren, cw_upd, cw_len, ll, hl, ew]
      refine ⟨by omega, by omega, ?_⟩
      exact ret_keep [[0], [1]] _ (by simp) (by simp [go_sem, resOf, leA]) ⟨rfl, by simp [go_sem, cw_upd, hpr]⟩
    · by_cases hw2 : w = 2
      · subst hw2
        have e1 : ((q : Int) + 2 - 1) = (q : Int) + 1 := by omega
        have hin2 := gin_cr R C N l k ((q : Int) + 1)
        by_cases hq1 : q + 1 < C
        · have hB2 : inB R C k ((q : Int) + 1) = true := by simp [inB, hk]; omega
          rw [hB2] at hin2
          have hpb : gputB R C k q ⟨t, 2⟩ = true := by simp only [gputB, hB, e1, hB2]; rfl
          rw [hpb]
          have hpi : gputI R C k q ⟨t, 2⟩ l = gput l i ⟨t, 2⟩ := by rw [gputI, hpb, if_pos rfl, hi]; rfl
          rw [hpi]
          have hi1 : i + 1 < N := by
            have h5 : k * C + C ≤ R * C := by rw [← Nat.succ_mul]; exact Nat.mul_le_mul_right _ hk
            omega
          have hlo := gloose_cr R C N l i hl (by omega) hiN ho
          have ll := gloose_len l i
          have hlo2 := gloose_cr R C N (gloose l i) (i + 1) (by omega) (by omega) hi1 (ho.gloose i)
          have ll2 := gloose_len (gloose l i) (i + 1)
          have hpr : gput l i ⟨t, 2⟩ = ((gloose (gloose l i) (i + 1)).set (i + 1) ⟨[], 0⟩).set i ⟨t, 2⟩ := by simp [gput]
          have ew1 := cw_put (l := gloose (gloose l i) (i + 1)) (c := i + 1) [] 0 (by omega)
          have ew2 := cw_put (l := (gloose (gloose l i) (i + 1)).set (i + 1) ⟨[], 0⟩) (c := i) t 2 (by rw [List.length_set]; omega)
          clear hpi hpb hB hi hB2
          simp (maxSteps := 1000000) (disch := omega) [go_sem, Tryd.f36, gp, clP]
          refine ⟨⟨rfl, by simp [Tryd.f47]⟩, CallK_of [([0], [0]), ([1], [1])] hin (by simp [go_sem]) ⟨by simp [go_sem], by simp [go_sem]⟩ (by simp [go_sem, gp, cw_ren, cw_upd]) ?_⟩
          rintro y rs ⟨rfl, rfl⟩
          simp (maxSteps := 1000000) (disch := omega) [go_sem, wrap64, gp, cw_ren, cw_upd, e1]
          refine ⟨⟨rfl, by simp [Tryd.f47]⟩, CallK_of [([0], [0]), ([1], [1])] hin2 (by simp [go_sem]) ⟨by simp [go_sem], by simp [go_sem]⟩ (by simp [go_sem, gp, cw_ren]) ?_⟩
          rintro y rs ⟨rfl, rfl⟩
          simp (maxSteps := 1000000) (disch := omega) [go_sem, wrap64, gp, cw_ren, cw_upd, hiI]
          refine ⟨⟨rfl, by simp [Tryd.f48]⟩, CallK_of [([0], [0]), ([1], [1])] hlo (by simp [go_sem]) ⟨by simp [go_sem], by simp [go_sem]⟩ (by simp [go_sem, gp, cw_ren]) ?_⟩
          rintro y rs ⟨rfl, rfl⟩
          simp (maxSteps := 1000000) (disch := omega) [go_sem, wrap64, gp, cw_ren, cw_upd]
          refine ⟨⟨rfl, by simp [Tryd.f48]⟩, CallK_of [([0], [0]), ([1], [1])] hlo2 (by simp [go_sem]) ⟨by simp [go_sem], by simp [go_sem]⟩ (by simp [go_sem, gp, cw_ren]) ?_⟩
          rintro y rs ⟨rfl, rfl⟩
          simp (maxSteps := 1000000) (disch := omega) [go_sem, wrap64, gp, cw_ren, cw_upd, cw_len, ll, ll2, hl, ew1, ew2]
          refine ⟨⟨by omega, by omega⟩, by omega, by omega, by omega, ?_⟩
          exact ret_keep [[0], [1]] _ (by simp) (by simp [go_sem, resOf, leA]) ⟨rfl, by simp [go_sem, cw_upd, hpr]⟩
        · have hB2 : inB R C k ((q : Int) + 1) = false := by
            have : ¬ ((q : Int) + 1 < C) := by omega
            simp [inB, this]
          rw [hB2] at hin2
          have hpb : gputB R C k q ⟨t, 2⟩ = false := by simp only [gputB, hB, e1, hB2]; rfl
          rw [hpb]
          have hpi : gputI R C k q ⟨t, 2⟩ l = l := by rw [gputI, hpb]; rfl
          rw [hpi]
          clear hpi hpb hB hi hB2
          simp (maxSteps := 1000000) (disch := omega) [go_sem, Tryd.f36, gp, clP]
          refine ⟨⟨rfl, by simp [Tryd.f47]⟩, CallK_of [([0], [0]), ([1], [1])] hin (by simp [go_sem]) ⟨by simp [go_sem], by simp [go_sem]⟩ (by simp [go_sem, gp, cw_ren, cw_upd]) ?_⟩
          rintro y rs ⟨rfl, rfl⟩
          simp (maxSteps := 1000000) (disch := omega) [go_sem, wrap64, gp, cw_ren, cw_upd, e1]
          refine ⟨⟨rfl, by simp [Tryd.f47]⟩, CallK_of [([0], [0]), ([1], [1])] hin2 (by simp [go_sem]) ⟨by simp [go_sem], by simp [go_sem]⟩ (by simp [go_sem, gp, cw_ren]) ?_⟩
          rintro y rs ⟨rfl, rfl⟩
          simp (maxSteps := 1000000) (disch := omega) [go_sem, gp, cw_ren, cw_upd]
          exact ret_keep [[0], [1]] _ (by simp) (by simp [go_sem, resOf, leA]) ⟨rfl, by simp [go_sem, cw_upd]⟩
      · have hpb : gputB R C k q ⟨t, w⟩ = false := by simp [gputB, hw1, hw2]
        rw [hpb]
        have hpi : gputI R C k q ⟨t, w⟩ l = l := by rw [gputI, hpb]; rfl
        rw [hpi]
        clear hpi hpb hB hi
        rcases Int.lt_or_le w 1 with hw | hw
        · simp (maxSteps := 1000000) (disch := omega) [go_sem, Tryd.f36, gp, clP]
          refine ⟨⟨rfl, by simp [Tryd.f47]⟩, CallK_of [([0], [0]), ([1], [1])] hin (by simp [go_sem]) ⟨by simp [go_sem], by simp [go_sem]⟩ (by simp [go_sem, gp, cw_ren, cw_upd]) ?_⟩
          rintro y rs ⟨rfl, rfl⟩
          simp (maxSteps := 1000000) (disch := omega) [go_sem, gp, cw_ren, cw_upd, hw]
          exact ret_keep [[0], [1]] _ (by simp) (by simp [go_sem, resOf, leA]) ⟨rfl, by simp [go_sem, cw_upd]⟩
        · have hw3 : ¬ (w < 1) := by omega
          have hw4 : 2 < w := by omega
          simp (maxSteps := 1000000) (disch := omega) [go_sem, Tryd.f36, gp, clP]
          refine ⟨⟨rfl, by simp [Tryd.f47]⟩, CallK_of [([0], [0]), ([1], [1])] hin (by simp [go_sem]) ⟨by simp [go_sem], by simp [go_sem]⟩ (by simp [go_sem, gp, cw_ren, cw_upd]) ?_⟩
          rintro y rs ⟨rfl, rfl⟩
          simp (maxSteps := 1000000) (disch := omega) [go_sem, gp, cw_ren, cw_upd, hw3, hw4]
          exact ret_keep [[0], [1]] _ (by simp) (by simp [go_sem, resOf, leA]) ⟨rfl, by simp [go_sem, cw_upd]⟩
  · have hB' : inB R C r c = false := by simpa using hB
    rw [hB'] at hin
    have hpb : gputB R C r c ⟨t, w⟩ = false := by simp [gputB, hB']
    rw [hpb]
    have hpi : gputI R C r c ⟨t, w⟩ l = l := by rw [gputI, hpb]; rfl
    rw [hpi]
    clear hpi hpb hB hB'
    simp (maxSteps := 1000000) (disch := omega) [go_sem, Tryd.f36, gp, clP]
    refine ⟨⟨rfl, by simp [Tryd.f47]⟩, CallK_of [([0], [0]), ([1], [1])] hin (by simp [go_sem]) ⟨by simp [go_sem], by simp [go_sem]⟩ (by simp [go_sem, gp, cw_ren, cw_upd]) ?_⟩
    rintro y rs ⟨rfl, rfl⟩
    simp (maxSteps := 1000000) (disch := omega) [go_sem, gp, cw_ren, cw_upd]
    exact ret_keep [[0], [1]] _ (by simp) (by simp [go_sem, resOf, leA]) ⟨rfl, by simp [go_sem, cw_upd]⟩
theorem gput_len (l : Row) (i : Nat) (x : Cl) : (gput l i x).length = l.length := by
  unfold gput
  split <;> simp [gloose_len]
theorem gputI_len (R C : Nat) (r c : Int) (x : Cl) (l : Row) : (gputI R C r c x l).length = l.length := by
  unfold gputI
  split
  · exact gput_len _ _ _
  · rfl
theorem gputI_ok (R C : Nat) (r c : Int) (x : Cl) (l : Row) (hl : l.length = R * C) (h : OkR l) : OkR (gputI R C r c x l) := by
  unfold gputI
  split
  · rename_i hb
    have hb' : ((((0 ≤ r ∧ r < R) ∧ 0 ≤ c) ∧ c < C) ∧ (x.w = 1 ∨ x.w = 2)) ∧ ((0 ≤ r ∧ r < R) ∧ 0 ≤ c + x.w - 1) ∧ c + x.w - 1 < C := by simpa [gputB, inB] using hb
    obtain ⟨⟨⟨⟨⟨h0, h0'⟩, h1⟩, h2⟩, h3⟩, _, h4⟩ := hb'
    have hk : r.toNat * C + C ≤ R * C := by rw [← Nat.succ_mul]; exact Nat.mul_le_mul_right _ (by omega)
    unfold gput
    by_cases hw : x.w = 2
    · rw [if_pos hw]
      refine (((h.gloose _).gloose _).set _ _ (fun _ => by omega) (fun e => by simp at e)).set _ _ (fun e => by omega) (fun _ => ?_)
      rw [List.length_set, gloose_len, gloose_len, hl]
      omega
    · rw [if_neg hw]
      exact (h.gloose _).set _ _ (fun e => by omega) (fun e => absurd e hw)
  · exact h
/-- So many cells, made blank from a place on. -/
def gerP (l : Row) (i : Nat) : Nat → Row
  | 0 => l
  | j + 1 => gloose (gerP l i j) (i + j)
theorem gerP_len (l : Row) (i j : Nat) : (gerP l i j).length = l.length := by
  induction j with
  | zero => rfl
  | succ j ih => rw [gerP, gloose_len, ih]
theorem gerP_ok (l : Row) (i j : Nat) (h : OkR l) : OkR (gerP l i j) := by
  induction j with
  | zero => exact h
  | succ j ih => exact ih.gloose _
def gerI (R C : Nat) (r c : Int) (l : Row) : Row := if (0 ≤ r ∧ r < R) ∧ 0 ≤ c then gerP l (r.toNat * C + c.toNat) (C - c.toNat) else l
theorem gerI_len (R C : Nat) (r c : Int) (l : Row) : (gerI R C r c l).length = l.length := by
  unfold gerI
  split
  · exact gerP_len _ _ _
  · rfl
theorem gerI_ok (R C : Nat) (r c : Int) (l : Row) (h : OkR l) : OkR (gerI R C r c l) := by
  unfold gerI
  split
  · exact gerP_ok _ _ _ h
  · exact h
theorem gerase_cr (R C N : Nat) (l : Row) (r c : Int) (hN : N = R * C) (hR : R ≤ 500) (hC : C ≤ 1000) (hl : l.length = N) (ho : OkR l) :
    CR Tryd.prog 34 [[0], [1]] [.lp [0] 0, .p (.int .i64 r), .p (.int .i64 c)] (gp R C N l) (fun v rs' => v = .tup [] ∧ rs' = gp R C N (gerI R C r c l)) := by
  have hNb : N ≤ 500000 := by rw [hN]; exact Nat.mul_le_mul hR hC
  refine CR_of_wp mixed 3 [] Tryd.func34 rfl (by kernel_rfl) rfl (by simp) (by simp) ?_
  by_cases hB : (0 ≤ r ∧ r < R) ∧ 0 ≤ c
  · obtain ⟨⟨h0, h1⟩, h2⟩ := hB
    have hei : gerI R C r c l = gerP l (r.toNat * C + c.toNat) (C - c.toNat) := by rw [gerI]; exact if_pos ⟨⟨h0, h1⟩, h2⟩
    rw [hei]
    obtain ⟨q, rfl⟩ : ∃ q : Nat, c = q := ⟨c.toNat, by omega⟩
    obtain ⟨k, rfl⟩ : ∃ k : Nat, r = k := ⟨r.toNat, by omega⟩
    have hk : k < R := by omega
    simp only [Int.toNat_natCast]
    obtain ⟨m, hm⟩ : ∃ m, m = k * C := ⟨_, rfl⟩
    have hmI : (k : Int) * (C : Int) = (m : Int) := by rw [hm]; simp
    have hmN : m + C ≤ N := by rw [hm, hN, ← Nat.succ_mul]; exact Nat.mul_le_mul_right _ hk
    rw [← hm]
    clear hei hm hN
    simp (maxSteps := 1000000) (disch := omega) [go_sem, Tryd.f34, gp]
    refine wpA_loop (fun j : Nat => j ≤ C - q) (fun j => { n := 22, nv := 3, vs := [(0, .lp [0] 0), (1, .p (.int .i64 k)), (2, .p (.int .i64 ((q : Int) + j)))], ts := [], rs := [([0], [.p (.int .i64 R), .p (.int .i64 C), .la [1] 2 0 N]), ([1], cw (gerP l (m + q) j))], pin := [[0], [1]] }) (fun j => C - q - j) 0 (by simp) (by simp [go_sem, LeS, leV, leR, leA, leL, leL_refl, cw_upd, gerP]) ?_
    intro j hj
    have hin := gin_cr R C N (gerP l (m + q) j) k ((q : Int) + j)
    have lp := gerP_len l (m + q) j
    have op := gerP_ok l (m + q) j ho
    have es : gerP l (m + q) (j + 1) = gloose (gerP l (m + q) j) (m + q + j) := rfl
    simp (maxSteps := 1000000) (disch := omega) [go_sem]
    refine ⟨⟨rfl, by simp [Tryd.f47]⟩, CallK_of [([0], [0]), ([1], [1])] hin (by simp [go_sem]) ⟨by simp [go_sem], by simp [go_sem]⟩ (by simp [go_sem, gp, cw_ren]) ?_⟩
    rintro y rs ⟨rfl, rfl⟩
    by_cases hqj : q + j < C
    · have hB2 : inB R C k ((q : Int) + j) = true := by simp [inB, hk]; omega
      have hlo := gloose_cr R C N (gerP l (m + q) j) (m + q + j) (by omega) (by omega) (by omega) op
      have e2 : (m : Int) + ((q : Int) + j) = ((m + q + j : Nat) : Int) := by omega
      simp (maxSteps := 1000000) (disch := omega) [go_sem, wrap64, gp, cw_ren, cw_upd, hB2, hmI]
      rw [e2]
      refine ⟨⟨rfl, by simp [Tryd.f48]⟩, CallK_of [([0], [0]), ([1], [1])] hlo (by simp [go_sem]) ⟨by simp [go_sem], by simp [go_sem]⟩ (by simp [go_sem, gp, cw_ren]) ?_⟩
      rintro y rs ⟨rfl, rfl⟩
      simp (maxSteps := 1000000) (disch := omega) [go_sem, wrap64, gp, cw_ren, cw_upd]
      refine LoopK_next (j + 1) (by omega) (by simp [go_sem, LeS, leV, leR, leA, leL, leL_refl, cw_upd, es]; omega) (by omega)
    · have hB2 : inB R C k ((q : Int) + j) = false := by
        have : ¬ ((q : Int) + j < C) := by omega
        simp [inB, this]
      obtain rfl : j = C - q := by omega
      simp (maxSteps := 1000000) (disch := omega) [go_sem, gp, cw_ren, cw_upd, hB2]
      exact ret_keep [[0], [1]] _ (by simp) (by simp [go_sem, resOf]) ⟨rfl, by simp [go_sem, cw_upd]⟩
  · have hei : gerI R C r c l = l := by rw [gerI]; exact if_neg hB
    rw [hei]
    have hin := gin_cr R C N l r c
    have hb : inB R C r c = false := by
      by_cases a : 0 ≤ r <;> by_cases b : r < R <;> by_cases d : 0 ≤ c <;> simp [inB, a, b, d]
      exact absurd ⟨⟨a, b⟩, d⟩ hB
    rw [hb] at hin
    clear hei
    simp (maxSteps := 1000000) (disch := omega) [go_sem, Tryd.f34, gp]
    refine wpA_loop (fun j : Nat => j = 0) (fun j => { n := 22, nv := 3, vs := [(0, .lp [0] 0), (1, .p (.int .i64 r)), (2, .p (.int .i64 c))], ts := [], rs := [([0], [.p (.int .i64 R), .p (.int .i64 C), .la [1] 2 0 N]), ([1], cw l)], pin := [[0], [1]] }) (fun j => 0) 0 (by simp) (by simp [go_sem, LeS, leV, leR, leA, leL, leL_refl, cw_upd]) ?_
    rintro j rfl
    simp (maxSteps := 1000000) (disch := omega) [go_sem]
    refine ⟨⟨rfl, by simp [Tryd.f47]⟩, CallK_of [([0], [0]), ([1], [1])] hin (by simp [go_sem]) ⟨by simp [go_sem], by simp [go_sem]⟩ (by simp [go_sem, gp, cw_ren]) ?_⟩
    rintro y rs ⟨rfl, rfl⟩
    simp (maxSteps := 1000000) (disch := omega) [go_sem, gp, cw_ren, cw_upd]
    exact ret_keep [[0], [1]] _ (by simp) (by simp [go_sem, resOf]) ⟨rfl, by simp [go_sem, cw_upd]⟩
def rowP (l : Row) : PV := .sl 2 (l.map clP)
attribute [go_sem] rowP
theorem cw_flat (l : Row) : cw l = ((l.map clP).flatMap PV.cells).map .p := by
  induction l with
  | nil => rfl
  | cons c l ih => 
    simp only [List.map_cons, List.flatMap_cons, List.map_append, ← ih]
    rfl
theorem rowP_fits (l : Row) : ∀ e ∈ l.map clP, e.cells.length = 2 ∧ e.fits = true := by
  intro e he
  simp only [List.mem_map] at he
  obtain ⟨c, _, rfl⟩ := he
  exact ⟨rfl, rfl⟩
theorem clone_cr (l : Row) (m n : Nat) (hn : 0 < n) (hb : m + n ≤ l.length) (hbig : n ≤ 1000000) :
    CR Tryd.prog 51 [[0]] [.la [0] 2 (m * 2) n] [([0], cw l)] (fun x rs' => x = .p (rowP ((l.drop m).take n)) ∧ rs' = [([0], cw l)]) := by
  intro w g vs hargs hG
  simp only [RepAL, RepA] at hargs
  obtain ⟨v, vs', rfl, ⟨b, o', cap, hk, rfl, hcap, ho, hblk⟩, rfl⟩ := hargs
  obtain rfl : 2 * m = o' := by have := ho.resolve_left (by omega); omega
  obtain ⟨cs, hl, h0, arr, T, hbk, hle, hc⟩ := hG.roots b _ hk
  have hl' : cs = cw l := by simpa [lookT] using hl.symm
  subst hl'
  rw [cw_len] at hle
  have hbw := hG.own b (by rw [hk]; simp)
  let ds := (arr.toList.drop (2 * m)).take (n * 2)
  have hds : ds.length = n * 2 := by simp only [ds, List.length_take, List.length_drop, Array.length_toList]; omega
  have hget : ∀ (j : Nat) (u : Value), ds[j]? = some u → arr[2 * m + j]? = some u ∧ j < n * 2 := fun j u hj => by
    have hj2 : j < n * 2 := by rw [← hds]; exact (List.getElem?_eq_some_iff.1 hj).1
    simp only [ds, List.getElem?_take, hj2, if_true, List.getElem?_drop] at hj
    exact ⟨by simpa using hj, hj2⟩
  have hcell : ∀ (j : Nat) (u : Value), ds[j]? = some u → w.cell? ⟨b, 2 * m + j, none⟩ = some u := fun j u hj => by
    rw [cell_of_cells hbk]; exact (hget j u hj).1
  have hat : ∀ (j : Nat) (u : Value), ds[j]? = some u → ∃ x, (cw l)[2 * m + j]? = some x ∧ u.oneCell' = true ∧ RepA g w x u := fun j u hj => by
    obtain ⟨h1, h2⟩ := hget j u hj
    obtain ⟨x, hx⟩ : ∃ x, (cw l)[2 * m + j]? = some x := ⟨_, List.getElem?_eq_getElem (by rw [cw_len]; omega)⟩
    obtain ⟨u', hu', h3, h4⟩ := hc _ x hx
    rw [h1] at hu'; injection hu' with hu'; subst hu'
    exact ⟨x, hx, h3, h4⟩
  have hone : ∀ u ∈ ds, u.oneCell' = true := fun u hu => by
    obtain ⟨j, hj⟩ := List.mem_iff_getElem?.1 hu
    exact (hat j u hj).choose_spec.2.1
  obtain ⟨G, hGn, hG63, hcall⟩ := clone62_some b (2 * m) n cap ds w hn (by omega) hds hcell hone
  refine hcall.mono ?_
  rintro e w' ⟨rfl, hw⟩
  obtain ⟨B, hB⟩ : ∃ B, B = w.heap.size + 1 := ⟨_, rfl⟩
  have hs : ((w.alloc (.cells #[] 96)).drew).heap.size = w.heap.size + 1 := by simp [drew_heap]
  have hsz : w'.heap.size = w.heap.size + 2 := by rw [hw]; simp [hs]
  have hold : ∀ d, d < w.heap.size → w'.heap[d]? = w.heap[d]? := fun d hd => by
    rw [hw, heap_alloc, hs, if_neg (by omega), drew_heap, heap_alloc, if_neg (by omega)]
  have hnew : w'.heap[B]? = some (.cells (ds.toArray ++ Builtin.zeroCells ((.agg #[.string ByteArray.empty, .int .i64 0]) : Value).cells (G - n)) 96 (0, 0)) := by
    rw [hw, heap_alloc, hs, if_pos hB]
  have hout : w'.os = w.os ∧ w'.tape = w.tape ∧ w'.output = w.output := by rw [hw]; exact ⟨rfl, rfl, rfl⟩
  clear hw hcall
  let g2 : Gh := ⟨updN g.fr B (n * 2), g.K⟩
  have hBp : ∀ d, g.K d ≠ .prot → d ≠ B := fun d hd e => by have := hG.own d hd; omega
  have hx : Ext g.fr w g2.fr w' := fun d o hd => by
    have hlt : d < w.heap.size := by
      rcases Nat.lt_or_ge d w.heap.size with h | h
      · exact h
      · have := hG.frb d h; omega
    exact ⟨by show o < updN g.fr B _ d; rw [updN_ne _ _ _ (by omega)]; exact hd, same_of_heap (hold d hlt)⟩
  have hBlk : ∀ c u, g.K c = .root u → ∀ k, Blk w c k → Blk w' c k := fun c u hk k h => Blk.of_heap (hold c (hG.own c (by rw [hk]; simp))) h
  have hkeep : ∀ (x : AV) (u : Value), RepA g w x u → RepA g2 w' (fil1 ftt ftt x) u := fun x u => RepA.flat1 (g := g) (g' := g2) (w := w) (w' := w') (rt := ftt) (tt := ftt)
    ⟨hx, fun c u _ hk => ⟨hk, hBlk c u hk⟩, fun c u _ hk => ⟨hk, updN_ne _ _ _ (hBp c (by rw [hk]; simp)), hold c (hG.own c (by rw [hk]; simp))⟩⟩ x u
  have hcwp : ∀ (j : Nat) (x : AV), (cw l)[j]? = some x → ∃ p, x = .p p := fun j x hj => by
    rw [cw_flat, List.getElem?_map, Option.map_eq_some_iff] at hj
    obtain ⟨p, _, rfl⟩ := hj
    exact ⟨p, rfl⟩
  have hE : RepE g2.fr w' 2 B (((l.drop m).take n).map clP) 0 := by
    refine RepE_of_flat (vs := ds) ?_ (rowP_fits _) (fun j u hj => ?_)
    · have hL : ∀ (es : List PV) (k : Nat) (us : List Value), ((l.map clP).flatMap PV.cells).drop (2 * m + k) = es ++ (((l.map clP).flatMap PV.cells).drop (2 * m + n * 2)) → us = ds.drop k → k + es.length = n * 2 → RepL g2.fr w' es us := by
        intro es
        induction es with
        | nil =>
          intro k us _ e hk2
          subst e
          have hk3 : k = n * 2 := by simpa using hk2
          rw [List.drop_of_length_le (by rw [hds]; omega)]
          simp only [RepL]
        | cons e es ih =>
          intro k us hd e2 hk2
          subst e2
          have hkl : k < ds.length := by rw [hds]; simp at hk2; omega
          rw [List.drop_eq_getElem_cons hkl]
          obtain ⟨x, hx1, hx2, hx3⟩ := hat k _ (List.getElem?_eq_getElem hkl)
          have hxe : x = .p e := by
            have h1 : ((l.map clP).flatMap PV.cells)[2 * m + k]? = some e := by
              rw [← Nat.add_zero (2 * m + k), ← List.getElem?_drop, hd]; rfl
            rw [cw_flat, List.getElem?_map, h1] at hx1
            exact (Option.some.inj hx1).symm
          subst hxe
          simp only [RepA] at hx3
          simp only [RepL]
          refine ⟨_, _, rfl, hx2, hx3.ext hx, ih (k + 1) _ ?_ rfl (by simp at hk2; omega)⟩
          rw [show 2 * m + (k + 1) = (2 * m + k) + 1 from by omega, ← List.drop_drop, hd]; rfl
      refine hL _ 0 ds ?_ rfl ?_
      · rw [Nat.add_zero]
        have e1 : ∀ (q : Row) (j : Nat), ((q.drop j).map clP).flatMap PV.cells = ((q.map clP).flatMap PV.cells).drop (2 * j) := by
          intro q
          induction q with
          | nil => intro j; simp
          | cons c q ih =>
            intro j
            cases j with
            | zero => rfl
            | succ j => rw [show 2 * (j + 1) = 2 * j + 2 from by omega]; exact ih j
        rw [← e1 l m, show 2 * m + n * 2 = 2 * (m + n) from by omega, ← e1 l (m + n), ← List.flatMap_append, ← List.map_append, ← List.drop_drop, List.take_append_drop]
      · have : ∀ q : Row, ((q.map clP).flatMap PV.cells).length = 2 * q.length := by
          intro q
          induction q with
          | nil => rfl
          | cons c q ih => rw [List.map_cons, List.flatMap_cons, List.length_append, ih]; simp [clP, PV.cells]; omega
        rw [this]; simp; omega
    · rw [cell_of_cells hnew, Nat.zero_add, Array.getElem?_append_left (by simpa [hds] using (List.getElem?_eq_some_iff.1 hj).1)]
      simpa using hj
  have hA : Aft g w g2 w' [[0]] := ⟨fun d hd hkd => ⟨hold d hd, updN_ne _ _ _ (by omega), hkd⟩, hx, hout, by omega, fun c u hk _ => ⟨hk, hBlk c u hk⟩⟩
  refine ⟨_, .p (rowP ((l.drop m).take n)), [([0], cw l)], g2, rfl, ⟨rfl, rfl⟩, ?_, ?_, ?_⟩
  · rw [rowP]
    simp only [RepA, RepP]
    refine .inr ⟨B, 0, G, ?_, ?_, ?_, hE⟩
    · simp [hB]; omega
    · simp; omega
    · show _ ≤ updN g.fr B _ B
      rw [updN_same]; simp; omega
  · refine ⟨fun c u hc => ?_, hG.ur, hG.ut, fun c hc => by have := hG.own c hc; omega, fun c hc => ?_, hG.gl.aft hA⟩
    · obtain ⟨cs, hl2, h02, arr2, T2, hb2, hle2, hc2⟩ := hG.roots c u hc
      refine ⟨cs, hl2, (by show updN g.fr B _ c = 0; rw [updN_ne _ _ _ (hBp c (by rw [hc]; simp))]; exact h02), arr2, T2, by rw [hold c (hG.own c (by rw [hc]; simp))]; exact hb2, hle2, fun j x hj => ?_⟩
      obtain ⟨v, h1, h2, h3⟩ := hc2 j x hj
      refine ⟨v, h1, h2, ?_⟩
      have hcs : cs = cw l := by
        by_cases hu : u = [0]
        · subst hu; simpa [lookT] using hl2.symm
        · simp [lookT, Ne.symm hu] at hl2
      subst hcs
      obtain ⟨p, rfl⟩ := hcwp j x hj
      exact hkeep _ _ h3
    · show updN g.fr B _ c = 0
      rw [updN_ne _ _ _ (by omega)]
      exact hG.frb c (by omega)
  · exact hA
theorem size_cr (R C N : Nat) (l : Row) : CR Tryd.prog 38 [[0], [1]] [.lp [0] 0] (gp R C N l) (fun x rs' => x = .tup [.p (.int .i64 R), .p (.int .i64 C)] ∧ rs' = gp R C N l) := by
  refine CR_of_wpD [3] mixed 4 [] Tryd.func38 rfl (by kernel_rfl) rfl (by simp) (by simp) ?_
  simp (maxSteps := 1000000) (disch := omega) [go_sem, Tryd.f38, gp]
  exact ret_keep [[0], [1]] _ (by simp) (by simp [go_sem, resOf, leA]) ⟨rfl, by simp [go_sem, cw_upd]⟩
/-- A row's cells. -/
def rowOf (C : Nat) (l : Row) (k : Nat) : Row := (l.drop (k * C)).take C
theorem rowOf_len {R C : Nat} {l : Row} {k : Nat} (hl : l.length = R * C) (hk : k < R) : (rowOf C l k).length = C := by
  have h5 : k * C + C ≤ R * C := by rw [← Nat.succ_mul]; exact Nat.mul_le_mul_right _ hk
  simp only [rowOf, List.length_take, List.length_drop]; omega
theorem grow_lk (R C N : Nat) (l : Row) (k : Nat) (hN : N = R * C) (hR : R ≤ 500) (hC : 0 < C ∧ C ≤ 1000) (hl : l.length = N) (hk : k < R) :
    CR Tryd.prog 40 [[0], [1]] [.lp [0] 0, .p (.int .i64 k)] (gp R C N l) (fun x rs' => x = .p (rowP (rowOf C l k)) ∧ lookT rs' [0] = some [.p (.int .i64 R), .p (.int .i64 C), .la [1] 2 0 N] ∧ lookT rs' [1] = some (cw l)) := by
  have hNb : N ≤ 500000 := by rw [hN]; exact Nat.mul_le_mul hR hC.2
  have hin := gin_cr R C N l k 0
  have hB : inB R C k 0 = true := by simp [inB]; omega
  rw [hB] at hin
  have h5 : k * C + C ≤ N := by rw [hN, ← Nat.succ_mul]; exact Nat.mul_le_mul_right _ hk
  obtain ⟨m, hm⟩ : ∃ m, m = k * C := ⟨_, rfl⟩
  have hmI : (k : Int) * (C : Int) = (m : Int) := by rw [hm]; simp
  have hmI2 : ((k : Int) + 1) * (C : Int) = ((m + C : Nat) : Int) := by rw [Int.add_mul, hmI]; simp
  have hcl := clone_cr l m C hC.1 (by omega) (by omega)
  rw [rowOf, ← hm]
  rw [← hm] at h5
  obtain ⟨q, hq⟩ : ∃ q, q = (l.drop m).take C := ⟨_, rfl⟩
  rw [← hq] at hcl ⊢
  clear hq
  clear hm hN hB
  refine CR_of_wp mixed 5 [] Tryd.func40 rfl (by kernel_rfl) rfl (by simp) (by simp) ?_
  simp (maxSteps := 1000000) (disch := omega) [go_sem, Tryd.f40, gp]
  refine ⟨⟨rfl, by simp [Tryd.f47]⟩, CallK_of [([0], [0]), ([1], [1])] hin (by simp [go_sem]) ⟨by simp [go_sem], by simp [go_sem]⟩ (by simp [go_sem, gp, cw_ren]) ?_⟩
  rintro y rs ⟨rfl, rfl⟩
  simp (maxSteps := 1000000) (disch := omega) [go_sem, wrap64, gp, cw_ren, cw_upd, hmI, hmI2]
  have e1 : ((m : Int) + (C : Int)).toNat - m = C := by omega
  rw [e1]
  refine ⟨by omega, ⟨rfl, by simp [Tryd.f51]⟩, CallK_of [([0], [1])] hcl (by simp [go_sem]) ⟨by simp [go_sem], by simp [go_sem]⟩ (by simp [go_sem, cw_ren]) ?_⟩
  rintro y rs ⟨rfl, rfl⟩
  simp (maxSteps := 1000000) (disch := omega) [go_sem, cw_ren, cw_upd]
  exact ret_keep [[0], [1]] _ (by simp) (by simp [go_sem, resOf, leA]) ⟨rfl, by simp [go_sem, cw_upd]⟩
theorem grow_cr (R C N : Nat) (l : Row) (k : Nat) (hN : N = R * C) (hR : R ≤ 500) (hC : 0 < C ∧ C ≤ 1000) (hl : l.length = N) (hk : k < R) :
    CR Tryd.prog 40 [[0], [1]] [.lp [0] 0, .p (.int .i64 k)] (gp R C N l) (fun x rs' => x = .p (rowP (rowOf C l k)) ∧ rs' = gp R C N l) := by
  refine (grow_lk R C N l k hN hR hC hl hk).ren 1000 ?_
  rintro x rs' ⟨rfl, h0, h1⟩
  exact ⟨[([0], [0]), ([1], [1])], rfl, rfl, rfl, by simp [rootsR, St.ofR, h0, h1, gp, cw_ren, AV.ren, AV.upd, renG, renF, inM]⟩
theorem cw_two {l : Row} {c : Nat} (h : c < l.length) : List.take 2 (List.drop (c * 2) (cw l)) = [.p (.str l[c].t), .p (.int .i64 l[c].w)] := by
  rw [cw_drop, List.drop_eq_getElem_cons h]
  rfl
theorem cl_eq (x y : Cl) : (x.t = y.t ∧ x.w = y.w) ↔ x = y := by
  cases x; cases y; simp
/-- Two grids. -/
def gpp (R C N : Nat) (l : Row) (R' C' N' : Nat) (l' : Row) : List (Tok × List AV) :=
  [([0], [.p (.int .i64 R), .p (.int .i64 C), .la [1] 2 0 N]), ([1], cw l), ([2], [.p (.int .i64 R'), .p (.int .i64 C'), .la [3] 2 0 N']), ([3], cw l')]
/-- The two grids are found, whatever their roots' order. -/
structure Gpp (rs' : List (Tok × List AV)) (R C N : Nat) (l : Row) (R' C' N' : Nat) (l' : Row) : Prop where
  r0 : lookT rs' [0] = some [.p (.int .i64 R), .p (.int .i64 C), .la [1] 2 0 N]
  r1 : lookT rs' [1] = some (cw l)
  r2 : lookT rs' [2] = some [.p (.int .i64 R'), .p (.int .i64 C'), .la [3] 2 0 N']
  r3 : lookT rs' [3] = some (cw l')
theorem CR.gpp {f : FuncId} {args : List AV} {rs : List (Tok × List AV)} {x0 : PV} {R C N : Nat} {l : Row} {R' C' N' : Nat} {l' : Row} (h : CR Tryd.prog f [[0], [1], [2], [3]] args rs (fun x rs' => x = .p x0 ∧ Gpp rs' R C N l R' C' N' l')) :
    CR Tryd.prog f [[0], [1], [2], [3]] args rs (fun x rs' => x = .p x0 ∧ rs' = gpp R C N l R' C' N' l') := by
  refine h.ren 1000 ?_
  rintro x rs' ⟨rfl, h0, h1, h2, h3⟩
  exact ⟨[([0], [0]), ([1], [1]), ([2], [2]), ([3], [3])], rfl, rfl, rfl, by simp [rootsR, St.ofR, h0, h1, h2, h3, Go.Proofs.YtjgfmanahimpoaaDoor.gpp, cw_ren, AV.ren, AV.upd, renG, renF, inM]⟩
end Go.Proofs.YtjgfmanahimpoaaDoor

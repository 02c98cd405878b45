/- What diff's row does, as a contract of the abstract machine. Conditions: as each law says. -/
import Derived.Test.YtjgfmanahimpoaaGriD
namespace Go.Proofs.Ytjgfmanahimpoaa
open Go.AM
set_option maxHeartbeats 1600000
set_option maxRecDepth 10000
/-- The first cell that is another one; -1, if there is none. -/
def dF (a b : Row) : Nat → Int
  | 0 => -1
  | i + 1 => if dF a b i < 0 ∧ a.getD i blk ≠ b.getD i blk then i else dF a b i
/-- Behind the last cell that is not blank. -/
def dL (b : Row) : Nat → Int
  | 0 => 0
  | i + 1 => if b.getD i blk ≠ blk then i + 1 else dL b i
/-- So many cells' texts. -/
def dT (b : Row) (f : Nat) : Nat → List UInt8
  | 0 => []
  | j + 1 => dT b f j ++ (b.getD (f + j) blk).t
theorem dF_bd (a b : Row) (i : Nat) : -1 ≤ dF a b i ∧ dF a b i < i ∨ i = 0 ∧ dF a b i = -1 := by
  induction i with
  | zero => exact .inr ⟨rfl, rfl⟩
  | succ i ih =>
    left
    rw [dF]
    split <;> omega
theorem dL_bd (b : Row) (i : Nat) : 0 ≤ dL b i ∧ dL b i ≤ i := by
  induction i with
  | zero => exact ⟨Int.le_refl _, Int.le_refl _⟩
  | succ i ih =>
    rw [dL]
    split <;> omega
theorem at_P {l : Row} {i : Nat} (h : i < l.length) : (l.map clP)[i]? = some (.agg [.str l[i].t, .int .i64 l[i].w]) := by
  rw [List.getElem?_map, List.getElem?_eq_getElem h]; rfl
theorem elemAt_P {l : Row} {i : Nat} (h : i < l.length) : elemAt (l.map clP) i = .agg [.str l[i].t, .int .i64 l[i].w] := by
  rw [elemAt, List.getD_eq_getElem?_getD, at_P h]; rfl
/-- A row's reading, on its way. -/
def drSt (r : Int) (n : Nat) (a b : Row) (i : Nat) (f l m : Int) (ts : List (Nat × AV)) : St :=
  { n := 85, nv := 13, vs := [(1, .p (.sl 2 (a.map clP))), (2, .p (.sl 2 (b.map clP))), (6, .lp [6] 0), (7, .p (.bool false)), (8, .lp [8] 0), (9, .p (.int .i64 l)), (10, .p (.int .i64 m)), (16, .p (.int .i64 n)), (17, .p (.int .i64 i)), (11, .p (.int .i64 i))], ts := ts, rs := [([6], [.p (.int .i64 0), .p (.int .i64 0), .p (.int .i64 0), .p (.str []), .p (.bool false)]), ([8], [.p (.int .i64 r), .p (.int .i64 f), .p (.int .i64 0), .p (.str []), .p (.bool false)])], ex := [16, 17] }
def dRow (r : Int) (a b : Row) (n : Nat) : PV :=
  if dF a b n < 0 then .agg [.int .i64 0, .int .i64 0, .int .i64 0, .str [], .bool false]
  else .agg [.int .i64 r, .int .i64 (dF a b n), .int .i64 (max (dL b n) (dF a b n)), .str (dT b (dF a b n).toNat (max (dL b n) (dF a b n) - dF a b n).toNat), .bool (decide (max (dL b n) (dF a b n) < dL a n))]
theorem dT_len {b : Row} (hb : ∀ c ∈ b, c.t.length ≤ 4294967296) (f j : Nat) : (dT b f j).length ≤ j * 4294967296 := by
  induction j with
  | zero => simp [dT]
  | succ j ih =>
    rw [dT, List.length_append]
    have : (b.getD (f + j) blk).t.length ≤ 4294967296 := by
      rw [List.getD_eq_getElem?_getD]
      rcases h : b[f + j]? with _ | c
      · decide
      · exact hb c (List.mem_of_getElem? h)
    omega
theorem drow_cr (r : Int) (n : Nat) (a b : Row) (h1 : a.length = n) (h2 : b.length = n) (hb : n ≤ 1000000) (ht : 0 ≤ dF a b n → ∀ c ∈ b, c.t.length ≤ 4294967296) :
    CR Try.prog 43 [] [.p (.int .i64 r), .p (rowP a), .p (rowP b)] [] (is (.tup [.p (dRow r a b n), .p (.bool (decide (0 ≤ dF a b n)))])) := by
  refine CR_of_wpD [6, 8, 10, 19] mixed 13 [16, 17] Try.func43 rfl (by kernel_rfl) rfl (by simp) (by simp) ?_
  simp (maxSteps := 1000000) (disch := omega) [go_sem, Try.f43]
  refine wpA_loop (fun i : Nat => i ≤ n) (fun i => { n := 85, nv := 13, vs := [(1, .p (.sl 2 (a.map clP))), (2, .p (.sl 2 (b.map clP))), (6, .lp [6] 0), (7, .p (.bool false)), (8, .lp [8] 0), (9, .p (.int .i64 (dL b i))), (10, .p (.int .i64 (dL a i))), (16, .p (.int .i64 n)), (17, .p (.int .i64 i))], ts := [], rs := [([6], [.p (.int .i64 0), .p (.int .i64 0), .p (.int .i64 0), .p (.str []), .p (.bool false)]), ([8], [.p (.int .i64 r), .p (.int .i64 (dF a b i)), .p (.int .i64 0), .p (.str []), .p (.bool false)])], ex := [16, 17] }) (fun i => n - i) 0 (by simp) (by simp [go_sem, LeS, leV, leR, leA, leL, dF, dL, h2]) ?_
  intro i hi
  simp (maxSteps := 1000000) (disch := omega) [go_sem]
  refine condK_if (fun h => ?_) (fun h => ?_)
  · have hi1 : i < a.length := by omega
    have hi2 : i < b.length := by omega
    have hin : i < n := by omega
    have ea := elemAt_P hi1
    have eb := elemAt_P hi2
    have eF : dF a b (i + 1) = if dF a b i < 0 ∧ a[i] ≠ b[i] then (i : Int) else dF a b i := by rw [dF, row_getD hi1, row_getD hi2]
    have eL : ∀ l : Row, ∀ h : i < l.length, dL l (i + 1) = if l[i] ≠ blk then (i : Int) + 1 else dL l i := fun l h => by rw [dL, row_getD h]
    have eA := eL a hi1
    have eB := eL b hi2
    clear eL
    simp (maxSteps := 1000000) (disch := omega) [go_sem, ea, eb, h1, h2, hin]
    refine condK_join (ι := List (Nat × AV)) (fun ts => drSt r n a b i (dF a b (i + 1)) (dL b i) (dL a i) ts) (condK_split (fun h3 => ?_) (fun h3 => ?_)) ?_
    · have hc : dF a b i < 0 ∧ a[i] ≠ b[i] := by
        refine ⟨by simp at h3; exact h3.1, fun e => ?_⟩
        rw [e] at h3; simp at h3
      rw [if_pos hc] at eF
      rw [eF]
      simp (maxSteps := 1000000) (disch := omega) [go_sem]
      exact JoinK_in _ rfl
    · have hc : ¬ (dF a b i < 0 ∧ a[i] ≠ b[i]) := by
        rintro ⟨h4, h5⟩
        apply h5
        rw [← cl_eq]
        simpa [h4] using h3
      rw [if_neg hc] at eF
      rw [eF]
      simp (maxSteps := 1000000) (disch := omega) [go_sem]
      exact JoinK_in _ rfl
    · clear eF
      intro ts
      simp (maxSteps := 1000000) (disch := omega) [go_sem, eb, h2, hin, drSt]
      refine HCallK_of (.p (clP blk)) rfl rfl (fun _ => pcallA_of 56 gblank_cr rfl ⟨rfl, by simp [Try.f56]⟩ ⟨by simp [go_sem], by simp [go_sem]⟩) ?_
      simp (maxSteps := 1000000) (disch := omega) [go_sem, clP, blk]
      refine condK_join (ι := List (Nat × AV)) (fun ts => drSt r n a b i (dF a b (i + 1)) (dL b (i + 1)) (dL a i) ts) (condK_split (fun h3 => ?_) (fun h3 => ?_)) ?_
      · have hc : b[i] ≠ blk := fun e => by
          rw [e] at h3; simp [blk] at h3
        rw [if_pos hc] at eB
        rw [eB]
        simp (maxSteps := 1000000) (disch := omega) [go_sem, wrap64]
        exact JoinK_in _ rfl
      · have hc : b[i] = blk := by
          rw [← cl_eq]; simpa [blk] using h3
        rw [if_neg (by simp [hc])] at eB
        rw [eB]
        simp (maxSteps := 1000000) (disch := omega) [go_sem]
        exact JoinK_in _ rfl
      · clear eB
        intro ts
        simp (maxSteps := 1000000) (disch := omega) [go_sem, ea, h1, hin, drSt]
        refine HCallK_of (.p (clP blk)) rfl rfl (fun _ => pcallA_of 56 gblank_cr rfl ⟨rfl, by simp [Try.f56]⟩ ⟨by simp [go_sem], by simp [go_sem]⟩) ?_
        simp (maxSteps := 1000000) (disch := omega) [go_sem, clP, blk]
        refine condK_split (fun h3 => ?_) (fun h3 => ?_)
        · have hc : a[i] ≠ blk := fun e => by
            rw [e] at h3; simp [blk] at h3
          rw [if_pos hc] at eA
          simp (maxSteps := 1000000) (disch := omega) [go_sem, wrap64]
          refine LoopK_next (i + 1) (by omega) (by simp [go_sem, LeS, leV, leR, leA, leL, eA]) (by omega)
        · have hc : a[i] = blk := by
            rw [← cl_eq]; simpa [blk] using h3
          rw [if_neg (by simp [hc])] at eA
          simp (maxSteps := 1000000) (disch := omega) [go_sem, wrap64]
          refine LoopK_next (i + 1) (by omega) (by simp [go_sem, LeS, leV, leR, leA, leL, eA]) (by omega)
  · obtain rfl : i = n := by omega
    simp (maxSteps := 1000000) (disch := omega) [go_sem]
    refine condK_if (fun h3 => ?_) (fun h3 => ?_)
    · have h4 : ¬ (0 ≤ dF a b i) := by omega
      simp (maxSteps := 1000000) (disch := omega) [go_sem]
      exact ret_is _ rfl (by simp [go_sem, resOf, leA, dRow, h3, h4]) ⟨rfl, rfl⟩
    · have h4 : 0 ≤ dF a b i := by omega
      have b1 := dF_bd a b i
      have b2 := dL_bd b i
      obtain ⟨F, hF⟩ : ∃ F : Nat, dF a b i = F := ⟨(dF a b i).toNat, by omega⟩
      obtain ⟨T, hT⟩ : ∃ T : Nat, max (dL b i) (dF a b i) = T := ⟨(max (dL b i) (dF a b i)).toNat, by omega⟩
      have hFT : F ≤ T ∧ T ≤ i := by omega
      have hd : dRow r a b i = .agg [.int .i64 r, .int .i64 F, .int .i64 T, .str (dT b F (T - F)), .bool (decide ((T : Int) < dL a i))] := by
        have e1 : ((T : Int) - (F : Int)).toNat = T - F := by omega
        rw [dRow, if_neg h3, hT, hF, e1]; rfl
      rw [hd]
      have ht' := ht h4
      have h5 : decide (0 ≤ dF a b i) = true := by simpa using h4
      rw [h5]
      rw [hF] at hT
      clear hd h3 h4 h5 b1 b2
      simp (maxSteps := 1000000) (disch := omega) [go_sem, hT, hF]
      refine wpA_loop (fun j : Nat => F + j ≤ T) (fun j => { n := 85, nv := 13, vs := [(2, .p (.sl 2 (b.map clP))), (6, .lp [6] 0), (7, .p (.bool false)), (8, .lp [8] 0), (10, .p (.int .i64 (dL a i))), (12, .p (.int .i64 (F + j : Nat)))], ts := [], rs := [([6], [.p (.int .i64 0), .p (.int .i64 0), .p (.int .i64 0), .p (.str []), .p (.bool false)]), ([8], [.p (.int .i64 r), .p (.int .i64 F), .p (.int .i64 T), .p (.str (dT b F j)), .p (.bool false)])], ex := [16, 17] }) (fun j => T - F - j) 0 (by omega) (by simp [go_sem, LeS, leV, leR, leA, leL, dT]) ?_
      intro j hj
      simp (maxSteps := 1000000) (disch := omega) [go_sem]
      refine condK_if (fun h3 => ?_) (fun h3 => ?_)
      · have hj2 : F + j < b.length := by omega
        have eb := elemAt_P hj2
        have eT : dT b F (j + 1) = dT b F j ++ b[F + j].t := by rw [dT, row_getD hj2]
        have e2 : ((F : Int) + (j : Int)).toNat = F + j := by omega
        simp (maxSteps := 1000000) (disch := omega) [go_sem, wrap64, eb, h2, e2]
        have hk := dT_len ht' F j
        have hk2 := ht' b[F + j] (List.getElem_mem hj2)
        refine ⟨by omega, by omega, ?_⟩
        refine LoopK_next (j + 1) (by omega) (by simp [go_sem, LeS, leV, leR, leA, leL, eT]; omega) (by omega)
      · obtain rfl : j = T - F := by omega
        simp (maxSteps := 1000000) (disch := omega) [go_sem]
        exact ret_is _ rfl (by simp [go_sem, resOf, leA]) ⟨rfl, rfl⟩
end Go.Proofs.Ytjgfmanahimpoaa

/- What the program tells of two grids, and chapter 32's examples. Conditions: as each law says. -/
import Derived.Test.YtjgfmanahimpoaaDoorGe
namespace Go.Proofs.YtjgfmanahimpoaaDoor
open Go.AM
set_option maxHeartbeats 1600000
set_option maxRecDepth 10000
/-- The first cell that is another one; -1, if there is none. -/
def dF (a b : Row) : Nat → Int
  | 0 => -1
  | i + 1 => if dF a b i < 0 ∧ a.getD i blk ≠ b.getD i blk then i else dF a b i
/-- Behind the last cell that is not blank. -/
def dL (b : Row) : Nat → Int
  | 0 => 0
  | i + 1 => if b.getD i blk ≠ blk then i + 1 else dL b i
/-- So many cells' texts. -/
def dT (b : Row) (f : Nat) : Nat → List UInt8
  | 0 => []
  | j + 1 => dT b f j ++ (b.getD (f + j) blk).t
theorem dF_bd (a b : Row) (i : Nat) : -1 ≤ dF a b i ∧ dF a b i < i ∨ i = 0 ∧ dF a b i = -1 := by
  induction i with
  | zero => exact .inr ⟨rfl, rfl⟩
  | succ i ih =>
    left
    rw [dF]
    split <;> omega
theorem dL_bd (b : Row) (i : Nat) : 0 ≤ dL b i ∧ dL b i ≤ i := by
  induction i with
  | zero => exact ⟨Int.le_refl _, Int.le_refl _⟩
  | succ i ih =>
    rw [dL]
    split <;> omega
theorem at_P {l : Row} {i : Nat} (h : i < l.length) : (l.map clP)[i]? = some (.agg [.str l[i].t, .int .i64 l[i].w]) := by
  rw [List.getElem?_map, List.getElem?_eq_getElem h]; rfl
theorem elemAt_P {l : Row} {i : Nat} (h : i < l.length) : elemAt (l.map clP) i = .agg [.str l[i].t, .int .i64 l[i].w] := by
  rw [elemAt, List.getD_eq_getElem?_getD, at_P h]; rfl
/-- A row's reading, on its way. -/
def drSt (r : Int) (n : Nat) (a b : Row) (i : Nat) (f l m : Int) (ts : List (Nat × AV)) : St :=
  { n := 85, nv := 13, vs := [(1, .p (.sl 2 (a.map clP))), (2, .p (.sl 2 (b.map clP))), (6, .lp [6] 0), (7, .p (.bool false)), (8, .lp [8] 0), (9, .p (.int .i64 l)), (10, .p (.int .i64 m)), (16, .p (.int .i64 n)), (17, .p (.int .i64 i)), (11, .p (.int .i64 i))], ts := ts, rs := [([6], [.p (.int .i64 0), .p (.int .i64 0), .p (.int .i64 0), .p (.str []), .p (.bool false)]), ([8], [.p (.int .i64 r), .p (.int .i64 f), .p (.int .i64 0), .p (.str []), .p (.bool false)])], ex := [16, 17] }
def dRow (r : Int) (a b : Row) (n : Nat) : PV :=
  if dF a b n < 0 then .agg [.int .i64 0, .int .i64 0, .int .i64 0, .str [], .bool false]
  else .agg [.int .i64 r, .int .i64 (dF a b n), .int .i64 (max (dL b n) (dF a b n)), .str (dT b (dF a b n).toNat (max (dL b n) (dF a b n) - dF a b n).toNat), .bool (decide (max (dL b n) (dF a b n) < dL a n))]
theorem dT_len {b : Row} (hb : ∀ c ∈ b, c.t.length ≤ 140737488355328) (f j : Nat) : (dT b f j).length ≤ j * 140737488355328 := by
  induction j with
  | zero => simp [dT]
  | succ j ih =>
    rw [dT, List.length_append]
    have : (b.getD (f + j) blk).t.length ≤ 140737488355328 := by
      rw [List.getD_eq_getElem?_getD]
      rcases h : b[f + j]? with _ | c
      · decide
      · exact hb c (List.mem_of_getElem? h)
    omega
theorem drow_cr (r : Int) (n : Nat) (a b : Row) (h1 : a.length = n) (h2 : b.length = n) (hb : n ≤ 1000) (ht : 0 ≤ dF a b n → ∀ c ∈ b, c.t.length ≤ 140737488355328) :
    CR Tryd.prog 39 [] [.p (.int .i64 r), .p (rowP a), .p (rowP b)] [] (is (.tup [.p (dRow r a b n), .p (.bool (decide (0 ≤ dF a b n)))])) := by
  refine CR_of_wpD [6, 8, 10, 19] mixed 13 [16, 17] Tryd.func39 rfl (by kernel_rfl) rfl (by simp) (by simp) ?_
  simp (maxSteps := 1000000) (disch := omega) [go_sem, Tryd.f39]
  refine wpA_loop (fun i : Nat => i ≤ n) (fun i => { n := 85, nv := 13, vs := [(1, .p (.sl 2 (a.map clP))), (2, .p (.sl 2 (b.map clP))), (6, .lp [6] 0), (7, .p (.bool false)), (8, .lp [8] 0), (9, .p (.int .i64 (dL b i))), (10, .p (.int .i64 (dL a i))), (16, .p (.int .i64 n)), (17, .p (.int .i64 i))], ts := [], rs := [([6], [.p (.int .i64 0), .p (.int .i64 0), .p (.int .i64 0), .p (.str []), .p (.bool false)]), ([8], [.p (.int .i64 r), .p (.int .i64 (dF a b i)), .p (.int .i64 0), .p (.str []), .p (.bool false)])], ex := [16, 17] }) (fun i => n - i) 0 (by simp) (by simp [go_sem, LeS, leV, leR, leA, leL, dF, dL, h2]) ?_
  intro i hi
  simp (maxSteps := 1000000) (disch := omega) [go_sem]
  refine condK_if (fun h => ?_) (fun h => ?_)
  · have hi1 : i < a.length := by omega
    have hi2 : i < b.length := by omega
    have hin : i < n := by omega
    have ea := elemAt_P hi1
    have eb := elemAt_P hi2
    have eF : dF a b (i + 1) = if dF a b i < 0 ∧ a[i] ≠ b[i] then (i : Int) else dF a b i := by rw [dF, row_getD hi1, row_getD hi2]
    have eL : ∀ l : Row, ∀ h : i < l.length, dL l (i + 1) = if l[i] ≠ blk then (i : Int) + 1 else dL l i := fun l h => by rw [dL, row_getD h]
    have eA := eL a hi1
    have eB := eL b hi2
    clear eL
    simp (maxSteps := 1000000) (disch := omega) [go_sem, ea, eb, h1, h2, hin]
    refine condK_join (ι := List (Nat × AV)) (fun ts => drSt r n a b i (dF a b (i + 1)) (dL b i) (dL a i) ts) (condK_split (fun h3 => ?_) (fun h3 => ?_)) ?_
    · have hc : dF a b i < 0 ∧ a[i] ≠ b[i] := by
        refine ⟨by simp at h3; exact h3.1, fun e => ?_⟩
        rw [e] at h3; simp at h3
      rw [if_pos hc] at eF
      rw [eF]
      simp (maxSteps := 1000000) (disch := omega) [go_sem]
      exact JoinK_in _ rfl
    · have hc : ¬ (dF a b i < 0 ∧ a[i] ≠ b[i]) := by
        rintro ⟨h4, h5⟩
        apply h5
        rw [← cl_eq]
        simpa [h4] using h3
      rw [if_neg hc] at eF
      rw [eF]
      simp (maxSteps := 1000000) (disch := omega) [go_sem]
      exact JoinK_in _ rfl
    · clear eF
      intro ts
      simp (maxSteps := 1000000) (disch := omega) [go_sem, eb, h2, hin, drSt]
      refine HCallK_of (.p (clP blk)) rfl rfl (fun _ => pcallA_of 45 gblank_cr rfl ⟨rfl, by simp [Tryd.f45]⟩ ⟨by simp [go_sem], by simp [go_sem]⟩) ?_
      simp (maxSteps := 1000000) (disch := omega) [go_sem, clP, blk]
      refine condK_join (ι := List (Nat × AV)) (fun ts => drSt r n a b i (dF a b (i + 1)) (dL b (i + 1)) (dL a i) ts) (condK_split (fun h3 => ?_) (fun h3 => ?_)) ?_
      · have hc : b[i] ≠ blk := fun e => by
          rw [e] at h3; simp [blk] at h3
        rw [if_pos hc] at eB
        rw [eB]
        simp (maxSteps := 1000000) (disch := omega) [go_sem, wrap64]
        exact JoinK_in _ rfl
      · have hc : b[i] = blk := by
          rw [← cl_eq]; simpa [blk] using h3
        rw [if_neg (by simp [hc])] at eB
        rw [eB]
        simp (maxSteps := 1000000) (disch := omega) [go_sem]
        exact JoinK_in _ rfl
      · clear eB
        intro ts
        simp (maxSteps := 1000000) (disch := omega) [go_sem, ea, h1, hin, drSt]
        refine HCallK_of (.p (clP blk)) rfl rfl (fun _ => pcallA_of 45 gblank_cr rfl ⟨rfl, by simp [Tryd.f45]⟩ ⟨by simp [go_sem], by simp [go_sem]⟩) ?_
        simp (maxSteps := 1000000) (disch := omega) [go_sem, clP, blk]
        refine condK_split (fun h3 => ?_) (fun h3 => ?_)
        · have hc : a[i] ≠ blk := fun e => by
            rw [e] at h3; simp [blk] at h3
          rw [if_pos hc] at eA
          simp (maxSteps := 1000000) (disch := omega) [go_sem, wrap64]
          refine LoopK_next (i + 1) (by omega) (by simp [go_sem, LeS, leV, leR, leA, leL, eA]) (by omega)
        · have hc : a[i] = blk := by
            rw [← cl_eq]; simpa [blk] using h3
          rw [if_neg (by simp [hc])] at eA
          simp (maxSteps := 1000000) (disch := omega) [go_sem, wrap64]
          refine LoopK_next (i + 1) (by omega) (by simp [go_sem, LeS, leV, leR, leA, leL, eA]) (by omega)
  · obtain rfl : i = n := by omega
    simp (maxSteps := 1000000) (disch := omega) [go_sem]
    refine condK_if (fun h3 => ?_) (fun h3 => ?_)
    · have h4 : ¬ (0 ≤ dF a b i) := by omega
      simp (maxSteps := 1000000) (disch := omega) [go_sem]
      exact ret_is _ rfl (by simp [go_sem, resOf, leA, dRow, h3, h4]) ⟨rfl, rfl⟩
    · have h4 : 0 ≤ dF a b i := by omega
      have b1 := dF_bd a b i
      have b2 := dL_bd b i
      obtain ⟨F, hF⟩ : ∃ F : Nat, dF a b i = F := ⟨(dF a b i).toNat, by omega⟩
      obtain ⟨T, hT⟩ : ∃ T : Nat, max (dL b i) (dF a b i) = T := ⟨(max (dL b i) (dF a b i)).toNat, by omega⟩
      have hFT : F ≤ T ∧ T ≤ i := by omega
      have hd : dRow r a b i = .agg [.int .i64 r, .int .i64 F, .int .i64 T, .str (dT b F (T - F)), .bool (decide ((T : Int) < dL a i))] := by
        have e1 : ((T : Int) - (F : Int)).toNat = T - F := by omega
        rw [dRow, if_neg h3, hT, hF, e1]; rfl
      rw [hd]
      have ht' := ht h4
      have h5 : decide (0 ≤ dF a b i) = true := by simpa using h4
      rw [h5]
      rw [hF] at hT
      clear hd h3 h4 h5 b1 b2
      simp (maxSteps := 1000000) (disch := omega) [go_sem, hT, hF]
      refine wpA_loop (fun j : Nat => F + j ≤ T) (fun j => { n := 85, nv := 13, vs := [(2, .p (.sl 2 (b.map clP))), (6, .lp [6] 0), (7, .p (.bool false)), (8, .lp [8] 0), (10, .p (.int .i64 (dL a i))), (12, .p (.int .i64 (F + j : Nat)))], ts := [], rs := [([6], [.p (.int .i64 0), .p (.int .i64 0), .p (.int .i64 0), .p (.str []), .p (.bool false)]), ([8], [.p (.int .i64 r), .p (.int .i64 F), .p (.int .i64 T), .p (.str (dT b F j)), .p (.bool false)])], ex := [16, 17] }) (fun j => T - F - j) 0 (by omega) (by simp [go_sem, LeS, leV, leR, leA, leL, dT]) ?_
      intro j hj
      simp (maxSteps := 1000000) (disch := omega) [go_sem]
      refine condK_if (fun h3 => ?_) (fun h3 => ?_)
      · have hj2 : F + j < b.length := by omega
        have eb := elemAt_P hj2
        have eT : dT b F (j + 1) = dT b F j ++ b[F + j].t := by rw [dT, row_getD hj2]
        have e2 : ((F : Int) + (j : Int)).toNat = F + j := by omega
        simp (maxSteps := 1000000) (disch := omega) [go_sem, wrap64, eb, h2, e2]
        have hk := dT_len ht' F j
        have hk2 := ht' b[F + j] (List.getElem_mem hj2)
        refine ⟨by omega, by omega, ?_⟩
        refine LoopK_next (j + 1) (by omega) (by simp [go_sem, LeS, leV, leR, leA, leL, eT]; omega) (by omega)
      · obtain rfl : j = T - F := by omega
        simp (maxSteps := 1000000) (disch := omega) [go_sem]
        exact ret_is _ rfl (by simp [go_sem, resOf, leA]) ⟨rfl, rfl⟩
/-- The rows that change, of the first so many. -/
def dRs (C : Nat) (l l' : Row) : Nat → List PV
  | 0 => []
  | k + 1 => if 0 ≤ dF (rowOf C l k) (rowOf C l' k) C then dRs C l l' k ++ [dRow k (rowOf C l k) (rowOf C l' k) C] else dRs C l l' k
theorem dRs_len (C : Nat) (l l' : Row) (k : Nat) : (dRs C l l' k).length ≤ k := by
  induction k with
  | zero => simp [dRs]
  | succ k ih =>
    rw [dRs]
    split
    · simp; omega
    · omega
theorem rows_cr (R C N : Nat) (l l' : Row) (hN : N = R * C) (hR : R ≤ 500) (hC : 0 < C ∧ C ≤ 1000) (hl : l.length = N) (hl' : l'.length = N)
    (ht : ∀ k, k < R → 0 ≤ dF (rowOf C l k) (rowOf C l' k) C → ∀ c ∈ rowOf C l' k, c.t.length ≤ 140737488355328) :
    CR Tryd.prog 16 [[0], [1], [2], [3]] [.lp [0] 0, .lp [2] 0] (gpp R C N l R C N l') (fun x rs' => x = .p (.sl 5 (dRs C l l' R)) ∧ rs' = gpp R C N l R C N l') := by
  refine CR.gpp ?_
  have hs1 := size_cr R C N l
  have hs2 := size_cr R C N l'
  refine CR_of_wp mixed 13 [31, 32] Tryd.func16 rfl (by kernel_rfl) rfl (by simp) (by simp) ?_
  simp (maxSteps := 1000000) (disch := omega) [go_sem, Tryd.f16, gpp]
  refine ⟨⟨rfl, by simp [Tryd.f38]⟩, CallK_of [([0], [0]), ([1], [1])] hs1 (by simp [go_sem]) ⟨by simp [go_sem], by simp [go_sem]⟩ (by simp [go_sem, gp, cw_ren]) ?_⟩
  rintro y rs ⟨rfl, rfl⟩
  simp (maxSteps := 1000000) (disch := omega) [go_sem, gp, cw_ren, cw_upd]
  refine ⟨⟨rfl, by simp [Tryd.f38]⟩, CallK_of [([0], [2]), ([1], [3])] hs2 (by simp [go_sem]) ⟨by simp [go_sem], by simp [go_sem]⟩ (by simp [go_sem, gp, cw_ren]) ?_⟩
  rintro y rs ⟨rfl, rfl⟩
  simp (maxSteps := 1000000) (disch := omega) [go_sem, gp, cw_ren, cw_upd]
  refine wpA_loop (fun i : Nat => i ≤ R) (fun i => { n := 53, nv := 13, vs := [(0, .lp [0] 0), (1, .lp [2] 0), (9, .os [9] 5 (dRs C l l' i)), (31, .p (.int .i64 R)), (32, .p (.int .i64 i))], ts := [], rs := [([0], [.p (.int .i64 R), .p (.int .i64 C), .la [1] 2 0 N]), ([1], cw l), ([2], [.p (.int .i64 R), .p (.int .i64 C), .la [3] 2 0 N]), ([3], cw l')], pin := [[0], [1], [2], [3]], ex := [31, 32] }) (fun i => R - i) 0 (by simp) (by simp [go_sem, LeS, leV, leR, leA, leL, leL_refl, cw_upd, dRs]) ?_
  intro i hi
  simp (maxSteps := 1000000) (disch := omega) [go_sem]
  refine condK_if (fun h => ?_) (fun h => ?_)
  · have hi' : i < R := by omega
    have hr1 := grow_cr R C N l i hN hR hC hl hi'
    have hr2 := grow_cr R C N l' i hN hR hC hl' hi'
    have hd := drow_cr i C (rowOf C l i) (rowOf C l' i) (rowOf_len (by omega) hi') (rowOf_len (by omega) hi') (by omega) (ht i hi')
    have hdl := dRs_len C l l' i
    have hdS : dRs C l l' (i + 1) = if 0 ≤ dF (rowOf C l i) (rowOf C l' i) C then dRs C l l' i ++ [dRow i (rowOf C l i) (rowOf C l' i) C] else dRs C l l' i := rfl
    generalize rowOf C l i = a at *
    generalize rowOf C l' i = b at *
    simp (maxSteps := 1000000) (disch := omega) [go_sem]
    refine ⟨⟨rfl, by simp [Tryd.f40]⟩, CallK_of [([0], [0]), ([1], [1])] hr1 (by simp [go_sem]) ⟨by simp [go_sem], by simp [go_sem]⟩ (by simp [go_sem, gp, cw_ren]) ?_⟩
    rintro y rs ⟨rfl, rfl⟩
    simp (maxSteps := 1000000) (disch := omega) [go_sem, gp, cw_ren, cw_upd]
    refine ⟨⟨rfl, by simp [Tryd.f40]⟩, CallK_of [([0], [2]), ([1], [3])] hr2 (by simp [go_sem]) ⟨by simp [go_sem], by simp [go_sem]⟩ (by simp [go_sem, gp, cw_ren]) ?_⟩
    rintro y rs ⟨rfl, rfl⟩
    simp (maxSteps := 1000000) (disch := omega) [go_sem, gp, cw_ren, cw_upd]
    refine ⟨⟨rfl, by simp [Tryd.f39]⟩, CallK_of [] hd (by simp [go_sem]) ⟨by simp [go_sem], by simp [go_sem]⟩ (by simp [go_sem]) ?_⟩
    rintro y rs ⟨rfl, rfl⟩
    by_cases hF : 0 ≤ dF a b C
    · rw [if_pos hF] at hdS
      have hd2 : ∃ f t s e, dRow i a b C = .agg [.int .i64 i, .int .i64 f, .int .i64 t, .str s, .bool e] := ⟨_, _, _, _, by rw [dRow, if_neg (by omega)]⟩
      obtain ⟨f, t, s, e, hd2⟩ := hd2
      rw [hd2] at hdS ⊢
      simp (maxSteps := 1000000) (disch := omega) [go_sem, wrap64, cw_upd, hF]
      refine ⟨by omega, ?_⟩
      refine LoopK_next (i + 1) (by omega) (by simp [go_sem, LeS, leV, leR, leA, leL, leL_refl, cw_upd, hdS]) (by omega)
    · rw [if_neg hF] at hdS
      have hd2 : dRow i a b C = .agg [.int .i64 0, .int .i64 0, .int .i64 0, .str [], .bool false] := by rw [dRow, if_pos (by omega)]
      rw [hd2]
      simp (maxSteps := 1000000) (disch := omega) [go_sem, wrap64, cw_upd, hF]
      refine LoopK_next (i + 1) (by omega) (by simp [go_sem, LeS, leV, leR, leA, leL, leL_refl, cw_upd, hdS]) (by omega)
  · obtain rfl : i = R := by omega
    simp (maxSteps := 1000000) (disch := omega) [go_sem]
    exact ret_keep [[0], [1], [2], [3]] _ (by simp) (by simp [go_sem, resOf, leA]) ⟨rfl, by simp [go_sem, cw_upd], by simp [go_sem, cw_upd], by simp [go_sem, cw_upd], by simp [go_sem, cw_upd]⟩
theorem rows_no (R C N : Nat) (l : Row) (R' C' N' : Nat) (l' : Row) (hne : ¬ (R = R' ∧ C = C')) :
    CR Tryd.prog 16 [[0], [1], [2], [3]] [.lp [0] 0, .lp [2] 0] (gpp R C N l R' C' N' l') (fun x rs' => x = .p (.sl 5 []) ∧ rs' = gpp R C N l R' C' N' l') := by
  refine CR.gpp ?_
  have hs1 := size_cr R C N l
  have hs2 := size_cr R' C' N' l'
  refine CR_of_wp mixed 13 [31, 32] Tryd.func16 rfl (by kernel_rfl) rfl (by simp) (by simp) ?_
  simp (maxSteps := 1000000) (disch := omega) [go_sem, Tryd.f16, gpp]
  refine ⟨⟨rfl, by simp [Tryd.f38]⟩, CallK_of [([0], [0]), ([1], [1])] hs1 (by simp [go_sem]) ⟨by simp [go_sem], by simp [go_sem]⟩ (by simp [go_sem, gp, cw_ren]) ?_⟩
  rintro y rs ⟨rfl, rfl⟩
  simp (maxSteps := 1000000) (disch := omega) [go_sem, gp, cw_ren, cw_upd]
  refine ⟨⟨rfl, by simp [Tryd.f38]⟩, CallK_of [([0], [2]), ([1], [3])] hs2 (by simp [go_sem]) ⟨by simp [go_sem], by simp [go_sem]⟩ (by simp [go_sem, gp, cw_ren]) ?_⟩
  rintro y rs ⟨rfl, rfl⟩
  simp (maxSteps := 1000000) (disch := omega) [go_sem, gp, cw_ren, cw_upd]
  refine condK_split (fun h3 => ?_) (fun h3 => ?_)
  · simp (maxSteps := 1000000) (disch := omega) [go_sem]
    exact ret_keep [[0], [1], [2], [3]] _ (by simp) (by simp [go_sem, resOf, leA]) ⟨rfl, by simp [go_sem, cw_upd], by simp [go_sem, cw_upd], by simp [go_sem, cw_upd], by simp [go_sem, cw_upd]⟩
  · refine absurd ?_ hne
    simp at h3
    omega
theorem dF_self (a : Row) (i : Nat) : dF a a i = -1 := by
  induction i with
  | zero => rfl
  | succ i ih => rw [dF, if_neg (by simp), ih]
theorem dRs_self (C : Nat) (l : Row) (k : Nat) : dRs C l l k = [] := by
  induction k with
  | zero => rfl
  | succ k ih => rw [dRs, dF_self, if_neg (by omega), ih]
theorem rows_self (R C N : Nat) (l : Row) (hN : N = R * C) (hR : R ≤ 500) (hC : 0 < C ∧ C ≤ 1000) (hl : l.length = N) :
    CR Tryd.prog 16 [[0], [1]] [.lp [0] 0, .lp [0] 0] (gp R C N l) (fun x rs' => x = .p (.sl 5 []) ∧ rs' = gp R C N l) := by
  have hs1 := size_cr R C N l
  refine CR_of_wp mixed 13 [31, 32] Tryd.func16 rfl (by kernel_rfl) rfl (by simp) (by simp) ?_
  simp (maxSteps := 1000000) (disch := omega) [go_sem, Tryd.f16, gp]
  refine ⟨⟨rfl, by simp [Tryd.f38]⟩, CallK_of [([0], [0]), ([1], [1])] hs1 (by simp [go_sem]) ⟨by simp [go_sem], by simp [go_sem]⟩ (by simp [go_sem, gp, cw_ren]) ?_⟩
  rintro y rs ⟨rfl, rfl⟩
  simp (maxSteps := 1000000) (disch := omega) [go_sem, gp, cw_ren, cw_upd]
  refine ⟨⟨rfl, by simp [Tryd.f38]⟩, CallK_of [([0], [0]), ([1], [1])] hs1 (by simp [go_sem]) ⟨by simp [go_sem], by simp [go_sem]⟩ (by simp [go_sem, gp, cw_ren]) ?_⟩
  rintro y rs ⟨rfl, rfl⟩
  simp (maxSteps := 1000000) (disch := omega) [go_sem, gp, cw_ren, cw_upd]
  refine wpA_loop (fun i : Nat => i ≤ R) (fun i => { n := 53, nv := 13, vs := [(0, .lp [0] 0), (1, .lp [0] 0), (9, .os [9] 5 []), (31, .p (.int .i64 R)), (32, .p (.int .i64 i))], ts := [], rs := [([0], [.p (.int .i64 R), .p (.int .i64 C), .la [1] 2 0 N]), ([1], cw l)], pin := [[0], [1]], ex := [31, 32] }) (fun i => R - i) 0 (by simp) (by simp [go_sem, LeS, leV, leR, leA, leL, leL_refl, cw_upd]) ?_
  intro i hi
  simp (maxSteps := 1000000) (disch := omega) [go_sem]
  refine condK_if (fun h => ?_) (fun h => ?_)
  · have hi' : i < R := by omega
    have hr1 := grow_cr R C N l i hN hR hC hl hi'
    have hdf := dF_self (rowOf C l i) C
    have hd := drow_cr i C (rowOf C l i) (rowOf C l i) (rowOf_len (by omega) hi') (rowOf_len (by omega) hi') (by omega) (by rw [hdf]; omega)
    rw [dRow, hdf] at hd
    generalize rowOf C l i = a at *
    simp (maxSteps := 1000000) (disch := omega) [go_sem]
    refine ⟨⟨rfl, by simp [Tryd.f40]⟩, CallK_of [([0], [0]), ([1], [1])] hr1 (by simp [go_sem]) ⟨by simp [go_sem], by simp [go_sem]⟩ (by simp [go_sem, gp, cw_ren]) ?_⟩
    rintro y rs ⟨rfl, rfl⟩
    simp (maxSteps := 1000000) (disch := omega) [go_sem, gp, cw_ren, cw_upd]
    refine ⟨⟨rfl, by simp [Tryd.f40]⟩, CallK_of [([0], [0]), ([1], [1])] hr1 (by simp [go_sem]) ⟨by simp [go_sem], by simp [go_sem]⟩ (by simp [go_sem, gp, cw_ren]) ?_⟩
    rintro y rs ⟨rfl, rfl⟩
    simp (maxSteps := 1000000) (disch := omega) [go_sem, gp, cw_ren, cw_upd]
    refine ⟨⟨rfl, by simp [Tryd.f39]⟩, CallK_of [] hd (by simp [go_sem]) ⟨by simp [go_sem], by simp [go_sem]⟩ (by simp [go_sem]) ?_⟩
    rintro y rs ⟨rfl, rfl⟩
    simp (maxSteps := 1000000) (disch := omega) [go_sem, wrap64, cw_upd]
    refine LoopK_next (i + 1) (by omega) (by simp [go_sem, LeS, leV, leR, leA, leL, leL_refl, cw_upd]) (by omega)
  · obtain rfl : i = R := by omega
    simp (maxSteps := 1000000) (disch := omega) [go_sem]
    exact ret_keep [[0], [1]] _ (by simp) (by simp [go_sem, resOf, leA]) ⟨rfl, by simp [go_sem, cw_upd]⟩
def awA : Cl := ⟨[97], 1⟩
def awB : Cl := ⟨[98], 1⟩
theorem aw_rows : dRs 5 [awA, awB, blk, blk, blk] [awA, blk, blk, blk, blk] 1 = [.agg [.int .i64 0, .int .i64 1, .int .i64 1, .str [], .bool true]] := by rfl
theorem aw_ok0 : OkR (List.replicate 5 blk) := fun k x hx => by
  have : x = blk := by
    have := List.mem_of_getElem? hx
    exact (List.mem_replicate.1 this).2
  subst this
  exact ⟨fun h => absurd h (by decide), fun h => absurd h (by decide)⟩
theorem awake32_cr : CR Tryd.prog 23 [] [] [] (is (.p (.bool true))) := by
  have hn := gnew_cr 1 5 (by decide) (by decide)
  have ok0 := aw_ok0
  have ok1 : OkR [awA, blk, blk, blk, blk] := gputI_ok 1 5 0 0 awA _ (by decide) ok0
  have hp1 := gput_cr 1 5 5 (List.replicate 5 blk) 0 0 awA rfl (by decide) (by decide) rfl ok0
  have hp2 := gput_cr 1 5 5 [awA, blk, blk, blk, blk] 0 1 awB rfl (by decide) (by decide) rfl ok1
  have e1 : gputI 1 5 0 0 awA (List.replicate 5 blk) = [awA, blk, blk, blk, blk] := by decide
  have e2 : gputI 1 5 0 1 awB [awA, blk, blk, blk, blk] = [awA, awB, blk, blk, blk] := by decide
  have b1 : gputB 1 5 0 0 awA = true := by decide
  have b2 : gputB 1 5 0 1 awB = true := by decide
  rw [e1, b1] at hp1
  rw [e2, b2] at hp2
  have hr := rows_cr 1 5 5 [awA, awB, blk, blk, blk] [awA, blk, blk, blk, blk] rfl (by decide) (by decide) rfl rfl (fun k hk _ c hc => by
    obtain rfl : k = 0 := by omega
    revert c
    decide)
  rw [aw_rows] at hr
  have hs := rows_self 1 5 5 [awA, awB, blk, blk, blk] rfl (by decide) (by decide) rfl
  generalize hw0 : List.replicate (1 * 5) blk = w0 at hn
  have hw0' : List.replicate 5 blk = w0 := hw0
  rw [hw0'] at hp1
  generalize [awA, blk, blk, blk, blk] = w1 at *
  generalize [awA, awB, blk, blk, blk] = w2 at *
  clear hw0 hw0' e1 e2 b1 b2 ok0 ok1
  refine CR_of_wp mixed 4 [] Tryd.func23 rfl (by kernel_rfl) rfl (by simp) (by simp) ?_
  simp (maxSteps := 1000000) (disch := omega) [go_sem, Tryd.f23]
  refine ⟨⟨rfl, by simp [Tryd.f32]⟩, CallK_of [] hn (by simp [go_sem]) ⟨by simp [go_sem], by simp [go_sem]⟩ (by simp [go_sem]) ?_⟩
  rintro y rs ⟨rfl, rfl⟩
  simp (maxSteps := 1000000) (disch := omega) [go_sem, gp, cw_ren]
  refine ⟨⟨rfl, by simp [Tryd.f32]⟩, CallK_of [] hn (by simp [go_sem]) ⟨by simp [go_sem], by simp [go_sem]⟩ (by simp [go_sem]) ?_⟩
  rintro y rs ⟨rfl, rfl⟩
  simp (maxSteps := 1000000) (disch := omega) [go_sem, gp, cw_ren, cw_upd]
  refine ⟨⟨rfl, by simp [Tryd.f36]⟩, CallK_of [([0], [4, 0]), ([1], [4, 1])] hp1 (by simp [go_sem]) ⟨by simp [go_sem], by simp [go_sem, clP, awA]⟩ (by simp [go_sem, gp, cw_ren]) ?_⟩
  rintro y rs ⟨rfl, rfl⟩
  simp (maxSteps := 1000000) (disch := omega) [go_sem, gp, cw_ren, cw_upd]
  refine ⟨⟨rfl, by simp [Tryd.f36]⟩, CallK_of [([0], [4, 0]), ([1], [4, 1])] hp2 (by simp [go_sem]) ⟨by simp [go_sem], by simp [go_sem, clP, awB]⟩ (by simp [go_sem, gp, cw_ren]) ?_⟩
  rintro y rs ⟨rfl, rfl⟩
  simp (maxSteps := 1000000) (disch := omega) [go_sem, gp, cw_ren, cw_upd]
  refine ⟨⟨rfl, by simp [Tryd.f36]⟩, CallK_of [([0], [5, 0]), ([1], [5, 1])] hp1 (by simp [go_sem]) ⟨by simp [go_sem], by simp [go_sem, clP, awA]⟩ (by simp [go_sem, gp, cw_ren]) ?_⟩
  rintro y rs ⟨rfl, rfl⟩
  simp (maxSteps := 1000000) (disch := omega) [go_sem, gp, cw_ren, cw_upd]
  refine ⟨⟨rfl, by simp [Tryd.f16]⟩, CallK_of [([0], [4, 0]), ([1], [4, 1]), ([2], [5, 0]), ([3], [5, 1])] hr (by simp [go_sem]) ⟨by simp [go_sem], by simp [go_sem]⟩ (by simp [go_sem, gpp, cw_ren]) ?_⟩
  rintro y rs ⟨rfl, rfl⟩
  simp (maxSteps := 1000000) (disch := omega) [go_sem, elemAt, gpp, cw_ren, cw_upd]
  refine ⟨⟨rfl, by simp [Tryd.f16]⟩, CallK_of [([0], [4, 0]), ([1], [4, 1])] hs (by simp [go_sem]) ⟨by simp [go_sem], by simp [go_sem]⟩ (by simp [go_sem, gp, cw_ren]) ?_⟩
  rintro y rs ⟨rfl, rfl⟩
  simp (maxSteps := 1000000) (disch := omega) [go_sem, gp, cw_ren, cw_upd]
  exact ret_is _ rfl (by simp [go_sem, resOf, leA]) ⟨rfl, rfl⟩
end Go.Proofs.YtjgfmanahimpoaaDoor

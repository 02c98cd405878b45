/- DiffRows returns true for every input, and leaves what it was given as it was. Conditions: none beyond the row's own. -/
import Derived.Test.YtjgfmanahimpoaaDoorGf
import Derived.Test.YtjgfmanahimpoaaDoorM
import Derived.Test.YtjgfmanahimpoaaDoorP1
import Derived.Test.YtjgfmanahimpoaaDoorRows
import Derived.Test.YtjgfmanahimpoaaDoorCards
import Derived.Test.YtjgfmanahimpoaaDoorTie
import Derived.Test.YtjgfmanahimpoaaDoorL
import Derived.Test.YtjgfmanahimpoaaDoorAmX
import Derived.SevenTiedAt
namespace Go.Proofs.YtjgfmanahimpoaaDoor
open Go.AM
set_option maxHeartbeats 1600000
set_option maxRecDepth 10000
theorem last_cr (l : Row) (n : Nat) (hn : l.length = n) (hl : n ≤ 1000000) : CR Tryd.prog 52 [] [.p (rowP l)] [] (is (.p (.int .i64 (dL l n)))) := by
  refine CR_of_wpD [4] mixed 4 [8, 16] Tryd.func52 rfl (by kernel_rfl) rfl (by simp) (by simp) ?_
  have e0 : IntKind.i64.wrap ((n : Int) - 1) = (n : Int) - 1 := wrap64 (by omega) (by omega)
  simp (maxSteps := 1000000) [go_sem, Tryd.f52, hn, e0]
  refine wpA_loop (fun i : Nat => i ≤ n ∧ dL l i = dL l n) (fun i => { n := 19, nv := 4, ex := [8, 16], vs := [(0, .p (rowP l)), (2, .p (.int .i64 0)), (3, .p (.int .i64 ((i : Int) - 1)))], ts := [], rs := [] }) (fun i => i) n ⟨Nat.le_refl _, rfl⟩ (by simp [go_sem, LeS, leV, leR, leA]) ?_
  rintro i ⟨hi, he⟩
  simp (maxSteps := 1000000) [go_sem]
  refine condK_if (fun h => ?_) (fun h => ?_)
  · obtain ⟨k, rfl⟩ : ∃ k, i = k + 1 := ⟨i - 1, by omega⟩
    have hk : k < l.length := by omega
    have ea := elemAt_P hk
    have e1 : ((k + 1 : Nat) : Int) - 1 = k := by omega
    have e2 : IntKind.i64.wrap ((k : Int) - 1) = (k : Int) - 1 := wrap64 (by omega) (by omega)
    have e3 : IntKind.i64.wrap ((k : Int) + 1) = (k : Int) + 1 := wrap64 (by omega) (by omega)
    have eL : dL l (k + 1) = if l[k] ≠ blk then (k : Int) + 1 else dL l k := by rw [dL, row_getD hk]
    simp only [e1]
    simp (maxSteps := 1000000) (disch := omega) [go_sem, ea, hk]
    refine HCallK_of (.p (clP blk)) rfl rfl (fun _ => pcallA_of 46 blank_cr rfl ⟨rfl, by simp [Tryd.f46]⟩ ⟨by simp [go_sem], by simp [go_sem]⟩) ?_
    simp (maxSteps := 1000000) [go_sem, clP, blk]
    refine condK_split (fun h3 => ?_) (fun h3 => ?_)
    · have hc : l[k] ≠ blk := fun e => by
        rw [e] at h3; simp [blk] at h3
      rw [if_pos hc] at eL
      simp (maxSteps := 1000000) [go_sem, e3]
      exact ret_is (.p (.int .i64 (dL l n))) rfl (by simp [go_sem, resOf, leA, ← he, eL]) ⟨rfl, rfl⟩
    · have hc : l[k] = blk := by
        rw [← cl_eq]; simpa [blk] using h3
      rw [if_neg (by simp [hc])] at eL
      simp (maxSteps := 1000000) [go_sem, e2]
      exact LoopK_next k ⟨by omega, by rw [← eL, he]⟩ (by simp [go_sem, LeS, leV, leR, leA]) (by omega)
  · obtain rfl : i = 0 := by omega
    simp (maxSteps := 1000000) [go_sem]
    exact ret_is (.p (.int .i64 (dL l n))) rfl (by simp [go_sem, resOf, leA, ← he, dL]) ⟨rfl, rfl⟩
theorem dF_stay {a b : Row} {k : Nat} (h : 0 ≤ dF a b k) : ∀ j, dF a b (k + j) = dF a b k
  | 0 => rfl
  | j + 1 => by rw [← Nat.add_assoc, dF, dF_stay h j, if_neg (by omega)]
theorem same_row_cr (a b : Row) (n : Nat) (h1 : a.length = n) (h2 : b.length = n) (hb : n ≤ 1000000) : CR Tryd.prog 41 [] [.p (rowP a), .p (rowP b)] [] (is (.p (.bool (decide (dF a b n < 0))))) := by
  refine CR_of_wp mixed 6 [10, 14, 25] Tryd.func41 rfl (by kernel_rfl) rfl (by simp) (by simp) ?_
  simp (maxSteps := 1000000) [go_sem, Tryd.f41, h1, h2]
  refine wpA_loop (fun i : Nat => i ≤ n ∧ dF a b i < 0) (fun i => { n := 26, nv := 6, ex := [10, 14, 25], vs := [(0, .p (rowP a)), (1, .p (rowP b)), (4, .p (.bool false)), (5, .p (.int .i64 i))], ts := [], rs := [] }) (fun i => n - i) 0 ⟨Nat.zero_le _, by rw [dF]; decide⟩ (by simp [go_sem, LeS, leV, leR, leA]) ?_
  rintro i ⟨hi, he⟩
  simp (maxSteps := 1000000) [go_sem, h1]
  refine condK_if (fun h => ?_) (fun h => ?_)
  · have hi1 : i < a.length := by omega
    have hi2 : i < b.length := by omega
    have ea := elemAt_P hi1
    have eb := elemAt_P hi2
    have eF : dF a b (i + 1) = if dF a b i < 0 ∧ a[i] ≠ b[i] then (i : Int) else dF a b i := by rw [dF, row_getD hi1, row_getD hi2]
    have e3 : IntKind.i64.wrap ((i : Int) + 1) = (i : Int) + 1 := wrap64 (by omega) (by omega)
    simp (maxSteps := 1000000) (disch := omega) [go_sem, ea, eb, h1, h2, h]
    refine condK_split (fun h3 => ?_) (fun h3 => ?_)
    · have hc : dF a b i < 0 ∧ a[i] ≠ b[i] := by
        refine ⟨he, fun e => ?_⟩
        rw [e] at h3; simp at h3
      rw [if_pos hc] at eF
      have e4 : ¬ dF a b n < 0 := by
        have := dF_stay (a := a) (b := b) (k := i + 1) (by omega) (n - (i + 1))
        rw [show i + 1 + (n - (i + 1)) = n from by omega] at this
        omega
      simp (maxSteps := 1000000) [go_sem]
      exact ret_is (.p (.bool false)) rfl (by simp [go_sem, resOf, leA]) ⟨rfl, by simp [e4]⟩
    · have hc : ¬ (dF a b i < 0 ∧ a[i] ≠ b[i]) := by
        rintro ⟨h4, h5⟩
        apply h5
        rw [← cl_eq]
        simpa [h4] using h3
      rw [if_neg hc] at eF
      simp (maxSteps := 1000000) [go_sem, e3]
      exact LoopK_next (i + 1) ⟨by omega, by omega⟩ (by simp [go_sem, LeS, leV, leR, leA]) (by omega)
  · obtain rfl : i = n := by omega
    simp (maxSteps := 1000000) [go_sem]
    exact ret_is (.p (.bool true)) rfl (by simp [go_sem, resOf, leA]) ⟨rfl, by simp [he]⟩
theorem dF_ge {a b : Row} {j : Nat} (h : dF a b j < 0) : ∀ m, dF a b (j + m) < 0 ∨ (j : Int) ≤ dF a b (j + m)
  | 0 => .inl h
  | m + 1 => by
    rw [← Nat.add_assoc, dF]
    rcases dF_ge h m with ih | ih
    · split
      · right; omega
      · exact .inl ih
    · rw [if_neg (by omega)]; exact .inr ih
theorem dF_mono {a b : Row} {n k : Nat} {F : Nat} (hF : dF a b n = F) (hk : k ≤ F) (hn : F < n) : dF a b k < 0 := by
  by_cases h : dF a b k < 0
  · exact h
  · have := dF_stay (a := a) (b := b) (k := k) (by omega) (n - k)
    rw [show k + (n - k) = n from by omega, hF] at this
    have b1 := dF_bd a b k
    omega
theorem one_cr (r : Int) (n : Nat) (a b : Row) (h1 : a.length = n) (h2 : b.length = n) (hb : n ≤ 1000) (hd : 0 ≤ dF a b n) (ht : ∀ c ∈ b, c.t.length ≤ 140737488355328) :
    CR Tryd.prog 42 [] [.p (.int .i64 r), .p (rowP a), .p (rowP b)] [] (is (.p (dRow r a b n))) := by
  have b1 := dF_bd a b n
  have b2 := dL_bd b n
  have lb := last_cr b n h2 (by omega)
  have la := last_cr a n h1 (by omega)
  obtain ⟨F, hF⟩ : ∃ F : Nat, dF a b n = F := ⟨(dF a b n).toNat, by omega⟩
  obtain ⟨T, hT⟩ : ∃ T : Nat, max (dL b n) (dF a b n) = T := ⟨(max (dL b n) (dF a b n)).toNat, by omega⟩
  have hFT : F ≤ T ∧ T ≤ n ∧ F < n := by omega
  have hdr : dRow r a b n = .agg [.int .i64 r, .int .i64 F, .int .i64 T, .str (dT b F (T - F)), .bool (decide ((T : Int) < dL a n))] := by
    have e1 : ((T : Int) - (F : Int)).toNat = T - F := by omega
    rw [dRow, if_neg (by omega), hT, hF, e1]; rfl
  rw [hdr]
  rw [hF] at hT
  refine CR_of_wpD [11] mixed 9 [21, 33, 42] Tryd.func42 rfl (by kernel_rfl) rfl (by simp) (by simp) ?_
  simp (maxSteps := 1000000) [go_sem, Tryd.f42]
  refine wpA_loop (fun k : Nat => k ≤ F) (fun k => { n := 61, nv := 9, ex := [21, 33, 42], vs := [(1, .p (rowP a)), (2, .p (rowP b)), (6, .lp [6] 0), (7, .lp [7] 0)], ts := [], rs := [([6], [.p (.int .i64 0), .p (.int .i64 0), .p (.int .i64 0), .p (.str []), .p (.bool false)]), ([7], [.p (.int .i64 r), .p (.int .i64 k), .p (.int .i64 0), .p (.str []), .p (.bool false)])] }) (fun k => F - k) 0 (Nat.zero_le _) (by simp [go_sem, LeS, leV, leR, leA, leL]) ?_
  intro k hk
  have hk1 : k < a.length := by omega
  have hk2 : k < b.length := by omega
  have hkn : k < n := by omega
  have ea := elemAt_P hk1
  have eb := elemAt_P hk2
  have eF : dF a b (k + 1) = if dF a b k < 0 ∧ a[k] ≠ b[k] then (k : Int) else dF a b k := by rw [dF, row_getD hk1, row_getD hk2]
  have hneg := dF_mono hF hk hFT.2.2
  have e3 : IntKind.i64.wrap ((k : Int) + 1) = (k : Int) + 1 := wrap64 (by omega) (by omega)
  simp (maxSteps := 1000000) (disch := omega) [go_sem, ea, eb, h1, h2, hkn]
  refine condK_split (fun h3 => ?_) (fun h3 => ?_)
  · have hc : a[k] = b[k] := by
      rw [← cl_eq]; simpa using h3
    rw [if_neg (fun h => h.2 hc)] at eF
    have hkF : k < F := by
      rcases Nat.lt_or_ge k F with h | h
      · exact h
      · have e : k = F := by omega
        subst e
        have := dF_ge (a := a) (b := b) (j := k + 1) (by rw [eF]; exact hneg) (n - (k + 1))
        rw [show k + 1 + (n - (k + 1)) = n from by omega, hF] at this
        omega
    simp (maxSteps := 1000000) [go_sem, e3]
    exact LoopK_next (k + 1) (by omega) (by simp [go_sem, LeS, leV, leR, leA, leL]) (by omega)
  · have hc : a[k] ≠ b[k] := fun e => by
      rw [e] at h3; simp at h3
    rw [if_pos ⟨hneg, hc⟩] at eF
    have hkF : k = F := by
      have := dF_stay (a := a) (b := b) (k := k + 1) (by omega) (n - (k + 1))
      rw [show k + 1 + (n - (k + 1)) = n from by omega] at this
      omega
    subst hkF
    simp (maxSteps := 1000000) [go_sem]
    refine ⟨⟨rfl, by simp [Tryd.f52]⟩, CallK_of [] lb (by simp [go_sem]) ⟨by simp [go_sem], by simp [go_sem]⟩ (by simp [go_sem]) ?_⟩
    rintro y rs ⟨rfl, rfl⟩
    simp (maxSteps := 1000000) [go_sem]
    refine condK_join (ι := AV × AV × List (Nat × AV)) (fun i => { n := 61, nv := 9, ex := [21, 33, 42], vs := [(1, .p (.sl 2 (a.map clP))), (2, .p (.sl 2 (b.map clP))), (6, .lp [6] 0), (7, .lp [7] 0), (21, i.1), (33, i.2.1)], ts := i.2.2, rs := [([6], [.p (.int .i64 0), .p (.int .i64 0), .p (.int .i64 0), .p (.str []), .p (.bool false)]), ([7], [.p (.int .i64 r), .p (.int .i64 k), .p (.int .i64 T), .p (.str []), .p (.bool false)])] }) (condK_if (fun h5 => ?_) (fun h5 => ?_)) ?_
    · have hTk : (T : Int) = k := by omega
      simp (maxSteps := 1000000) [go_sem]
      exact JoinK_in (_, _, _) (by rw [hTk])
    · have hTk : (T : Int) = dL b n := by omega
      simp (maxSteps := 1000000) [go_sem]
      exact JoinK_in (_, _, _) (by rw [hTk])
    · rintro ⟨v1, v2, ts⟩
      simp (maxSteps := 1000000) [go_sem]
      clear hdr eF hneg h3 hc
      refine wpA_loop (fun j : Nat => k + j ≤ T) (fun j => { n := 61, nv := 9, ex := [42], vs := [(1, .p (rowP a)), (2, .p (rowP b)), (6, .lp [6] 0), (7, .lp [7] 0), (8, .p (.int .i64 (k + j : Nat)))], ts := [], rs := [([6], [.p (.int .i64 0), .p (.int .i64 0), .p (.int .i64 0), .p (.str []), .p (.bool false)]), ([7], [.p (.int .i64 r), .p (.int .i64 k), .p (.int .i64 T), .p (.str (dT b k j)), .p (.bool false)])] }) (fun j => T - (k + j)) 0 (by simp; omega) (by simp [go_sem, LeS, leV, leR, leA, leL, dT]) ?_
      intro j hj
      have ec : ((k + j : Nat) : Int) = (k : Int) + j := by omega
      simp (maxSteps := 1000000) [go_sem]
      refine condK_if (fun h3 => ?_) (fun h3 => ?_)
      · have hj2 : k + j < b.length := by omega
        have eb2 := elemAt_P hj2
        have eT : dT b k (j + 1) = dT b k j ++ b[k + j].t := by rw [dT, row_getD hj2]
        have e2 : ((k : Int) + (j : Int)).toNat = k + j := by omega
        have hj3 : (k : Int) + j < n := by omega
        have hj4 : (0 : Int) ≤ (k : Int) + j := by omega
        have e5 : IntKind.i64.wrap ((k : Int) + j + 1) = (k : Int) + j + 1 := wrap64 (by omega) (by omega)
        have hkk := dT_len ht k j
        have hk3 := ht b[k + j] (List.getElem_mem hj2)
        simp (maxSteps := 1000000) (disch := omega) [go_sem, e5, eb2, h2, e2, hj3, hj4]
        have e6 : (k : Int) + ((j : Int) + 1) = (k : Int) + j + 1 := by omega
        refine ⟨by omega, LoopK_next (j + 1) (by omega) (by simp [go_sem, LeS, leV, leR, leA, leL, eT, e6]) (by omega)⟩
      · obtain rfl : j = T - k := by omega
        simp (maxSteps := 1000000) [go_sem]
        refine HCallK_of (.p (.int .i64 (dL a n))) rfl rfl (fun _ => pcallA_of 52 la rfl ⟨rfl, by simp [Tryd.f52]⟩ ⟨by simp [go_sem], by simp [go_sem]⟩) ?_
        simp (maxSteps := 1000000) [go_sem]
        exact ret_is (.p (.agg [.int .i64 r, .int .i64 k, .int .i64 T, .str (dT b k (T - k)), .bool (decide ((T : Int) < dL a n))])) rfl (by simp [go_sem, resOf, leA]) ⟨rfl, rfl⟩
/-- The rows that change, of the first so many: the document's. -/
def xRs (C : Nat) (X Y : List Row) : Nat → List PV
  | 0 => []
  | k + 1 => if 0 ≤ dF (X.getD k []) (Y.getD k []) C then xRs C X Y k ++ [dRow k (X.getD k []) (Y.getD k []) C] else xRs C X Y k
theorem xRs_len (C : Nat) (X Y : List Row) (k : Nat) : (xRs C X Y k).length ≤ k := by
  induction k with
  | zero => simp [xRs]
  | succ k ih =>
    rw [xRs]
    split
    · simp; omega
    · omega
theorem xrows_cr (R C : Nat) (X Y : List Row) (hR : 0 < R ∧ R ≤ 500) (hC : 0 < C ∧ C ≤ 1000) (hX : X.length = R) (hY : Y.length = R) (hXC : ∀ a ∈ X, a.length = C) (hYC : ∀ b ∈ Y, b.length = C)
    (ht : ∀ b ∈ Y, ∀ c ∈ b, c.t.length ≤ 140737488355328) : CR Tryd.prog 17 [] [.p (.sl 1 (X.map rowP)), .p (.sl 1 (Y.map rowP))] [] (is (.p (.sl 5 (xRs C X Y R)))) := by
  refine CR_of_wpD [8] mixed 7 [27, 31, 43] Tryd.func17 rfl (by kernel_rfl) rfl (by simp) (by simp) ?_
  have hx0 : X[0].length = C := hXC _ (List.getElem_mem _)
  have hy0 : Y[0].length = C := hYC _ (List.getElem_mem _)
  have q0 : 0 < X.length := by omega
  have q1 : 0 < Y.length := by omega
  simp (maxSteps := 1000000) (disch := omega) [go_sem, Tryd.f17, elemAt_map, hX, hY, hx0, hy0, hR]
  refine wpA_loop (fun k : Nat => k ≤ R) (fun k => { n := 58, nv := 7, ex := [27, 31, 43], vs := [(0, .p (.sl 1 (X.map rowP))), (1, .p (.sl 1 (Y.map rowP))), (5, .os [5] 5 (xRs C X Y k)), (6, .p (.int .i64 k))], ts := [], rs := [] }) (fun k => R - k) 0 (by simp) (by simp [go_sem, LeS, leV, leR, leA, xRs]) ?_
  intro k hk
  simp (maxSteps := 1000000) [go_sem, hX]
  refine condK_if (fun h => ?_) (fun h => ?_)
  · have k1 : k < X.length := by omega
    have k2 : k < Y.length := by omega
    have xl : X[k].length = C := hXC _ (List.getElem_mem _)
    have yl : Y[k].length = C := hYC _ (List.getElem_mem _)
    have hs := same_row_cr X[k] Y[k] C xl yl (by omega)
    have ho := one_cr k C X[k] Y[k] xl yl (by omega)
    have hty := ht Y[k] (List.getElem_mem _)
    have eR : xRs C X Y (k + 1) = if 0 ≤ dF X[k] Y[k] C then xRs C X Y k ++ [dRow k X[k] Y[k] C] else xRs C X Y k := by
      rw [xRs, List.getD_eq_getElem?_getD, List.getD_eq_getElem?_getD, List.getElem?_eq_getElem k1, List.getElem?_eq_getElem k2]; rfl
    have xlen := xRs_len C X Y k
    have e3 : IntKind.i64.wrap ((k : Int) + 1) = (k : Int) + 1 := wrap64 (by omega) (by omega)
    have m1 := elemAt_map rowP X k k1
    have m2 := elemAt_map rowP Y k k2
    have y1 : k < Y.length := k2
    generalize X[k] = a at *
    generalize Y[k] = b at *
    simp (maxSteps := 1000000) (disch := omega) [go_sem, m1, m2, hX, hY, h]
    refine ⟨⟨rfl, by simp [Tryd.f41]⟩, CallK_of [] hs (by simp [go_sem]) ⟨by simp [go_sem], by simp [go_sem]⟩ (by simp [go_sem]) ?_⟩
    rintro y rs ⟨rfl, rfl⟩
    simp (maxSteps := 1000000) [go_sem]
    refine condK_ifn (fun h3 => ?_) (fun h3 => ?_)
    · have ho := ho (by omega) hty
      rw [if_pos (by omega)] at eR
      have hd2 : ∃ f t s e, dRow k a b C = .agg [.int .i64 k, .int .i64 f, .int .i64 t, .str s, .bool e] := ⟨_, _, _, _, by rw [dRow, if_neg (by omega)]⟩
      obtain ⟨f, t, s, e, hd2⟩ := hd2
      simp (maxSteps := 1000000) (disch := omega) [go_sem, m1, m2, hX, hY, h]
      refine HCallK_of (.p (dRow k a b C)) rfl rfl (fun _ => pcallA_of 42 ho rfl ⟨rfl, by simp [Tryd.f42]⟩ ⟨by simp [go_sem], by simp [go_sem]⟩) ?_
      rw [hd2] at eR ⊢
      simp (maxSteps := 1000000) [go_sem, e3]
      refine ⟨by omega, LoopK_next (k + 1) (by omega) (by simp [go_sem, LeS, leV, leR, leA, eR]) (by omega)⟩
    · rw [if_neg (by omega)] at eR
      simp (maxSteps := 1000000) [go_sem, e3]
      exact LoopK_next (k + 1) (by omega) (by simp [go_sem, LeS, leV, leR, leA, eR]) (by omega)
  · obtain rfl : k = R := by omega
    simp (maxSteps := 1000000) [go_sem]
    exact ret_is (.p (.sl 5 (xRs C X Y k))) rfl (by simp [go_sem, resOf, leA]) ⟨rfl, rfl⟩
end Go.Proofs.YtjgfmanahimpoaaDoor
namespace Go.Proofs.YtjgfmanahimpoaaDoor
open Go.AM
set_option maxHeartbeats 1600000
set_option maxRecDepth 10000
def goL (r c : Int) (known : Bool) (r' c' : Int) : List AOp := if known then wayL r c r' c' else [⟨2, r', c', []⟩]
theorem go_cr (r c : Int) (known : Bool) (r' c' : Int) (hr : 0 ≤ r ∧ r ≤ 1000) (hc : 0 ≤ c ∧ c ≤ 1000) (hr' : 0 ≤ r' ∧ r' ≤ 1000) (hc' : 0 ≤ c' ∧ c' ≤ 1000) :
    CR Tryd.prog 19 [] [.p (spotP r c), .p (.bool known), .p (spotP r' c')] [] (is (.p (opsP (goL r c known r' c')))) := by
  have hw := way_cr r c r' c' hr hc hr' hc'
  refine CR_of_wp mixed 7 [8] Tryd.func19 rfl (by kernel_rfl) rfl (by simp) (by simp) ?_
  cases known with
  | false =>
    simp (maxSteps := 1000000) [go_sem, Tryd.f19, spotP]
    exact ret_is (.p (opsP [⟨2, r', c', []⟩])) rfl (by simp [go_sem, resOf, leA, opsP, opP]) ⟨rfl, rfl⟩
  | true =>
    simp (maxSteps := 1000000) [go_sem, Tryd.f19, spotP]
    refine ⟨⟨rfl, by simp [Tryd.f12]⟩, CallK_of [] hw (by simp [go_sem]) ⟨by simp [go_sem], by simp [go_sem, spotP]⟩ (by simp [go_sem]) ?_⟩
    rintro y rs ⟨rfl, rfl⟩
    simp (maxSteps := 1000000) [go_sem, opsP]
    exact ret_is (.p (opsP (wayL r c r' c'))) rfl (by simp [go_sem, resOf, leA, opsP]) ⟨rfl, rfl⟩
theorem rgo_cr (r c : Int) (known : Bool) (r' c' : Int) (hr : 0 ≤ r ∧ r ≤ 1000) (hc : 0 ≤ c ∧ c ≤ 1000) (hr' : 0 ≤ r' ∧ r' ≤ 1000) (hc' : 0 ≤ c' ∧ c' ≤ 1000) :
    CR Tryd.prog 20 [] [.p (spotP r c), .p (.bool known), .p (spotP r' c')] [] (is (.p (opsP (goL r c known r' c')))) := by
  have hw := rway_cr r c r' c' hr hc hr' hc'
  refine CR_of_wp mixed 7 [7] Tryd.func20 rfl (by kernel_rfl) rfl (by simp) (by simp) ?_
  cases known with
  | false =>
    simp (maxSteps := 1000000) [go_sem, Tryd.f20, spotP]
    exact ret_is (.p (opsP [⟨2, r', c', []⟩])) rfl (by simp [go_sem, resOf, leA, opsP, opP]) ⟨rfl, rfl⟩
  | true =>
    simp (maxSteps := 1000000) [go_sem, Tryd.f20, spotP]
    refine ⟨⟨rfl, by simp [Tryd.f13]⟩, CallK_of [] hw (by simp [go_sem]) ⟨by simp [go_sem], by simp [go_sem, spotP]⟩ (by simp [go_sem]) ?_⟩
    rintro y rs ⟨rfl, rfl⟩
    simp (maxSteps := 1000000) [go_sem, opsP]
    exact ret_is (.p (opsP (wayL r c r' c'))) rfl (by simp [go_sem, resOf, leA, opsP]) ⟨rfl, rfl⟩
theorem same_ops_cr (l : List AOp) (hl : l.length ≤ 1000000) : CR Tryd.prog 18 [] [.p (opsP l), .p (opsP l)] [] (is (.p (.bool true))) := by
  refine CR_of_wp mixed 6 [10, 14, 66] Tryd.func18 rfl (by kernel_rfl) rfl (by simp) (by simp) ?_
  simp (maxSteps := 1000000) [go_sem, Tryd.f18, opsP]
  refine wpA_loop (fun k : Nat => k ≤ l.length) (fun k => { n := 67, nv := 6, ex := [10, 14, 66], vs := [(0, .p (opsP l)), (1, .p (opsP l)), (4, .p (.bool false)), (5, .p (.int .i64 k))], ts := [], rs := [] }) (fun k => l.length - k) 0 (by simp) (by simp [go_sem, LeS, leV, leR, leA, opsP]) ?_
  rintro k hk
  simp (maxSteps := 1000000) [go_sem, opsP]
  refine condK_if (fun h1 => ?_) (fun h1 => ?_)
  · have ew : IntKind.i64.wrap ((k : Int) + 1) = (k : Int) + 1 := wrap64 (by omega) (by omega)
    simp (maxSteps := 1000000) [go_sem, elemAt_map, h1, opP, ew]
    exact LoopK_next (k + 1) (by omega) (by simp [go_sem, LeS, leV, leR, leA]) (by omega)
  · simp (maxSteps := 1000000) [go_sem]
    exact ret_is (.p (.bool true)) rfl (by simp [go_sem, resOf, leA]) ⟨rfl, rfl⟩
end Go.Proofs.YtjgfmanahimpoaaDoor
namespace Go.Proofs.YtjgfmanahimpoaaDoor
open Go.AM
set_option maxHeartbeats 3200000
set_option maxRecDepth 10000
/-- A row's change. -/
structure Chg where
  r : Int
  f : Int
  t : Int
  s : List UInt8
  e : Bool
  deriving Inhabited
def chP (c : Chg) : PV := .agg [.int .i64 c.r, .int .i64 c.f, .int .i64 c.t, .str c.s, .bool c.e]
def Chg.ok (c : Chg) : Prop := (0 ≤ c.r ∧ c.r ≤ 1000) ∧ (0 ≤ c.f ∧ c.f ≤ 1000) ∧ 0 ≤ c.t ∧ c.t ≤ 1000
structure OSt where
  l : List AOp
  r : Int
  c : Int
  k : Bool
def oStep (C : Int) (s : OSt) (h : Chg) : OSt :=
  ⟨s.l ++ goL s.r s.c s.k h.r h.f ++ (if h.s = [] then [] else [⟨1, 0, 0, h.s⟩]) ++ (if h.e then [⟨3, 0, 0, []⟩] else []), h.r, h.t, decide (h.t < C)⟩
def oSt (C r0 c0 : Int) (k0 : Bool) (chs : List Chg) : Nat → OSt
  | 0 => ⟨[], r0, c0, k0⟩
  | k + 1 => oStep C (oSt C r0 c0 k0 chs k) (chs.getD k default)
theorem shorter_len {l b : List AOp} {n : Nat} (hl : l.length ≤ n) (hb : b.length ≤ n) : (shorter l b).length ≤ n := by
  rw [shorter]; split <;> assumption
theorem goL_len (r c : Int) (k : Bool) (r' c' : Int) : (goL r c k r' c').length ≤ 2 := by
  rw [goL]
  split
  · have h1 : (rowsL r r').length ≤ 1 := by
      rw [rowsL]; repeat' split
      all_goals simp
    have h2 : (colsL c c').length ≤ 1 := by
      rw [colsL]; repeat' split
      all_goals simp
    have h3 : (shorter (rowsL r r' ++ colsL c c') [⟨2, r', c', []⟩]).length ≤ 2 := shorter_len (by simp; omega) (by simp)
    rw [wayL]
    split
    · exact shorter_len (by simp; omega) h3
    · exact h3
  · simp
theorem oSt_len (C r0 c0 : Int) (k0 : Bool) (chs : List Chg) (k : Nat) : (oSt C r0 c0 k0 chs k).l.length ≤ 4 * k := by
  induction k with
  | zero => simp [oSt]
  | succ k ih =>
    rw [oSt, oStep]
    generalize chs.getD k default = g
    have := goL_len (oSt C r0 c0 k0 chs k).r (oSt C r0 c0 k0 chs k).c (oSt C r0 c0 k0 chs k).k g.r g.f
    simp only [List.length_append]
    split <;> split <;> simp <;> omega
theorem ops_cr (C r0 c0 : Int) (k0 : Bool) (chs : List Chg) (hr : 0 ≤ r0 ∧ r0 ≤ 1000) (hc : 0 ≤ c0 ∧ c0 ≤ 1000) (hn : chs.length ≤ 1000) (hok : ∀ h ∈ chs, h.ok) :
    CR Tryd.prog 21 [] [.p (.sl 5 (chs.map chP)), .p (.int .i64 C), .p (spotP r0 c0), .p (.bool k0)] []
      (is (.tup [.p (opsP (oSt C r0 c0 k0 chs chs.length).l), .p (spotP (oSt C r0 c0 k0 chs chs.length).r (oSt C r0 c0 k0 chs chs.length).c), .p (.bool (oSt C r0 c0 k0 chs chs.length).k)])) := by
  have hst : ∀ k, k ≤ chs.length → (0 ≤ (oSt C r0 c0 k0 chs k).r ∧ (oSt C r0 c0 k0 chs k).r ≤ 1000) ∧ 0 ≤ (oSt C r0 c0 k0 chs k).c ∧ (oSt C r0 c0 k0 chs k).c ≤ 1000 := fun k hk => by
    cases k with
    | zero => exact ⟨hr, hc⟩
    | succ k =>
      have h := hok (chs[k]'(by omega)) (List.getElem_mem _)
      have e : chs.getD k default = chs[k]'(by omega) := by rw [List.getD_eq_getElem?_getD, List.getElem?_eq_getElem (by omega)]; rfl
      rw [oSt, oStep, e]
      exact ⟨h.1, h.2.2⟩
  refine CR_of_wpD [100010, 100012] mixed 17 [17, 32, 40] Tryd.func21 rfl (by kernel_rfl) rfl (by simp) (by simp) ?_
  simp (maxSteps := 1000000) [go_sem, Tryd.f21, spotP]
  refine wpA_loop (fun k : Nat => k ≤ chs.length) (fun k => { n := 58, nv := 17, ex := [17, 32, 40], vs := [(0, .p (.sl 5 (chs.map chP))), (1, .p (.int .i64 C)), (3, .p (.bool (oSt C r0 c0 k0 chs k).k)), (6, .lp [6] 0), (8, .os [8] 4 []), (9, .lp [9] 0), (10, .p (.bool false)), (11, .os [11] 4 ((oSt C r0 c0 k0 chs k).l.map opP)), (14, .p (.sl 5 (chs.map chP))), (15, .p (.int .i64 chs.length)), (16, .p (.int .i64 k))], ts := [], rs := [([6], [.p (.int .i64 (oSt C r0 c0 k0 chs k).r), .p (.int .i64 (oSt C r0 c0 k0 chs k).c)]), ([9], [.p (.int .i64 0), .p (.int .i64 0)])] }) (fun k => chs.length - k) 0 (by simp) (by simp [go_sem, LeS, leV, leR, leA, leL, oSt]) ?_
  intro k hk
  have hs := hst k hk
  have hl := oSt_len C r0 c0 k0 chs k
  simp (maxSteps := 1000000) [go_sem]
  refine condK_if (fun h => ?_) (fun h => ?_)
  · have e : chs.getD k default = chs[k] := by rw [List.getD_eq_getElem?_getD, List.getElem?_eq_getElem h]; rfl
    have hg := hok chs[k] (List.getElem_mem h)
    have hS : oSt C r0 c0 k0 chs (k + 1) = oStep C (oSt C r0 c0 k0 chs k) chs[k] := by rw [oSt, e]
    have m := elemAt_map chP chs k h
    have e3 : IntKind.i64.wrap ((k : Int) + 1) = (k : Int) + 1 := wrap64 (by omega) (by omega)
    generalize oSt C r0 c0 k0 chs k = s at *
    generalize chs[k] = g at *
    have hgo := go_cr s.r s.c s.k g.r g.f hs.1 hs.2 hg.1 hg.2.1
    have hgl := goL_len s.r s.c s.k g.r g.f
    rw [oStep] at hS
    generalize goL s.r s.c s.k g.r g.f = gl at *
    simp (maxSteps := 1000000) [go_sem, m, h, chP]
    refine ⟨⟨rfl, by simp [Tryd.f19]⟩, CallK_of [] hgo (by simp [go_sem]) ⟨by simp [go_sem], by simp [go_sem, spotP]⟩ (by simp [go_sem]) ?_⟩
    rintro y rs ⟨rfl, rfl⟩
    simp (maxSteps := 1000000) [go_sem, opsP]
    refine ⟨by omega, condK_ifn (fun hs1 => ?_) (fun hs1 => ?_)⟩
    · simp (maxSteps := 1000000) [go_sem]
      refine ⟨by omega, condK_split (fun he => ?_) (fun he => ?_)⟩
      · simp (maxSteps := 1000000) [go_sem, e3]
        refine ⟨by omega, LoopK_next (k + 1) (by omega) (by simp [go_sem, LeS, leV, leR, leA, leL, hS, hs1, he, opP]) (by omega)⟩
      · simp (maxSteps := 1000000) [go_sem, e3]
        refine LoopK_next (k + 1) (by omega) (by simp [go_sem, LeS, leV, leR, leA, leL, hS, hs1, he, opP]) (by omega)
    · simp (maxSteps := 1000000) [go_sem]
      refine condK_split (fun he => ?_) (fun he => ?_)
      · simp (maxSteps := 1000000) [go_sem, e3]
        refine ⟨by omega, LoopK_next (k + 1) (by omega) (by simp [go_sem, LeS, leV, leR, leA, leL, hS, hs1, he, opP]) (by omega)⟩
      · simp (maxSteps := 1000000) [go_sem, e3]
        refine LoopK_next (k + 1) (by omega) (by simp [go_sem, LeS, leV, leR, leA, leL, hS, hs1, he]) (by omega)
  · obtain rfl : k = chs.length := by omega
    simp (maxSteps := 1000000) [go_sem]
    exact ret_is (.tup [.p (opsP (oSt C r0 c0 k0 chs chs.length).l), .p (spotP (oSt C r0 c0 k0 chs chs.length).r (oSt C r0 c0 k0 chs chs.length).c), .p (.bool (oSt C r0 c0 k0 chs chs.length).k)]) rfl (by simp [go_sem, resOf, leT, leP, leA, opsP, spotP]) ⟨rfl, rfl⟩
theorem rops_cr (C r0 c0 : Int) (k0 : Bool) (chs : List Chg) (hr : 0 ≤ r0 ∧ r0 ≤ 1000) (hc : 0 ≤ c0 ∧ c0 ≤ 1000) (hn : chs.length ≤ 1000) (hok : ∀ h ∈ chs, h.ok) :
    CR Tryd.prog 22 [] [.p (.sl 5 (chs.map chP)), .p (.int .i64 C), .p (spotP r0 c0), .p (.bool k0)] []
      (is (.tup [.p (opsP (oSt C r0 c0 k0 chs chs.length).l), .p (spotP (oSt C r0 c0 k0 chs chs.length).r (oSt C r0 c0 k0 chs chs.length).c), .p (.bool (oSt C r0 c0 k0 chs chs.length).k)])) := by
  have hst : ∀ k, k ≤ chs.length → (0 ≤ (oSt C r0 c0 k0 chs k).r ∧ (oSt C r0 c0 k0 chs k).r ≤ 1000) ∧ 0 ≤ (oSt C r0 c0 k0 chs k).c ∧ (oSt C r0 c0 k0 chs k).c ≤ 1000 := fun k hk => by
    cases k with
    | zero => exact ⟨hr, hc⟩
    | succ k =>
      have h := hok (chs[k]'(by omega)) (List.getElem_mem _)
      have e : chs.getD k default = chs[k]'(by omega) := by rw [List.getD_eq_getElem?_getD, List.getElem?_eq_getElem (by omega)]; rfl
      rw [oSt, oStep, e]
      exact ⟨h.1, h.2.2⟩
  refine CR_of_wpD [5, 100012] mixed 13 [16, 40, 54] Tryd.func22 rfl (by kernel_rfl) rfl (by simp) (by simp) ?_
  simp (maxSteps := 1000000) [go_sem, Tryd.f22, spotP]
  refine wpA_loop (fun k : Nat => k ≤ chs.length) (fun k => { n := 80, nv := 13, ex := [16, 40, 54], vs := [(0, .p (.sl 5 (chs.map chP))), (1, .p (.int .i64 C)), (3, .p (.bool (oSt C r0 c0 k0 chs k).k)), (6, .lp [6] 0), (8, .os [8] 4 []), (9, .lp [9] 0), (10, .p (.bool false)), (11, .os [11] 4 ((oSt C r0 c0 k0 chs k).l.map opP)), (12, .p (.int .i64 k))], ts := [], rs := [([6], [.p (.int .i64 (oSt C r0 c0 k0 chs k).r), .p (.int .i64 (oSt C r0 c0 k0 chs k).c)]), ([9], [.p (.int .i64 0), .p (.int .i64 0)])] }) (fun k => chs.length - k) 0 (by simp) (by simp [go_sem, LeS, leV, leR, leA, leL, oSt]) ?_
  intro k hk
  have hs := hst k hk
  have hl := oSt_len C r0 c0 k0 chs k
  simp (maxSteps := 1000000) [go_sem]
  refine condK_if (fun h => ?_) (fun h => ?_)
  · have e : chs.getD k default = chs[k] := by rw [List.getD_eq_getElem?_getD, List.getElem?_eq_getElem h]; rfl
    have hg := hok chs[k] (List.getElem_mem h)
    have hS : oSt C r0 c0 k0 chs (k + 1) = oStep C (oSt C r0 c0 k0 chs k) chs[k] := by rw [oSt, e]
    have m := elemAt_map chP chs k h
    have e3 : IntKind.i64.wrap ((k : Int) + 1) = (k : Int) + 1 := wrap64 (by omega) (by omega)
    generalize oSt C r0 c0 k0 chs k = s at *
    generalize chs[k] = g at *
    have hgo := rgo_cr s.r s.c s.k g.r g.f hs.1 hs.2 hg.1 hg.2.1
    have hgl := goL_len s.r s.c s.k g.r g.f
    rw [oStep] at hS
    generalize goL s.r s.c s.k g.r g.f = gl at *
    simp (maxSteps := 1000000) [go_sem, m, h, chP]
    refine HCallK_of (.p (opsP gl)) rfl rfl (fun _ => pcallA_of 20 hgo rfl ⟨rfl, by simp [Tryd.f20]⟩ ⟨by simp [go_sem], by simp [go_sem, spotP]⟩) ?_
    simp (maxSteps := 1000000) [go_sem, m, h, chP, opsP]
    refine ⟨by omega, condK_ifn (fun hs1 => ?_) (fun hs1 => ?_)⟩
    · simp (maxSteps := 1000000) [go_sem, m, h, chP]
      refine ⟨by omega, condK_split (fun he => ?_) (fun he => ?_)⟩
      · simp (maxSteps := 1000000) [go_sem, m, h, chP, e3]
        refine ⟨by omega, LoopK_next (k + 1) (by omega) (by simp [go_sem, LeS, leV, leR, leA, leL, hS, hs1, he, opP]) (by omega)⟩
      · simp (maxSteps := 1000000) [go_sem, m, h, chP, e3]
        refine LoopK_next (k + 1) (by omega) (by simp [go_sem, LeS, leV, leR, leA, leL, hS, hs1, he, opP]) (by omega)
    · simp (maxSteps := 1000000) [go_sem, m, h, chP]
      refine condK_split (fun he => ?_) (fun he => ?_)
      · simp (maxSteps := 1000000) [go_sem, m, h, chP, e3]
        refine ⟨by omega, LoopK_next (k + 1) (by omega) (by simp [go_sem, LeS, leV, leR, leA, leL, hS, hs1, he, opP]) (by omega)⟩
      · simp (maxSteps := 1000000) [go_sem, m, h, chP, e3]
        refine LoopK_next (k + 1) (by omega) (by simp [go_sem, LeS, leV, leR, leA, leL, hS, hs1, he]) (by omega)
  · obtain rfl : k = chs.length := by omega
    simp (maxSteps := 1000000) [go_sem]
    exact ret_is (.tup [.p (opsP (oSt C r0 c0 k0 chs chs.length).l), .p (spotP (oSt C r0 c0 k0 chs chs.length).r (oSt C r0 c0 k0 chs chs.length).c), .p (.bool (oSt C r0 c0 k0 chs chs.length).k)]) rfl (by simp [go_sem, resOf, leT, leP, leA, opsP, spotP]) ⟨rfl, rfl⟩
end Go.Proofs.YtjgfmanahimpoaaDoor
namespace Go.Proofs.YtjgfmanahimpoaaDoor
open Go.AM
set_option maxHeartbeats 3200000
set_option maxRecDepth 10000
def dCh (r : Int) (a b : Row) (n : Nat) : Chg := ⟨r, dF a b n, max (dL b n) (dF a b n), dT b (dF a b n).toNat (max (dL b n) (dF a b n) - dF a b n).toNat, decide (max (dL b n) (dF a b n) < dL a n)⟩
theorem dRow_chP {r : Int} {a b : Row} {n : Nat} (h : 0 ≤ dF a b n) : dRow r a b n = chP (dCh r a b n) := by rw [dRow, if_neg (by omega)]; rfl
def dChs (C : Nat) (l l' : Row) : Nat → List Chg
  | 0 => []
  | k + 1 => if 0 ≤ dF (rowOf C l k) (rowOf C l' k) C then dChs C l l' k ++ [dCh k (rowOf C l k) (rowOf C l' k) C] else dChs C l l' k
theorem dRs_chs (C : Nat) (l l' : Row) (k : Nat) : dRs C l l' k = (dChs C l l' k).map chP := by
  induction k with
  | zero => rfl
  | succ k ih =>
    rw [dRs, dChs]
    split
    · rename_i h; rw [List.map_append, ih, dRow_chP h]; rfl
    · exact ih
theorem dChs_len (C : Nat) (l l' : Row) (k : Nat) : (dChs C l l' k).length ≤ k := by
  have := dRs_len C l l' k
  rw [dRs_chs] at this
  simpa using this
theorem dChs_ok (C : Nat) (l l' : Row) (hC : C ≤ 1000) (k : Nat) (hk : k ≤ 1000) : ∀ h ∈ dChs C l l' k, h.ok := by
  induction k with
  | zero => intro h hh; cases hh
  | succ k ih =>
    intro h hh
    rw [dChs] at hh
    split at hh
    · rename_i hd
      rcases List.mem_append.1 hh with h1 | h1
      · exact ih (by omega) h h1
      · simp only [List.mem_singleton] at h1
        subst h1
        have b1 := dF_bd (rowOf C l k) (rowOf C l' k) C
        have b2 := dL_bd (rowOf C l' k) C
        simp only [Chg.ok, dCh]
        omega
    · exact ih (by omega) h hh
theorem xRs_dRs (C : Nat) (X Y : List Row) (l l' : Row) (k : Nat) (h : ∀ i, i < k → X.getD i [] = rowOf C l i ∧ Y.getD i [] = rowOf C l' i) : xRs C X Y k = dRs C l l' k := by
  induction k with
  | zero => rfl
  | succ k ih =>
    obtain ⟨h1, h2⟩ := h k (by omega)
    rw [xRs, dRs, ih (fun i hi => h i (by omega)), h1, h2]
theorem xRows_at (R C : Nat) (ds : List GDeed) (i : Nat) (hi : i < R) : (xRows R C ds).getD i [] = rowOf C (gEnd R C ds) i := by
  rw [gEnd, made_rows R C ds _ i hi, xRows, List.getD_eq_getElem?_getD, List.getElem?_map, List.getElem?_range hi]
  rfl
theorem xRows_len (R C : Nat) (ds : List GDeed) : (xRows R C ds).length = R := by simp [xRows]
theorem xRows_row (R C : Nat) (ds : List GDeed) : ∀ a ∈ xRows R C ds, a.length = C := fun a ha => by
  simp only [xRows, List.mem_map] at ha
  obtain ⟨i, _, rfl⟩ := ha
  exact xMade_len C R i ds _
theorem gEnd_text (R C : Nat) (ds : List GDeed) (hd : ∀ d ∈ ds, d.x.t.length ≤ 140737488355328) : ∀ c ∈ gEnd R C ds, c.t.length ≤ 140737488355328 :=
  all_made (Q := fun c => c.t.length ≤ 140737488355328) (by decide) (by decide) R C ds hd _ (Nat.min_le_right _ _)
theorem rowOf_mem {C : Nat} {l : Row} {k : Nat} {c : Cl} (h : c ∈ rowOf C l k) : c ∈ l := List.mem_of_mem_drop (List.mem_of_mem_take h)
theorem xRows_text (R C : Nat) (ds : List GDeed) (hd : ∀ d ∈ ds, d.x.t.length ≤ 140737488355328) : ∀ b ∈ xRows R C ds, ∀ c ∈ b, c.t.length ≤ 140737488355328 := fun b hb c hc => by
  obtain ⟨i, hi⟩ := List.mem_iff_getElem?.1 hb
  have hil : i < R := by have := (List.getElem?_eq_some_iff.1 hi).1; rwa [xRows_len] at this
  have e := xRows_at R C ds i hil
  rw [List.getD_eq_getElem?_getD, hi] at e
  have e : b = rowOf C (gEnd R C ds) i := e
  subst e
  exact gEnd_text R C ds hd c (rowOf_mem hc)
theorem and_lt (a : Int) (k : Nat) (hk : k ≤ 32) (y : Int) (hy : (BitVec.ofInt 64 y).toNat = 2 ^ k - 1) : ∃ p : Nat, p < 2 ^ k ∧ IntKind.i64.wrap (BitVec.ofInt IntKind.i64.bits a &&& BitVec.ofInt IntKind.i64.bits y).toNat = p := by
  refine ⟨(BitVec.ofInt 64 a).toNat % 2 ^ k, Nat.mod_lt _ (Nat.two_pow_pos k), ?_⟩
  show IntKind.i64.wrap ((BitVec.ofInt 64 a &&& BitVec.ofInt 64 y).toNat : Int) = _
  rw [BitVec.toNat_and, hy, Nat.and_two_pow_sub_one_eq_mod]
  have h1 : (BitVec.ofInt 64 a).toNat % 2 ^ k < 2 ^ k := Nat.mod_lt _ (Nat.two_pow_pos k)
  have h2 : 2 ^ k ≤ 2 ^ 32 := Nat.pow_le_pow_right (by decide) hk
  rw [wrap64 (by omega) (by omega)]
theorem diff_cr (a b : Int) (da db : List GDeed) (ar ac : Int) (k0 : Bool) (_ : ∀ d ∈ da, d.x.t.length ≤ 140737488355328) (hdb : ∀ d ∈ db, d.x.t.length ≤ 140737488355328) :
    CR Tryd.prog 5 [] [.p (.int .i64 a), .p (.int .i64 b), .p (.sl 5 (da.map gdeedP)), .p (.sl 5 (db.map gdeedP)), .p (spotP ar ac), .p (.bool k0)] [] (is (.p (.bool true))) := by
  obtain ⟨p, hp, ep⟩ := and_lt a 2 (by decide) 3 rfl
  obtain ⟨q, hq, eq⟩ := and_lt b 3 (by decide) 7 rfl
  obtain ⟨r0, hr0, er⟩ := and_lt ar 9 (by decide) 511 rfl
  obtain ⟨c0, hc0, ec⟩ := and_lt ac 9 (by decide) 511 rfl
  simp [go_sem] at ep eq er ec
  obtain ⟨R, hR⟩ : ∃ R, R = 1 + p := ⟨_, rfl⟩
  obtain ⟨C, hC⟩ : ∃ C, C = 2 + q := ⟨_, rfl⟩
  have wR : IntKind.i64.wrap (1 + (p : Int)) = R := by rw [wrap64 (by omega) (by omega)]; omega
  have wC : IntKind.i64.wrap (2 + (q : Int)) = C := by rw [wrap64 (by omega) (by omega)]; omega
  have ma := made_cr R C da (by omega) (by omega)
  have mb := made_cr R C db (by omega) (by omega)
  have la := gEnd_len R C da
  have lb := gEnd_len R C db
  have hrows := rows_cr R C (R * C) (gEnd R C da) (gEnd R C db) rfl (by omega) (by omega) la lb (fun k _ _ c hc => gEnd_text R C db hdb c (rowOf_mem hc))
  have hxr := xrows_cr R C (xRows R C da) (xRows R C db) (by omega) (by omega) (xRows_len R C da) (xRows_len R C db) (xRows_row R C da) (xRows_row R C db) (xRows_text R C db hdb)
  rw [xRs_dRs C _ _ (gEnd R C da) (gEnd R C db) R (fun i hi => ⟨xRows_at R C da i hi, xRows_at R C db i hi⟩), dRs_chs] at hxr
  rw [dRs_chs] at hrows
  have hok := dChs_ok C (gEnd R C da) (gEnd R C db) (by omega) R (by omega)
  have hlen := dChs_len C (gEnd R C da) (gEnd R C db) R
  generalize dChs C (gEnd R C da) (gEnd R C db) R = chs at *
  generalize gEnd R C da = l1 at *
  generalize gEnd R C db = l2 at *
  generalize xRows R C da = X at *
  generalize xRows R C db = Y at *
  have hgo := go_cr r0 c0 k0 R C (by omega) (by omega) (by omega) (by omega)
  have hrgo := rgo_cr r0 c0 k0 R C (by omega) (by omega) (by omega) (by omega)
  have hgl := goL_len r0 c0 k0 R C
  generalize goL r0 c0 k0 R C = gl at *
  have hsg := same_ops_cr gl (by omega)
  have hops := ops_cr C r0 c0 k0 chs (by omega) (by omega) (by omega) hok
  have hrops := rops_cr C r0 c0 k0 chs (by omega) (by omega) (by omega) hok
  have hol := oSt_len C r0 c0 k0 chs chs.length
  generalize oSt C r0 c0 k0 chs chs.length = st at *
  have hss := same_ops_cr st.l (by omega)
  refine CR_of_wpD [16] mixed 26 [64, 68, 133, 151] Tryd.func5 rfl (by kernel_rfl) rfl (by simp) (by simp) ?_
  simp (maxSteps := 1000000) [go_sem, Tryd.f5, spotP, ep, eq, er, ec, wR, wC]
  refine ⟨⟨rfl, by simp [Tryd.f15]⟩, CallK_of [] ma (by simp [go_sem]) ⟨by simp [go_sem], by simp [go_sem]⟩ (by simp [go_sem]) ?_⟩
  rintro y rs ⟨rfl, rfl⟩
  simp (maxSteps := 1000000) [go_sem, gp, cw_ren]
  refine ⟨⟨rfl, by simp [Tryd.f15]⟩, CallK_of [] mb (by simp [go_sem]) ⟨by simp [go_sem], by simp [go_sem]⟩ (by simp [go_sem]) ?_⟩
  rintro y rs ⟨rfl, rfl⟩
  simp (maxSteps := 1000000) [go_sem, gp, cw_ren, cw_upd]
  refine ⟨⟨rfl, by simp [Tryd.f16]⟩, CallK_of [([0], [44, 0]), ([1], [44, 1]), ([2], [51, 0]), ([3], [51, 1])] hrows (by simp [go_sem]) ⟨by simp [go_sem], by simp [go_sem]⟩ (by simp [go_sem, gpp, cw_ren]) ?_⟩
  rintro y rs ⟨rfl, rfl⟩
  simp (maxSteps := 1000000) [go_sem, gpp, cw_ren, cw_upd]
  refine ⟨⟨rfl, by simp [Tryd.f17]⟩, CallK_of [] hxr (by simp [go_sem]) ⟨by simp [go_sem], by simp [go_sem]⟩ (by simp [go_sem]) ?_⟩
  rintro y rs ⟨rfl, rfl⟩
  simp (maxSteps := 1000000) [go_sem]
  clear hrows hxr ma mb
  refine wpA_loop (fun i : Nat => i ≤ chs.length) (fun i => { n := 199, nv := 26, ex := [64, 68, 133, 151], vs := [(0, .p (.int .i64 R)), (1, .p (.int .i64 C)), (5, .p (.bool k0)), (10, .lp [10] 0), (12, .p (.bool false)), (17, .p (.sl 5 (chs.map chP))), (18, .p (.sl 5 (chs.map chP))), (19, .p (.int .i64 i))], ts := [], rs := [([10], [.p (.int .i64 r0), .p (.int .i64 c0)])] }) (fun i => chs.length - i) 0 (by simp) (by simp [go_sem, LeS, leV, leR, leA, leL]) ?_
  intro i hi
  simp (maxSteps := 1000000) [go_sem]
  refine condK_if (fun h => ?_) (fun h => ?_)
  · have m := elemAt_map chP chs i h
    have e3 : IntKind.i64.wrap ((i : Int) + 1) = (i : Int) + 1 := wrap64 (by omega) (by omega)
    generalize chs[i] = g at *
    simp (maxSteps := 1000000) [go_sem, m, h, chP, e3]
    exact LoopK_next (i + 1) (by omega) (by simp [go_sem, LeS, leV, leR, leA, leL]) (by omega)
  · simp (maxSteps := 1000000) [go_sem]
    refine HCallK_of (.p (opsP gl)) rfl rfl (fun _ => pcallA_of 19 hgo rfl ⟨rfl, by simp [Tryd.f19]⟩ ⟨by simp [go_sem], by simp [go_sem, spotP]⟩) ?_
    simp (maxSteps := 1000000) [go_sem, opsP]
    refine HCallK_of (.p (opsP gl)) rfl rfl (fun _ => pcallA_of 20 hrgo rfl ⟨rfl, by simp [Tryd.f20]⟩ ⟨by simp [go_sem], by simp [go_sem, spotP]⟩) ?_
    simp (maxSteps := 1000000) [go_sem, opsP]
    refine HCallK_of (.p (.bool true)) rfl rfl (fun _ => pcallA_of 18 hsg rfl ⟨rfl, by simp [Tryd.f18]⟩ ⟨by simp [go_sem], by simp [go_sem, opsP]⟩) ?_
    simp (maxSteps := 1000000) [go_sem]
    refine ⟨⟨rfl, by simp [Tryd.f21]⟩, CallK_of [] hops (by simp [go_sem]) ⟨by simp [go_sem], by simp [go_sem, spotP]⟩ (by simp [go_sem]) ?_⟩
    rintro y rs ⟨rfl, rfl⟩
    simp (maxSteps := 1000000) [go_sem, opsP, spotP]
    refine ⟨⟨rfl, by simp [Tryd.f22]⟩, CallK_of [] hrops (by simp [go_sem]) ⟨by simp [go_sem], by simp [go_sem, spotP]⟩ (by simp [go_sem]) ?_⟩
    rintro y rs ⟨rfl, rfl⟩
    simp (maxSteps := 1000000) [go_sem, opsP, spotP]
    refine ⟨⟨rfl, by simp [Tryd.f18]⟩, CallK_of [] hss (by simp [go_sem]) ⟨by simp [go_sem], by simp [go_sem, opsP]⟩ (by simp [go_sem]) ?_⟩
    rintro y rs ⟨rfl, rfl⟩
    simp (maxSteps := 1000000) [go_sem]
    refine ⟨⟨rfl, by simp [Tryd.f23]⟩, CallK_of [] awake32_cr (by simp [go_sem]) ⟨by simp [go_sem], by simp [go_sem]⟩ (by simp [go_sem]) ?_⟩
    rintro y rs ⟨rfl, rfl⟩
    simp (maxSteps := 1000000) [go_sem]
    exact ret_is (.p (.bool true)) rfl (by simp [go_sem, resOf, leA]) ⟨rfl, rfl⟩
end Go.Proofs.YtjgfmanahimpoaaDoor
namespace Go.Proofs.YtjgfmanahimpoaaDoor
open Go.ChangeShapes Go.WideShapes Go.ChangeAt Go.RowKit Go.AM
set_option maxRecDepth 100000
theorem of_all {α : Type} {f : α → PV} {Q : α → Prop} : ∀ {es : List PV}, (∀ el ∈ es, ∃ a, Q a ∧ el = f a) → ∃ l : List α, (∀ a ∈ l, Q a) ∧ es = l.map f
  | [], _ => ⟨[], by simp, rfl⟩
  | x :: xs, h => by
    obtain ⟨a, q, rfl⟩ := h x (by simp)
    obtain ⟨l, ql, rfl⟩ := of_all (es := xs) fun el hel => h el (by simp [hel])
    exact ⟨a :: l, by simpa using ⟨q, ql⟩, rfl⟩
section
variable {H : Type} {enc : TypeId × Value → H} {W : World}
abbrev QI : List PV → Prop := fun xs => ∃ x, xs = [x] ∧ ∃ n, x = .int .i64 n
abbrev QT : List PV → Prop := fun xs => ∃ s, xs = [.str s] ∧ s.length ≤ reachBytes
theorem opens_i : Opens enc Tryd.prog W 0 (fun _ => true) true 3 QI := by
  intro fuel cs x h
  obtain ⟨xs, ⟨n, rfl, _⟩, r⟩ := opens_int (k := .i64) (by kernel_rfl) _ _ _ h
  exact ⟨_, ⟨_, rfl, n, rfl⟩, r⟩
theorem opens_b : Opens enc Tryd.prog W 0 (fun _ => true) true 4 fun xs => ∃ x, xs = [x] ∧ ∃ b, x = .bool b := by
  intro fuel cs x h
  obtain ⟨xs, ⟨b, rfl⟩, r⟩ := opens_bool (by kernel_rfl) _ _ _ h
  exact ⟨_, ⟨_, rfl, b, rfl⟩, r⟩
theorem opens_x : OpensW enc Tryd.prog W 0 (fun _ => true) true 76 (PartsQ [QT, QI]) :=
  opensW_struct Tryd.underlying76 (by kernel_rfl) ⟨opensW_string (by kernel_rfl), opensW_of opens_i, trivial⟩
theorem opens_deed : OpensW enc Tryd.prog W 0 (fun _ => true) true 78 (PartsQ [QI, QI, QI, PartsQ [QT, QI]]) :=
  opensW_struct Tryd.underlying78 (by kernel_rfl) ⟨opensW_of opens_i, opensW_of opens_i, opensW_of opens_i, opens_x, trivial⟩
theorem deed_spec {xs : List PV} (h : PartsQ [QI, QI, QI, PartsQ [QT, QI]] xs) : ∃ d : GDeed, d.x.t.length ≤ reachBytes ∧ PV.agg xs = gdeedP d := by
  obtain ⟨a, b, rfl, ⟨_, rfl, k, rfl⟩, c, d, rfl, ⟨_, rfl, r, rfl⟩, e, f, rfl, ⟨_, rfl, cc, rfl⟩, g, h, rfl, ⟨i, j, rfl, ⟨t, rfl, ht⟩, l, m, rfl, ⟨_, rfl, w, rfl⟩, rfl⟩, rfl⟩ := h
  exact ⟨⟨k, r, cc, ⟨t, w⟩⟩, ht, rfl⟩
theorem opens_deeds : OpensW enc Tryd.prog W 0 (fun _ => true) true 41 fun xs => ∃ x, xs = [x] ∧ ∃ ds : List GDeed, (∀ d ∈ ds, d.x.t.length ≤ reachBytes) ∧ x = .sl 5 (ds.map gdeedP) := by
  intro fuel cs x h hw
  obtain ⟨xs, ⟨es, rfl, he⟩, r⟩ := opensW_slice (e := 78) (QE := fun el => ∃ d : GDeed, d.x.t.length ≤ reachBytes ∧ el = gdeedP d) (by kernel_rfl) (of_decide_eq_true (by kernel_rfl)) (fun fuel cs x h hw => by
    obtain ⟨el, v, ⟨xs, rfl, q⟩, r⟩ := elW_agg opens_deed _ _ _ h hw
    exact ⟨_, v, deed_spec q, r⟩) _ _ _ h hw
  obtain ⟨l, ql, rfl⟩ := of_all he
  exact ⟨_, ⟨_, rfl, l, ql, rfl⟩, r⟩
theorem opens_spot : Opens enc Tryd.prog W 0 (fun _ => true) true 38 (PartsQ [QI, QI]) :=
  opens_struct Tryd.underlying38 (by kernel_rfl) ⟨opens_i, opens_i, trivial⟩
end
theorem rows_lifted (os : Os) (started : os.Started) (H : Type) (enc : TypeId × Value → H) :
    ReturnsInHanded {} Tryd.checked os 5 .any (fun w args => (Rows.diffRowsSpec.pre enc Tryd.prog Tryd.f5 [] false w args ∧ laidMetH Tryd.prog laid3 w) ∧ sizedMet enc Tryd.prog Tryd.f5 (OpenSpec.ofChange Rows.diffRowsSpec) false w args)
      (Rows.diffRowsSpec.post enc Tryd.prog Tryd.f5 false true false false) := by
  refine returnsInHanded_of_change_and (C := Tryd.checked) (X := fun w _ => laidMetH Tryd.prog laid3 w) (fun _ _ _ hh h => h.of_heap hh) Tryd.own started (by kernel_rfl) Tryd.func5
    (ChangeSpec.witness_shaped (enc := enc) (C := Tryd.checked) (os := os) (X := fun w _ => laidMetH Tryd.prog laid3 w) false (World.doorLaid Tryd.prog 2000 os) #[.int .i64 0, .int .i64 0, .slice none 0 0, .slice none 0 0, .agg #[.int .i64 0, .int .i64 0], .bool false] 8 rfl (World.shaped_of_RefB (by kernel_rfl) (by kernel_rfl)) (by kernel_rfl) (by kernel_rfl) (by kernel_rfl) (door_met os _)) ?_
  intro W base args ds gs before hval hW _ hwt hL _
  have hgs : gs = [] := by
    obtain ⟨p, q, _, hV, _⟩ := hW
    cases gs with
    | nil => rfl
    | cons _ _ => exact hV.elim
  subst hgs
  have hwt' : fitsW (DataW.weightsEach Tryd.prog Tryd.f5.params.toList ds) = true := by
    have e : Rows.diffRowsSpec.plain.varTypes Tryd.prog = [] := rfl
    rw [List.append_nil] at hwt
    rw [show Tryd.f5.params.toList ++ Rows.diffRowsSpec.plain.varTypes Tryd.checked.prog = Tryd.f5.params.toList from by rw [show Rows.diffRowsSpec.plain.varTypes Tryd.checked.prog = [] from rfl, List.append_nil]] at hwt
    exact hwt
  refine contract_ofW (C := Tryd.checked) (Qs := [fun x => ∃ n, x = .int .i64 n, fun x => ∃ n, x = .int .i64 n, fun x => ∃ ds : List GDeed, (∀ d ∈ ds, d.x.t.length ≤ reachBytes) ∧ x = .sl 5 (ds.map gdeedP), fun x => ∃ ds : List GDeed, (∀ d ∈ ds, d.x.t.length ≤ reachBytes) ∧ x = .sl 5 (ds.map gdeedP), fun x => ∃ xs, x = .agg xs ∧ PartsQ [QI, QI] xs, fun x => ∃ b, x = .bool b]) (tb := 4) Tryd.laidOut rfl (by kernel_rfl) rfl (by kernel_rfl) ?_ ?_ ?_ W base args ds [] before hval hW hwt' (gl_of_laid hL)
  · intro ds h
    match ds, h with
    | [_, _, _, _, _, _], _ => rfl
  · exact ⟨argW_of (arg_one (by kernel_rfl) fun W => opens_i), argW_of (arg_one (by kernel_rfl) fun W => opens_i), argW_one (by kernel_rfl) fun W => opens_deeds, argW_one (by kernel_rfl) fun W => opens_deeds, argW_of (arg_agg (by kernel_rfl) fun W => opens_spot), argW_of (arg_one (by kernel_rfl) fun W => opens_b), trivial⟩
  · intro xs q
    match xs, q with
    | [_, _, _, _, _, _], ⟨⟨a, rfl⟩, ⟨b, rfl⟩, ⟨da, hda, rfl⟩, ⟨db, hdb, rfl⟩, ⟨_, rfl, h⟩, ⟨k, rfl⟩, _⟩ =>
      obtain ⟨_, _, rfl, ⟨_, rfl, ar, rfl⟩, _, _, rfl, ⟨_, rfl, ac, rfl⟩, rfl⟩ := h
      exact diff_cr a b da db ar ac k (fun d hd => Nat.le_trans (hda d hd) (by decide)) (fun d hd => Nat.le_trans (hdb d hd) (by decide))
theorem rows_row : Rows.DiffRowsSaid :=
  OpenClaim.holds_of_wide 5 Tryd.f5 rfl rfl rfl rfl rfl rfl rfl ⟨rfl, rfl, rfl, rfl, rfl⟩ rfl rfl rfl rfl rfl (by kernel_rfl) Tryd.func5 (by kernel_rfl)
    (of_decide_eq_true (by kernel_rfl)) (by unfold Func.isWrapper; first | (rw [if_pos (by decide +kernel)]; kernel_rfl) | (rw [if_neg (by decide +kernel)]; exact ⟨rfl, rfl⟩))
    (fun os started H enc _ => rows_lifted os started H enc)
theorem rows_holds : Rows.DiffRowsCardSaid :=
  Claim7.holds_tied_plain_at .later [] [.data, .data, .data] true (true, "2972f24e63be11ff40e2bccc972430b859bc690050b236464687c53368ed9346") false
    rows_row (fun _ h => by cases h) (by kernel_rfl) (fun _ h => by cases h) diffRows_row_tie rfl ⟨rfl, rfl⟩ (by kernel_rfl) rfl
    (fun f fn hf hfn => by
      obtain rfl : f = 5 := Option.some.inj ((show Tryd.prog.funcNamed "typebar/typebarlaw32.DiffRows" = some 5 by kernel_rfl).symm.trans hf) |>.symm
      obtain rfl : fn = Tryd.f5 := (Option.some.inj (Tryd.func5.symm.trans hfn)).symm
      exact ⟨by kernel_rfl, fun j t ht => by
        have hp : Tryd.f5.params = #[3, 3, 41, 41, 38, 4] := rfl
        rw [hp] at ht
        have hm : t ∈ [3, 3, 41, 41, 38, 4] := by simpa using Array.mem_of_getElem? ht
        have hall : ([3, 3, 41, 41, 38, 4].all fun u => !Tryd.prog.wantsStandIn u) = true := by kernel_rfl
        exact (show Tryd.prog.wantsStandIn t = false by simpa using List.all_eq_true.1 hall t hm)⟩)
    (by kernel_rfl)
end Go.Proofs.YtjgfmanahimpoaaDoor

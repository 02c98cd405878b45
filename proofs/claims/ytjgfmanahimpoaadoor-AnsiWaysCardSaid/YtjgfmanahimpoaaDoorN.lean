/- What AnsiWays does, as a contract of the abstract machine. Conditions: as the law says. -/
import Derived.Test.YtjgfmanahimpoaaDoorM
namespace Go.Proofs.YtjgfmanahimpoaaDoor
open Go.AM
set_option maxHeartbeats 1600000
set_option maxRecDepth 10000
theorem same_cr (l : List AOp) (hl : l.length ≤ 1000000) : CR Tryd.prog 14 [] [.p (opsP l), .p (opsP l)] [] (is (.p (.bool true))) := by
  refine CR_of_wpD [6] mixed 6 [10, 14, 26] Tryd.func14 rfl (by kernel_rfl) rfl (by simp) (by simp) ?_
  simp (maxSteps := 1000000) [go_sem, Tryd.f14, opsP]
  refine wpA_loop (fun k : Nat => k ≤ l.length) (fun k => { n := 27, nv := 6, ex := [10, 14, 26], vs := [(0, .p (opsP l)), (1, .p (opsP l)), (4, .p (.bool false)), (5, .p (.int .i64 k))], ts := [], rs := [] }) (fun k => l.length - k) 0 (by simp) (by simp [go_sem, LeS, leV, leR, leA, opsP]) ?_
  rintro k hk
  simp (maxSteps := 1000000) [go_sem, opsP]
  refine condK_if (fun h1 => ?_) (fun h1 => ?_)
  · have c8 := op_cr l[k]
    have ew : IntKind.i64.wrap ((k : Int) + 1) = (k : Int) + 1 := wrap64 (by omega) (by omega)
    simp (maxSteps := 1000000) [go_sem, elemAt_map, h1, opP]
    refine HCallK_of (.p (opP l[k])) rfl rfl (fun _ => pcallA_of 8 c8 rfl ⟨rfl, by simp [Tryd.f8]⟩ ⟨by simp [go_sem], by simp [go_sem, opP]⟩) ?_
    simp (maxSteps := 1000000) [go_sem, opP, ew]
    exact LoopK_next (k + 1) (by omega) (by simp [go_sem, LeS, leV, leR, leA]) (by omega)
  · simp (maxSteps := 1000000) [go_sem]
    exact ret_is (.p (.bool true)) rfl (by simp [go_sem, resOf, leA]) ⟨rfl, rfl⟩
theorem tmod_bound (a m : Int) (h : 0 < m) : -m < a.tmod m ∧ a.tmod m < m := by
  have h1 := Int.tmod_lt_of_pos a h
  have h2 : -m < a.tmod m := by
    rcases Int.le_total 0 a with ha | ha
    · have := Int.tmod_nonneg m ha; omega
    · have := Int.tmod_nonneg m (a := -a) (by omega)
      have h3 := Int.tmod_lt_of_pos (-a) h
      rw [Int.neg_tmod] at this h3
      omega
  exact ⟨h2, h1⟩
theorem norm_bound (a m : Int) (h : 0 < m) : 0 ≤ (a.tmod m + m).tmod m ∧ (a.tmod m + m).tmod m < m := by
  have h2 := tmod_bound a m h
  exact ⟨Int.tmod_nonneg m (by omega), Int.tmod_lt_of_pos _ h⟩
theorem nDigits_le3 (u : Nat) (h : u ≤ 999) : Lib.nDigits u ≤ 3 := by
  rw [Lib.nDigits]; split
  · omega
  · rw [Lib.nDigits]; split
    · omega
    · rw [Lib.nDigits]; split
      · omega
      · exfalso; omega
theorem shorter_le (l b : List AOp) : (allL (shorter l b)).length ≤ (allL b).length := by
  rw [shorter]; split
  · omega
  · exact Nat.le_refl _
theorem way_len (r c r' c' : Int) (hr' : 0 ≤ r' ∧ r' < 500) : (allL (wayL r c r' c')).length ≤ 11 := by
  have h0 : (allL [⟨2, r', c', []⟩]).length ≤ 11 := by
    have e : allL [⟨2, r', c', []⟩] = [27, 91] ++ digL (min r' 9999 + 1) ++ [59] ++ digL (min c' 9999 + 1) ++ [72] := by simp [allL, putL]
    have h1 : (digL (min r' 9999 + 1)).length ≤ 3 := by
      rw [digL, Lib.decDigits_length]
      exact nDigits_le3 _ (by omega)
    have h2 := digL_len (min c' 9999 + 1)
    rw [e]
    simp
    omega
  rw [wayL]
  have h1 := shorter_le (rowsL r r' ++ colsL c c') [⟨2, r', c', []⟩]
  split
  · have h2 := shorter_le (rowsL r r' ++ [⟨6, 0, 0, []⟩]) (shorter (rowsL r r' ++ colsL c c') [⟨2, r', c', []⟩])
    omega
  · omega
theorem way_same (r c : Int) : wayL r c r c = [] := by
  have e1 : rowsL r r = [] := by rw [rowsL, if_neg (by omega), if_neg (by omega)]
  have e2 : colsL c c = [] := by rw [colsL, if_pos (by omega)]
  have e3 : shorter [] [⟨2, r, c, []⟩] = [] := by
    rw [shorter, if_pos]
    simp [allL, putL]
  rw [wayL, e1, e2, List.append_nil, e3]
  split
  · rw [shorter, if_neg]
    simp [allL]
  · rfl
theorem ways_cr (a b c d : Int) : CR Tryd.prog 4 [] [.p (.int .i64 a), .p (.int .i64 b), .p (.int .i64 c), .p (.int .i64 d)] [] (is (.p (.bool true))) := by
  have n1 := norm_bound a 500 (by decide)
  have n2 := norm_bound b 1000 (by decide)
  have n3 := norm_bound c 500 (by decide)
  have n4 := norm_bound d 1000 (by decide)
  have m1 := tmod_bound a 500 (by decide)
  have m2 := tmod_bound b 1000 (by decide)
  have m3 := tmod_bound c 500 (by decide)
  have m4 := tmod_bound d 1000 (by decide)
  refine CR_of_wp mixed 11 [50] Tryd.func4 rfl (by kernel_rfl) rfl (by simp) (by simp) ?_
  simp (maxSteps := 1000000) [go_sem, Tryd.f4]
  have e1 : IntKind.i64.wrap (a.tmod 500 + 500) = a.tmod 500 + 500 := wrap64 (by omega) (by omega)
  have e2 : IntKind.i64.wrap (b.tmod 1000 + 1000) = b.tmod 1000 + 1000 := wrap64 (by omega) (by omega)
  have e3 : IntKind.i64.wrap (c.tmod 500 + 500) = c.tmod 500 + 500 := wrap64 (by omega) (by omega)
  have e4 : IntKind.i64.wrap (d.tmod 1000 + 1000) = d.tmod 1000 + 1000 := wrap64 (by omega) (by omega)
  simp only [e1, e2, e3, e4]
  clear e1 e2 e3 e4
  generalize (a.tmod 500 + 500).tmod 500 = r at *
  generalize (b.tmod 1000 + 1000).tmod 1000 = q at *
  generalize (c.tmod 500 + 500).tmod 500 = r' at *
  generalize (d.tmod 1000 + 1000).tmod 1000 = q' at *
  have k1 := way_cr r q r' q' (by omega) (by omega) (by omega) (by omega)
  have k2 := rway_cr r q r' q' (by omega) (by omega) (by omega) (by omega)
  have ok := opsOK_way r q r' q' (by omega) (by omega) (by omega) (by omega)
  have k3 := same_cr (wayL r q r' q') ok.2.1
  have k4 := aall_cr _ ok.1 ok.2.1 ok.2.2
  have hl := way_len r q r' q' n3
  have hz : (r = r' ∧ q = q') ∨ (r = r' ∧ ¬ q = q') ∨ ¬ r = r' := by omega
  have hs : r = r' → q = q' → wayL r q r' q' = [] := by rintro rfl rfl; exact way_same r q
  obtain ⟨ww, hw⟩ : ∃ ww, ww = wayL r q r' q' := ⟨_, rfl⟩
  rw [← hw] at k1 k2 k3 k4 hl hs ok
  clear hw n1 n2 n3 n4
  refine ⟨⟨rfl, by simp [Tryd.f12]⟩, CallK_of [] k1 (by simp [go_sem]) ⟨by simp [go_sem], by simp [go_sem, spotP]⟩ (by simp [go_sem]) ?_⟩
  rintro y rs ⟨rfl, rfl⟩
  simp (maxSteps := 1000000) [go_sem, opsP]
  refine ⟨⟨rfl, by simp [Tryd.f13]⟩, CallK_of [] k2 (by simp [go_sem]) ⟨by simp [go_sem], by simp [go_sem, spotP]⟩ (by simp [go_sem]) ?_⟩
  rintro y rs ⟨rfl, rfl⟩
  simp (maxSteps := 1000000) [go_sem, opsP]
  refine ⟨⟨rfl, by simp [Tryd.f14]⟩, CallK_of [] k3 (by simp [go_sem]) ⟨by simp [go_sem], by simp [go_sem, opsP]⟩ (by simp [go_sem]) ?_⟩
  rintro y rs ⟨rfl, rfl⟩
  simp (maxSteps := 1000000) [go_sem]
  refine ⟨⟨rfl, by simp [Tryd.f10]⟩, CallK_of [] k4 (by simp [go_sem]) ⟨by simp [go_sem], by simp [go_sem, opsP]⟩ (by simp [go_sem]) ?_⟩
  rintro y rs ⟨rfl, rfl⟩
  simp (maxSteps := 1000000) [go_sem]
  refine condK_if (fun h => absurd h (by omega)) (fun h => ?_)
  rcases hz with ⟨h1, h2⟩ | ⟨h1, h2⟩ | h1
  · obtain rfl := hs h1 h2
    subst h1; subst h2
    simp (maxSteps := 1000000) [go_sem]
    refine ⟨⟨rfl, by simp [Tryd.f6]⟩, CallK_of [] awake_cr (by simp [go_sem]) ⟨by simp [go_sem], by simp [go_sem]⟩ (by simp [go_sem]) ?_⟩
    rintro y rs ⟨rfl, rfl⟩
    simp (maxSteps := 1000000) [go_sem]
    exact ret_is (.p (.bool true)) rfl (by simp [go_sem, resOf, leA]) ⟨rfl, rfl⟩
  · subst h1
    simp (maxSteps := 1000000) [go_sem, h2]
    refine ⟨⟨rfl, by simp [Tryd.f6]⟩, CallK_of [] awake_cr (by simp [go_sem]) ⟨by simp [go_sem], by simp [go_sem]⟩ (by simp [go_sem]) ?_⟩
    rintro y rs ⟨rfl, rfl⟩
    simp (maxSteps := 1000000) [go_sem]
    exact ret_is (.p (.bool true)) rfl (by simp [go_sem, resOf, leA]) ⟨rfl, rfl⟩
  · simp (maxSteps := 1000000) [go_sem, h1]
    refine ⟨⟨rfl, by simp [Tryd.f6]⟩, CallK_of [] awake_cr (by simp [go_sem]) ⟨by simp [go_sem], by simp [go_sem]⟩ (by simp [go_sem]) ?_⟩
    rintro y rs ⟨rfl, rfl⟩
    simp (maxSteps := 1000000) [go_sem]
    exact ret_is (.p (.bool true)) rfl (by simp [go_sem, resOf, leA]) ⟨rfl, rfl⟩
end Go.Proofs.YtjgfmanahimpoaaDoor

import Derived.Test.YtjgfmanahimpoaaBindF
namespace Go.Proofs.Ytjgfmanahimpoaa
open Go.AM
set_option maxHeartbeats 1600000
set_option maxRecDepth 10000
theorem one_nil : (Value.map none).oneCell' = true := rfl
def valRs (x : Stroke × Int) (m : Tbl) : List (Tok × List AV) := [([3], [.p (.bool x.1.p), .p (.int .i64 x.1.k), .p (.int .i32 x.1.r), .p (.bool x.1.m), .p (.int .i64 x.2)]), ([5], [.p (mapP m)])]
theorem values_cr (l : Tbl) (x : Stroke × Int) (hl : ∀ o ∈ l, o.1.ok) (hx : x.1.ok) : CR Try.prog 5 [] [.p (owns l), .p (ownP x)] [] (is (.p (.bool true))) := by
  refine CR_of_wpD [7, 8, 9, 10] mixed 9 [] Try.func5 rfl (by kernel_rfl) rfl (by simp) (by simp) ?_
  simp (disch := omega) [go_sem, Try.f5, ownP, owns, wrap64]
  refine ⟨rfl, ?_⟩
  refine condK_join (ι := { l' : Tbl // l'.length ≤ 40 ∧ ∀ o ∈ l', o.1.ok } × List (Nat × AV)) (fun i => { n := 73, nv := 9, vs := [(0, .p (.sl 5 (i.1.1.map ownP))), (1, .p (ownP x)), (3, .lp [3] 0), (4, .p (.bool false)), (5, .lp [5] 0)], ts := i.2, rs := valRs x [] }) (condK_if (fun h => ?_) (fun h => ?_)) ?_
  · have ec : cut (l.map ownP) 0 40 = (cut l 0 40).map ownP := by simp [cut, List.map_take]
    simp (disch := omega) [go_sem, wrap64, ec]
    refine ⟨by omega, JoinK_in ⟨⟨cut l 0 40, by simp [cut]; omega, fun o ho => hl o (by simp [cut] at ho; exact List.mem_of_mem_take ho)⟩, _⟩ rfl⟩
  · simp (disch := omega) [go_sem, wrap64]
    exact JoinK_in ⟨⟨l, by omega, hl⟩, _⟩ rfl
  · clear hl
    clear l
    rintro ⟨⟨l, hl, ho⟩, ts⟩
    simp (disch := omega) [go_sem, wrap64, valRs, mapP]
    refine wpA_loop (fun k : Nat => k ≤ l.length) (fun k => { n := 73, nv := 9, vs := [(0, .p (.sl 5 (l.map ownP))), (3, .lp [3] 0), (4, .p (.bool false)), (5, .lp [5] 0), (6, .p (.int .i64 k))], ts := [], rs := valRs x (mapL (l.take k)) }) (fun k => l.length - k) 0 (by simp) (by simp [go_sem, LeS, leV, leR, leA, leL, leL_refl, mapL, mapP, valRs]) ?_
    intro k hk
    simp (disch := omega) [go_sem, wrap64, valRs]
    refine condK_if (fun h1 => ?_) (fun h1 => ?_)
    · simp (disch := omega) [go_sem, wrap64, elemAt_map, h1, ownP]
      refine HCallK_of (.p (strokeP l[k].1)) rfl rfl (fun _ => pcallA_of 13 (stroke_cr l[k].1) rfl ⟨rfl, by simp [Try.f13]⟩ ⟨by simp [go_sem], by simp [go_sem, strokeP]⟩) ?_
      simp (disch := omega) [go_sem, wrap64, elemAt_map, h1, ownP]
      refine HCallK_of (.p (.agg [mapP (setL (mapL (l.take k)) l[k].1 l[k].2)])) rfl rfl (fun _ => pcallA_of 12 (with_cr (mapL (l.take k)) l[k].1 l[k].2) rfl ⟨rfl, by simp [Try.f12]⟩ ⟨by simp [go_sem], by simp [go_sem]⟩) ?_
      simp (disch := omega) [go_sem, wrap64, mapP_fits, mapP_one, mapP_cells]
      refine LoopK_next (k + 1) (by omega) (by simp [go_sem, LeS, leV, leR, leA, leL, leL_refl, mapL_next l k h1, valRs]) (by omega)
    · have hk' : k = l.length := by omega
      subst hk'
      rw [List.take_length]
      have hg := mapL_get x.1 l
      have hs : getL (setL (mapL l) x.1 x.2) x.1 = some x.2 := by rw [getL_set, if_pos rfl]
      simp (disch := omega) [go_sem, wrap64]
      refine HCallK_of (.p (strokeP x.1)) rfl rfl (fun _ => pcallA_of 13 (stroke_cr x.1) rfl ⟨rfl, by simp [Try.f13]⟩ ⟨by simp [go_sem], by simp [go_sem, strokeP]⟩) ?_
      simp (disch := omega) [go_sem, wrap64]
      refine HCallK_of (.p (.int .i64 ((getL (mapL l) x.1).getD (usualL x.1)))) rfl rfl (fun _ => pcallA_of 14 (look_l (mapL l) x.1) rfl ⟨rfl, by simp [Try.f14]⟩ ⟨by simp [go_sem], by simp [go_sem]⟩) ?_
      generalize hK : SeqK Try.prog [7, 8, 9, 10] _ _ = K
      simp (disch := omega) [go_sem, wrap64]
      subst hK
      rw [SeqK_normal, wpA_seq, wpA_regionD]
      generalize hK : SeqK Try.prog [7, 8, 9, 10] _ _ = K
      simp (disch := omega) [go_sem, wrap64, one_nil]
      refine HCallK_of (.p (strokeP x.1)) rfl rfl (fun _ => pcallA_of 13 (stroke_cr x.1) rfl ⟨rfl, by simp [Try.f13]⟩ ⟨by simp [go_sem], by simp [go_sem, strokeP]⟩) ?_
      simp (disch := omega) [go_sem, wrap64, one_nil]
      refine HCallK_of (.p (.agg [mapP (setL (mapL l) x.1 x.2)])) rfl rfl (fun _ => pcallA_of 12 (with_cr (mapL l) x.1 x.2) rfl ⟨rfl, by simp [Try.f12]⟩ ⟨by simp [go_sem], by simp [go_sem]⟩) ?_
      simp (disch := omega) [go_sem, wrap64, one_nil, mapP_fits, mapP_one, mapP_cells]
      subst hK
      rw [SeqK_normal, wpA_seq, wpA_regionD]
      generalize hK : SeqK Try.prog [7, 8, 9, 10] _ _ = K
      simp (disch := omega) [go_sem, wrap64]
      refine HCallK_of (.p (strokeP x.1)) rfl rfl (fun _ => pcallA_of 13 (stroke_cr x.1) rfl ⟨rfl, by simp [Try.f13]⟩ ⟨by simp [go_sem], by simp [go_sem, strokeP]⟩) ?_
      simp (disch := omega) [go_sem, wrap64]
      refine HCallK_of (.p (.int .i64 ((getL (setL (mapL l) x.1 x.2) x.1).getD (usualL x.1)))) rfl rfl (fun _ => pcallA_of 14 (look_l (setL (mapL l) x.1 x.2) x.1) rfl ⟨rfl, by simp [Try.f14]⟩ ⟨by simp [go_sem], by simp [go_sem]⟩) ?_
      simp (disch := omega) [go_sem, wrap64, hs]
      refine HCallK_of (.p (strokeP x.1)) rfl rfl (fun _ => pcallA_of 13 (stroke_cr x.1) rfl ⟨rfl, by simp [Try.f13]⟩ ⟨by simp [go_sem], by simp [go_sem, strokeP]⟩) ?_
      simp (disch := omega) [go_sem, wrap64, hs]
      refine HCallK_of (.p (.int .i64 ((getL (mapL l) x.1).getD (usualL x.1)))) rfl rfl (fun _ => pcallA_of 14 (look_l (mapL l) x.1) rfl ⟨rfl, by simp [Try.f14]⟩ ⟨by simp [go_sem], by simp [go_sem]⟩) ?_
      simp (disch := omega) [go_sem, wrap64, hs]
      refine HCallK_of (.p (.int .i64 ((getL l.reverse x.1).getD (usualL x.1)))) rfl rfl (fun _ => pcallA_of 15 (reflook_cr l x.1 hx (by omega)) rfl ⟨rfl, by simp [Try.f15]⟩ ⟨by simp [go_sem], by simp [go_sem, strokeP, owns]⟩) ?_
      simp (disch := omega) [go_sem, wrap64, hs, hg]
      refine HCallK_of (.p (.bool true)) rfl rfl (fun _ => pcallA_of 11 awake_cr rfl ⟨rfl, by simp [Try.f11]⟩ ⟨by simp [go_sem], by simp [go_sem]⟩) ?_
      simp (disch := omega) [go_sem, wrap64, hs, hg]
      subst hK
      rw [SeqK_normal]
      simp (disch := omega) [go_sem, wrap64]
      exact ret_is (.p (.bool true)) rfl (by simp [go_sem, resOf, leA]) ⟨rfl, rfl⟩
end Go.Proofs.Ytjgfmanahimpoaa

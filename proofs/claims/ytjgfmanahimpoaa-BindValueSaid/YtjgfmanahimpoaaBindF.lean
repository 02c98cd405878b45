/- A part of the proof of this seat's statements, by an abstract machine: what each operation does to values, proved over the model, whatever the program. No condition beyond those that stand. -/
import Derived.Test.YtjgfmanahimpoaaBindE
import Derived.Test.YtjgfmanahimpoaaAmT
namespace Go.Proofs.Ytjgfmanahimpoaa
open Go.AM
set_option maxHeartbeats 1600000
set_option maxRecDepth 10000
def lookSt (l : Tbl) (s : Stroke) (m : Tbl) (k : Nat) : St :=
  { n := 65, nv := 8, vs := [(0, .p (.sl 5 (l.map ownP))), (3, .lp [3] 0), (4, .p (.bool false)), (5, .lp [5] 0), (6, .p (.int .i64 k))], ts := [], rs := [([3], [.p (.bool s.p), .p (.int .i64 s.k), .p (.int .i32 s.r), .p (.bool s.m)]), ([5], [.p (mapP m)])] }
theorem mapP_fits (m : Tbl) : (mapP m).fits = true := by cases m <;> rfl
theorem mapP_one (m : Tbl) : (mapP m).one = true := by cases m <;> rfl
theorem mapP_cells (m : Tbl) : (mapP m).cells = [mapP m] := by cases m <;> rfl
theorem mapL_next (l : Tbl) (k : Nat) (h : k < l.length) : mapL (l.take (k + 1)) = setL (mapL (l.take k)) l[k].1 l[k].2 := by
  rw [List.take_succ_eq_append_getElem h, mapL_snoc]
theorem looks_cr (l : Tbl) (s : Stroke) (hl : ∀ x ∈ l, x.1.ok) (hs : s.ok) : CR Try.prog 4 [] [.p (owns l), .p (strokeP s)] [] (is (.p (.bool true))) := by
  refine CR_of_wpD [7, 11, 13] mixed 8 [] Try.func4 rfl (by kernel_rfl) rfl (by simp) (by simp) ?_
  simp (disch := omega) [go_sem, Try.f4, strokeP, owns]
  refine ⟨rfl, ?_⟩
  refine condK_join (ι := { l' : Tbl // l'.length ≤ 40 ∧ ∀ x ∈ l', x.1.ok } × List (Nat × AV)) (fun i => { n := 65, nv := 8, vs := [(0, .p (.sl 5 (i.1.1.map ownP))), (1, AV.p (PV.agg [PV.bool s.p, PV.int IntKind.i64 s.k, PV.int IntKind.i32 s.r, PV.bool s.m])), (3, .lp [3] 0), (4, .p (.bool false)), (5, .lp [5] 0)], ts := i.2, rs := [([3], [.p (.bool s.p), .p (.int .i64 s.k), .p (.int .i32 s.r), .p (.bool s.m)]), ([5], [.p (.opq (.map none))])] }) (condK_if (fun h => ?_) (fun h => ?_)) ?_
  · have ec : cut (l.map ownP) 0 40 = (cut l 0 40).map ownP := by simp [cut, List.map_take]
    simp (disch := omega) [go_sem, ec]
    refine ⟨by omega, JoinK_in ⟨⟨cut l 0 40, by simp [cut]; omega, fun x hx => hl x (by simp [cut] at hx; exact List.mem_of_mem_take hx)⟩, _⟩ rfl⟩
  · simp (disch := omega) [go_sem]
    exact JoinK_in ⟨⟨l, by omega, hl⟩, _⟩ rfl
  · clear hl
    clear l
    rintro ⟨⟨l, hl, hx⟩, ts⟩
    simp (disch := omega) [go_sem]
    refine wpA_loop (fun k : Nat => k ≤ l.length) (fun k => lookSt l s (mapL (l.take k)) k) (fun k => l.length - k) 0 (by simp) (by simp [go_sem, LeS, leV, leR, leA, leL, lookSt, mapL, mapP]) ?_
    intro k hk
    simp (disch := omega) [go_sem, lookSt]
    refine condK_if (fun h1 => ?_) (fun h1 => ?_)
    · simp (disch := omega) [go_sem, elemAt_map, h1, ownP]
      refine HCallK_of (.p (strokeP l[k].1)) rfl rfl (fun _ => pcallA_of 13 (stroke_cr l[k].1) rfl ⟨rfl, by simp [Try.f13]⟩ ⟨by simp [go_sem], by simp [go_sem, strokeP]⟩) ?_
      simp (disch := omega) [go_sem, elemAt_map, h1, ownP]
      refine HCallK_of (.p (.agg [mapP (setL (mapL (l.take k)) l[k].1 l[k].2)])) rfl rfl (fun _ => pcallA_of 12 (with_cr (mapL (l.take k)) l[k].1 l[k].2) rfl ⟨rfl, by simp [Try.f12]⟩ ⟨by simp [go_sem], by simp [go_sem]⟩) ?_
      simp (disch := omega) [go_sem, wrap64]
      refine LoopK_next (k + 1) (by omega) (by simp [go_sem, LeS, leV, leR, leA, leL, mapL_next l k h1]) (by omega)
    · have hk' : k = l.length := by omega
      subst hk'
      rw [List.take_length]
      simp (disch := omega) [go_sem]
      refine wpA_loop (fun k : Nat => k ≤ l.length) (fun k => { n := 65, nv := 8, vs := [(0, .p (.sl 5 (l.map ownP))), (3, .lp [3] 0), (4, .p (.bool false)), (5, .lp [5] 0), (7, .p (.int .i64 k))], ts := [], rs := [([3], [.p (.bool s.p), .p (.int .i64 s.k), .p (.int .i32 s.r), .p (.bool s.m)]), ([5], [.p (mapP (mapL l))])] }) (fun k => l.length - k) 0 (by simp) (by simp [go_sem, LeS, leV, leR, leA, leL]) ?_
      intro k hk2
      simp (disch := omega) [go_sem]
      refine condK_if (fun h2 => ?_) (fun h2 => ?_)
      · simp (disch := omega) [go_sem, elemAt_map, h2, ownP]
        refine HCallK_of (.p (strokeP l[k].1)) rfl rfl (fun _ => pcallA_of 13 (stroke_cr l[k].1) rfl ⟨rfl, by simp [Try.f13]⟩ ⟨by simp [go_sem], by simp [go_sem, strokeP]⟩) ?_
        simp (disch := omega) [go_sem]
        have hg := mapL_get l[k].1 l
        refine HCallK_of (.p (.int .i64 ((getL (mapL l) l[k].1).getD (usualL l[k].1)))) rfl rfl (fun _ => pcallA_of 14 (look_l (mapL l) l[k].1) rfl ⟨rfl, by simp [Try.f14]⟩ ⟨by simp [go_sem], by simp [go_sem]⟩) ?_
        simp (disch := omega) [go_sem, elemAt_map, h2, ownP]
        refine HCallK_of (.p (.int .i64 ((getL l.reverse l[k].1).getD (usualL l[k].1)))) rfl rfl (fun _ => pcallA_of 15 (reflook_cr l l[k].1 (hx _ (List.getElem_mem h2)) (by omega)) rfl ⟨rfl, by simp [Try.f15]⟩ ⟨by simp [go_sem], by simp [go_sem, strokeP, owns]⟩) ?_
        simp (disch := omega) [go_sem, wrap64, hg]
        refine LoopK_next (k + 1) (by omega) (by simp [go_sem, LeS, leV, leR, leA, leL]) (by omega)
      · simp (disch := omega) [go_sem]
        refine HCallK_of (.p (strokeP s)) rfl rfl (fun _ => pcallA_of 13 (stroke_cr s) rfl ⟨rfl, by simp [Try.f13]⟩ ⟨by simp [go_sem], by simp [go_sem, strokeP]⟩) ?_
        simp (disch := omega) [go_sem]
        have hg := mapL_get s l
        refine HCallK_of (.p (.int .i64 ((getL (mapL l) s).getD (usualL s)))) rfl rfl (fun _ => pcallA_of 14 (look_l (mapL l) s) rfl ⟨rfl, by simp [Try.f14]⟩ ⟨by simp [go_sem], by simp [go_sem]⟩) ?_
        simp (disch := omega) [go_sem]
        refine HCallK_of (.p (.int .i64 ((getL l.reverse s).getD (usualL s)))) rfl rfl (fun _ => pcallA_of 15 (reflook_cr l s hs (by omega)) rfl ⟨rfl, by simp [Try.f15]⟩ ⟨by simp [go_sem], by simp [go_sem, strokeP, owns]⟩) ?_
        simp (disch := omega) [go_sem, hg]
        refine HCallK_of (.p (.bool true)) rfl rfl (fun _ => pcallA_of 11 awake_cr rfl ⟨rfl, by simp [Try.f11]⟩ ⟨by simp [go_sem], by simp [go_sem]⟩) ?_
        simp (disch := omega) [go_sem]
        exact ret_is (.p (.bool true)) rfl (by simp [go_sem, resOf, leA]) ⟨rfl, rfl⟩
end Go.Proofs.Ytjgfmanahimpoaa

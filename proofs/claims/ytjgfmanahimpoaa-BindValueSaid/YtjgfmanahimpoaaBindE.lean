/- A part of the proof of this seat's statements, by an abstract machine: what each operation does to values, proved over the model, whatever the program. No condition beyond those that stand. -/
import Derived.Test.YtjgfmanahimpoaaBindC
namespace Go.Proofs.Ytjgfmanahimpoaa
open Go.AM
set_option maxHeartbeats 800000
set_option maxRecDepth 10000
def ownP (x : Stroke × Int) : PV := .agg [.bool x.1.p, .int .i64 x.1.k, .int .i32 x.1.r, .bool x.1.m, .int .i64 x.2]
def owns (l : Tbl) : PV := .sl 5 (l.map ownP)
theorem back_l (l : Tbl) (s : Stroke) (k : Nat) (h : k < l.length) : getL (l.take (k + 1)).reverse s = if s = l[k].1 then some l[k].2 else getL (l.take k).reverse s := by
  rw [List.take_succ_eq_append_getElem h, List.reverse_append]
  simp only [List.reverse_cons, List.reverse_nil, List.nil_append, List.singleton_append, getL]
theorem reflook_cr (l : Tbl) (s : Stroke) (hs : s.ok) (h : l.length ≤ 1000) : CR Try.prog 15 [] [.p (owns l), .p (strokeP s)] [] (is (.p (.int .i64 ((getL l.reverse s).getD (usualL s))))) := by
  refine CR_of_wp mixed 6 [] Try.func15 rfl (by kernel_rfl) rfl (by simp) (by simp) ?_
  simp (disch := omega) [go_sem, Try.f15, strokeP, owns, wrap64]
  refine wpA_loop (fun k : Nat => k ≤ l.length ∧ getL (l.take k).reverse s = getL l.reverse s) (fun k => { n := 27, nv := 6, vs := [(0, .p (.sl 5 (l.map ownP))), (3, .lp [3] 0), (4, .p (.int .i64 0)), (5, .p (.int .i64 ((k : Int) - 1)))], ts := [], rs := [([3], [.p (.bool s.p), .p (.int .i64 s.k), .p (.int .i32 s.r), .p (.bool s.m)])] }) (fun k => k) l.length (by simp) (by simp [go_sem, LeS, leV, leR, leA, leL]) ?_
  rintro k ⟨hk, hr⟩
  simp (disch := omega) [go_sem]
  refine condK_if (fun h1 => ?_) (fun h1 => ?_)
  · obtain ⟨n, rfl⟩ : ∃ n, k = n + 1 := ⟨k - 1, by omega⟩
    have hn : n < l.length := by omega
    have e := back_l l s n hn
    have e0 : ((n + 1 : Nat) : Int) - 1 = n := by omega
    simp only [e0]
    simp (disch := omega) [go_sem, elemAt_map, hn, ownP]
    have hq := eqC_cs l[n].1 s
    simp only [eqC, cs, Bool.and_true] at hq
    refine condK_split (fun h2 => ?_) (fun h2 => ?_)
    · have e2 : s = l[n].1 := by rw [hq] at h2; exact (of_decide_eq_true h2).symm
      simp (disch := omega) [go_sem, elemAt_map, hn, ownP]
      have e3 : (getL l.reverse s).getD (usualL s) = l[n].2 := by rw [← hr, e, if_pos e2]; rfl
      exact ret_is (.p (.int .i64 ((getL l.reverse s).getD (usualL s)))) rfl (by simp [go_sem, resOf, leA, e3]) ⟨rfl, rfl⟩
    · have e2 : ¬ s = l[n].1 := by rw [hq] at h2; exact fun e => (of_decide_eq_false h2) e.symm
      simp (disch := omega) [go_sem, wrap64]
      refine LoopK_next n ⟨by omega, by rw [← hr, e, if_neg e2]⟩ (by simp [go_sem, LeS, leV, leR, leA, leL]) (by omega)
  · have hk0 : k = 0 := by omega
    subst hk0
    simp (disch := omega) [go_sem]
    refine ⟨⟨rfl, by simp [Try.f35]⟩, ?_⟩
    refine CallK_of [] (usual_cr s hs) (by simp [go_sem]) ⟨by simp [go_sem], by simp [go_sem, strokeP]⟩ (by simp [go_sem]) ?_
    rintro y rs ⟨rfl, rfl⟩
    simp (disch := omega) [go_sem]
    have e3 : getL l.reverse s = none := by rw [← hr]; rfl
    exact ret_is (.p (.int .i64 (usualL s))) rfl (by simp [go_sem, resOf, leA]) ⟨rfl, by simp [e3]⟩
end Go.Proofs.Ytjgfmanahimpoaa

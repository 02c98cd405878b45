/- What Way's inner function does, as a contract of the abstract machine. Conditions: as each law says. -/
import Derived.Test.YtjgfmanahimpoaaDoorG
namespace Go.Proofs.YtjgfmanahimpoaaDoor
open Go.AM
set_option maxHeartbeats 1600000
set_option maxRecDepth 10000
def shorter (l b : List AOp) : List AOp := if (allL l).length < (allL b).length then l else b
def opsOK (l : List AOp) : Prop := (∀ o ∈ l, o.ok) ∧ l.length ≤ 1000000 ∧ (allL l).length ≤ 140737488355328
theorem try_cr (l b : List AOp) (hl : opsOK l) (hb : opsOK b) : CR Tryd.prog 31 [[0]] [.p (opsP l), .lp [0] 0] [([0], [.p (opsP b)])] (fun x rs' => x = .tup [] ∧ rs' = [([0], [.p (opsP (shorter l b))])]) := by
  have c1 := aall_cr l hl.1 hl.2.1 hl.2.2
  have c2 := aall_cr b hb.1 hb.2.1 hb.2.2
  have l1 := hl.2.2
  have l2 := hb.2.2
  refine CR_of_wpD [0] mixed 3 [9] Tryd.func31 rfl (by kernel_rfl) rfl (by simp) (by simp) ?_
  simp (maxSteps := 1000000) (disch := omega) [go_sem, Tryd.f31, opsP]
  refine HCallK_of (.p (.str (allL l))) rfl rfl (fun _ => pcallA_of 10 c1 rfl ⟨rfl, by simp [Tryd.f10]⟩ ⟨by simp [go_sem], by simp [go_sem, opsP]⟩) ?_
  simp (maxSteps := 1000000) (disch := omega) [go_sem]
  refine HCallK_of (.p (.str (allL b))) rfl rfl (fun _ => pcallA_of 10 c2 rfl ⟨rfl, by simp [Tryd.f10]⟩ ⟨by simp [go_sem], by simp [go_sem, opsP]⟩) ?_
  simp (maxSteps := 1000000) (disch := omega) [go_sem]
  refine condK_if (fun h => ?_) (fun h => ?_)
  · simp (maxSteps := 1000000) (disch := omega) [go_sem]
    exact ret_keep [[0]] _ (by simp) (by simp [go_sem, resOf]) ⟨rfl, by simp [go_sem, shorter, h]⟩
  · simp (maxSteps := 1000000) (disch := omega) [go_sem]
    exact ret_keep [[0]] _ (by simp) (by simp [go_sem, resOf]) ⟨rfl, by simp [go_sem, shorter, h]⟩
end Go.Proofs.YtjgfmanahimpoaaDoor

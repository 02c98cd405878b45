/- What the examples beside the statements about terminal ops tell: true. Conditions: as each law says. -/
import Derived.Test.YtjgfmanahimpoaaDoorI
namespace Go.Proofs.YtjgfmanahimpoaaDoor
open Go.AM
set_option maxHeartbeats 1600000
set_option maxRecDepth 10000
theorem opsOK_way (r c r' c' : Int) (_ : 0 ≤ r ∧ r ≤ 1000) (_ : 0 ≤ c ∧ c ≤ 1000) (hr' : 0 ≤ r' ∧ r' ≤ 1000) (hc' : 0 ≤ c' ∧ c' ≤ 1000) : opsOK (wayL r c r' c') := by
  have o0 : opsOK [⟨2, r', c', []⟩] := opsOK_of _ (by simp [AOp.ok]; try omega) (by simp)
  have o1 : opsOK (rowsL r r' ++ colsL c c') := opsOK_of _ (by
    intro o ho
    rw [rowsL, colsL] at ho
    rcases List.mem_append.1 ho with h | h
    · split at h
      · simp at h; subst h; simp [AOp.ok]; omega
      · split at h
        · simp at h; subst h; simp [AOp.ok]; omega
        · cases h
    · split at h
      · cases h
      · split at h
        · simp at h; subst h; simp [AOp.ok]; omega
        · simp at h; subst h; simp [AOp.ok]; omega) (by
    rw [rowsL, colsL]
    repeat' split
    all_goals simp)
  have o2 : opsOK (rowsL r r' ++ [⟨6, 0, 0, []⟩]) := opsOK_of _ (by
    intro o ho
    rw [rowsL] at ho
    rcases List.mem_append.1 ho with h | h
    · split at h
      · simp at h; subst h; simp [AOp.ok]; omega
      · split at h
        · simp at h; subst h; simp [AOp.ok]; omega
        · cases h
    · simp at h; subst h; simp [AOp.ok]) (by
    rw [rowsL]
    repeat' split
    all_goals simp)
  rw [wayL]
  split
  · exact opsOK_shorter o2 (opsOK_shorter o1 o0)
  · exact opsOK_shorter o1 o0
theorem awake_cr : CR Tryd.prog 6 [] [] [] (is (.p (.bool true))) := by
  have a1 : allL (wayL 2 7 2 0) = [13] := by decide +kernel
  have a2 : allL (wayL 2 7 2 8) = [27, 91, 67] := by decide +kernel
  have a3 : putL ⟨2, 0, 4, []⟩ = [27, 91, 49, 59, 53, 72] := by decide +kernel
  have k1 := way_cr 2 7 2 0 (by omega) (by omega) (by omega) (by omega)
  have k2 := way_cr 2 7 2 8 (by omega) (by omega) (by omega) (by omega)
  have k3 := aput_cr ⟨2, 0, 4, []⟩ (by decide) (by decide)
  have o1 := opsOK_way 2 7 2 0 (by omega) (by omega) (by omega) (by omega)
  have o2 := opsOK_way 2 7 2 8 (by omega) (by omega) (by omega) (by omega)
  have k4 := aall_cr _ o1.1 o1.2.1 o1.2.2
  have k5 := aall_cr _ o2.1 o2.2.1 o2.2.2
  rw [a1] at k4
  rw [a2] at k5
  rw [a3] at k3
  generalize wayL 2 7 2 0 = w1 at k1 k4
  generalize wayL 2 7 2 8 = w2 at k2 k5
  refine CR_of_wp mixed 2 [] Tryd.func6 rfl (by kernel_rfl) rfl (by simp) (by simp) ?_
  simp (maxSteps := 1000000) [go_sem, Tryd.f6]
  refine ⟨⟨rfl, by simp [Tryd.f12]⟩, CallK_of [] k1 (by simp [go_sem]) ⟨by simp [go_sem], by simp [go_sem, spotP]⟩ (by simp [go_sem]) ?_⟩
  rintro y rs ⟨rfl, rfl⟩
  simp (maxSteps := 1000000) [go_sem, opsP]
  refine ⟨⟨rfl, by simp [Tryd.f7]⟩, CallK_of [] k3 (by simp [go_sem]) ⟨by simp [go_sem], by simp [go_sem, opP]⟩ (by simp [go_sem]) ?_⟩
  rintro y rs ⟨rfl, rfl⟩
  simp (maxSteps := 1000000) [go_sem]
  refine ⟨⟨rfl, by simp [Tryd.f10]⟩, CallK_of [] k4 (by simp [go_sem]) ⟨by simp [go_sem], by simp [go_sem, opsP]⟩ (by simp [go_sem]) ?_⟩
  rintro y rs ⟨rfl, rfl⟩
  simp (maxSteps := 1000000) [go_sem]
  refine ⟨⟨rfl, by simp [Tryd.f12]⟩, CallK_of [] k2 (by simp [go_sem]) ⟨by simp [go_sem], by simp [go_sem, spotP]⟩ (by simp [go_sem]) ?_⟩
  rintro y rs ⟨rfl, rfl⟩
  simp (maxSteps := 1000000) [go_sem, opsP]
  refine ⟨⟨rfl, by simp [Tryd.f10]⟩, CallK_of [] k5 (by simp [go_sem]) ⟨by simp [go_sem], by simp [go_sem, opsP]⟩ (by simp [go_sem]) ?_⟩
  rintro y rs ⟨rfl, rfl⟩
  simp (maxSteps := 1000000) [go_sem]
  exact ret_is (.p (.bool true)) rfl (by simp [go_sem, resOf, leA]) ⟨rfl, rfl⟩
end Go.Proofs.YtjgfmanahimpoaaDoor

/- What the document's grid's functions do, as contracts of the abstract machine: grids of one to four rows. Conditions: as each law says. -/
import Derived.Test.YtjgfmanahimpoaaDifB
namespace Go.Proofs.Ytjgfmanahimpoaa
open Go.AM
set_option maxHeartbeats 1600000
set_option maxRecDepth 10000
def g1 (C : Nat) (r0 : Row) : List (Tok × List AV) := [([0], [.la [1] 2 0 C]), ([1], cw r0)]
def g2 (C : Nat) (r0 r1 : Row) : List (Tok × List AV) := [([0], [.la [1] 2 0 C, .la [2] 2 0 C]), ([1], cw r0), ([2], cw r1)]
def g3 (C : Nat) (r0 r1 r2 : Row) : List (Tok × List AV) := [([0], [.la [1] 2 0 C, .la [2] 2 0 C, .la [3] 2 0 C]), ([1], cw r0), ([2], cw r1), ([3], cw r2)]
def g4 (C : Nat) (r0 r1 r2 r3 : Row) : List (Tok × List AV) := [([0], [.la [1] 2 0 C, .la [2] 2 0 C, .la [3] 2 0 C, .la [4] 2 0 C]), ([1], cw r0), ([2], cw r1), ([3], cw r2), ([4], cw r3)]
theorem in1_cr (C : Nat) (r0 : Row) (r c : Int) (_ : C ≤ 1000) : CR Try.prog 60 [[0], [1]] [.la [0] 1 0 1, .p (.int .i64 r), .p (.int .i64 c)] (g1 C r0)
    (fun x rs' => x = .p (.bool (decide (0 ≤ r) && decide (r < 1) && decide (0 ≤ c) && decide (c < C))) ∧ rs' = g1 C r0) := by
  refine CR_of_wp mixed 7 [] Try.func60 rfl (by kernel_rfl) rfl (by simp) (by simp) ?_
  by_cases h0 : 0 ≤ r
  · by_cases h1 : r < 1
    · obtain ⟨k, rfl⟩ : ∃ k : Nat, r = k := ⟨r.toNat, by omega⟩
      have hk : k < 1 := by omega
      rcases k with _ | k
      · simp (maxSteps := 1000000) (disch := omega) [go_sem, Try.f60, g1]
        exact ret_keep [[0], [1]] _ (by simp) (by simp [go_sem, resOf, leA]) ⟨rfl, by simp [go_sem, cw_upd]⟩
      · omega
    · have hn : ∀ a0 : AV, [a0][r.toNat]? = none := fun _ => by
        apply List.getElem?_eq_none; simp; omega
      simp (maxSteps := 1000000) (disch := omega) [go_sem, Try.f60, g1, h0, h1, hn]
      exact ret_keep [[0], [1]] _ (by simp) (by simp [go_sem, resOf, leA]) ⟨rfl, by simp [go_sem, cw_upd]⟩
  · have ht : r.toNat = 0 := by omega
    simp (maxSteps := 1000000) (disch := omega) [go_sem, Try.f60, g1, h0, ht]
    exact ret_keep [[0], [1]] _ (by simp) (by simp [go_sem, resOf, leA]) ⟨rfl, by simp [go_sem, cw_upd]⟩
theorem in2_cr (C : Nat) (r0 r1 : Row) (r c : Int) (_ : C ≤ 1000) : CR Try.prog 60 [[0], [1], [2]] [.la [0] 1 0 2, .p (.int .i64 r), .p (.int .i64 c)] (g2 C r0 r1)
    (fun x rs' => x = .p (.bool (decide (0 ≤ r) && decide (r < 2) && decide (0 ≤ c) && decide (c < C))) ∧ rs' = g2 C r0 r1) := by
  refine CR_of_wp mixed 7 [] Try.func60 rfl (by kernel_rfl) rfl (by simp) (by simp) ?_
  by_cases h0 : 0 ≤ r
  · by_cases h1 : r < 2
    · obtain ⟨k, rfl⟩ : ∃ k : Nat, r = k := ⟨r.toNat, by omega⟩
      have hk : k < 2 := by omega
      rcases k with _ | _ | k
      · simp (maxSteps := 1000000) (disch := omega) [go_sem, Try.f60, g2]
        exact ret_keep [[0], [1], [2]] _ (by simp) (by simp [go_sem, resOf, leA]) ⟨rfl, by simp [go_sem, cw_upd]⟩
      · simp (maxSteps := 1000000) (disch := omega) [go_sem, Try.f60, g2]
        exact ret_keep [[0], [1], [2]] _ (by simp) (by simp [go_sem, resOf, leA]) ⟨rfl, by simp [go_sem, cw_upd]⟩
      · omega
    · have hn : ∀ a0 a1 : AV, [a0, a1][r.toNat]? = none := fun _ _ => by
        apply List.getElem?_eq_none; simp; omega
      simp (maxSteps := 1000000) (disch := omega) [go_sem, Try.f60, g2, h0, h1, hn]
      exact ret_keep [[0], [1], [2]] _ (by simp) (by simp [go_sem, resOf, leA]) ⟨rfl, by simp [go_sem, cw_upd]⟩
  · have ht : r.toNat = 0 := by omega
    simp (maxSteps := 1000000) (disch := omega) [go_sem, Try.f60, g2, h0, ht]
    exact ret_keep [[0], [1], [2]] _ (by simp) (by simp [go_sem, resOf, leA]) ⟨rfl, by simp [go_sem, cw_upd]⟩
theorem in3_cr (C : Nat) (r0 r1 r2 : Row) (r c : Int) (_ : C ≤ 1000) : CR Try.prog 60 [[0], [1], [2], [3]] [.la [0] 1 0 3, .p (.int .i64 r), .p (.int .i64 c)] (g3 C r0 r1 r2)
    (fun x rs' => x = .p (.bool (decide (0 ≤ r) && decide (r < 3) && decide (0 ≤ c) && decide (c < C))) ∧ rs' = g3 C r0 r1 r2) := by
  refine CR_of_wp mixed 7 [] Try.func60 rfl (by kernel_rfl) rfl (by simp) (by simp) ?_
  by_cases h0 : 0 ≤ r
  · by_cases h1 : r < 3
    · obtain ⟨k, rfl⟩ : ∃ k : Nat, r = k := ⟨r.toNat, by omega⟩
      have hk : k < 3 := by omega
      rcases k with _ | _ | _ | k
      · simp (maxSteps := 1000000) (disch := omega) [go_sem, Try.f60, g3]
        exact ret_keep [[0], [1], [2], [3]] _ (by simp) (by simp [go_sem, resOf, leA]) ⟨rfl, by simp [go_sem, cw_upd]⟩
      · simp (maxSteps := 1000000) (disch := omega) [go_sem, Try.f60, g3]
        exact ret_keep [[0], [1], [2], [3]] _ (by simp) (by simp [go_sem, resOf, leA]) ⟨rfl, by simp [go_sem, cw_upd]⟩
      · simp (maxSteps := 1000000) (disch := omega) [go_sem, Try.f60, g3]
        exact ret_keep [[0], [1], [2], [3]] _ (by simp) (by simp [go_sem, resOf, leA]) ⟨rfl, by simp [go_sem, cw_upd]⟩
      · omega
    · have hn : ∀ a0 a1 a2 : AV, [a0, a1, a2][r.toNat]? = none := fun _ _ _ => by
        apply List.getElem?_eq_none; simp; omega
      simp (maxSteps := 1000000) (disch := omega) [go_sem, Try.f60, g3, h0, h1, hn]
      exact ret_keep [[0], [1], [2], [3]] _ (by simp) (by simp [go_sem, resOf, leA]) ⟨rfl, by simp [go_sem, cw_upd]⟩
  · have ht : r.toNat = 0 := by omega
    simp (maxSteps := 1000000) (disch := omega) [go_sem, Try.f60, g3, h0, ht]
    exact ret_keep [[0], [1], [2], [3]] _ (by simp) (by simp [go_sem, resOf, leA]) ⟨rfl, by simp [go_sem, cw_upd]⟩
theorem in4_cr (C : Nat) (r0 r1 r2 r3 : Row) (r c : Int) (_ : C ≤ 1000) : CR Try.prog 60 [[0], [1], [2], [3], [4]] [.la [0] 1 0 4, .p (.int .i64 r), .p (.int .i64 c)] (g4 C r0 r1 r2 r3)
    (fun x rs' => x = .p (.bool (decide (0 ≤ r) && decide (r < 4) && decide (0 ≤ c) && decide (c < C))) ∧ rs' = g4 C r0 r1 r2 r3) := by
  refine CR_of_wp mixed 7 [] Try.func60 rfl (by kernel_rfl) rfl (by simp) (by simp) ?_
  by_cases h0 : 0 ≤ r
  · by_cases h1 : r < 4
    · obtain ⟨k, rfl⟩ : ∃ k : Nat, r = k := ⟨r.toNat, by omega⟩
      have hk : k < 4 := by omega
      rcases k with _ | _ | _ | _ | k
      · simp (maxSteps := 1000000) (disch := omega) [go_sem, Try.f60, g4]
        exact ret_keep [[0], [1], [2], [3], [4]] _ (by simp) (by simp [go_sem, resOf, leA]) ⟨rfl, by simp [go_sem, cw_upd]⟩
      · simp (maxSteps := 1000000) (disch := omega) [go_sem, Try.f60, g4]
        exact ret_keep [[0], [1], [2], [3], [4]] _ (by simp) (by simp [go_sem, resOf, leA]) ⟨rfl, by simp [go_sem, cw_upd]⟩
      · simp (maxSteps := 1000000) (disch := omega) [go_sem, Try.f60, g4]
        exact ret_keep [[0], [1], [2], [3], [4]] _ (by simp) (by simp [go_sem, resOf, leA]) ⟨rfl, by simp [go_sem, cw_upd]⟩
      · simp (maxSteps := 1000000) (disch := omega) [go_sem, Try.f60, g4]
        exact ret_keep [[0], [1], [2], [3], [4]] _ (by simp) (by simp [go_sem, resOf, leA]) ⟨rfl, by simp [go_sem, cw_upd]⟩
      · omega
    · have hn : ∀ a0 a1 a2 a3 : AV, [a0, a1, a2, a3][r.toNat]? = none := fun _ _ _ _ => by
        apply List.getElem?_eq_none; simp; omega
      simp (maxSteps := 1000000) (disch := omega) [go_sem, Try.f60, g4, h0, h1, hn]
      exact ret_keep [[0], [1], [2], [3], [4]] _ (by simp) (by simp [go_sem, resOf, leA]) ⟨rfl, by simp [go_sem, cw_upd]⟩
  · have ht : r.toNat = 0 := by omega
    simp (maxSteps := 1000000) (disch := omega) [go_sem, Try.f60, g4, h0, ht]
    exact ret_keep [[0], [1], [2], [3], [4]] _ (by simp) (by simp [go_sem, resOf, leA]) ⟨rfl, by simp [go_sem, cw_upd]⟩
end Go.Proofs.Ytjgfmanahimpoaa

/- What slices.Grow does at no slice of runes: nothing for no more elements; else a new row of zeros, cut to none. Conditions: as each law says. -/
import Derived.Test.YtjgfmanahimpoaaClo
namespace Go.Proofs.Ytjgfmanahimpoaa
open Go.RowKit Go.Lib
set_option maxRecDepth 100000
set_option maxHeartbeats 4000000
theorem grow_zero (w : World) : Calls Try.prog 66 #[.slice none 0 0, .int .i64 0] w fun e w' => e = .returned (.slice none 0 0) ∧ w' = w := by
  go_enter Try.func66, Try.ntmps66
  go_wp2
  go_ret
  exact ⟨rfl, rfl⟩
theorem grow_pos (n : Nat) (w : World) (hn : 0 < n) (hbig : n * 4 ≤ 140737488355328) :
    ∃ G, n ≤ G ∧ G ≤ 9223372036854775807 ∧ Calls Try.prog 66 #[.slice none 0 0, .int .i64 n] w fun e w' => e = .returned (.slice (some ⟨w.heap.size, 0, none⟩) 0 G) ∧
      w' = w.drew.alloc (.cells (Builtin.zeroCells (Value.int .i32 0).cells n ++ Builtin.zeroCells (Value.int .i32 0).cells (G - n)) 21) := by
  obtain ⟨i0, hi0, hz0, hzs, hzb⟩ := cinfo21
  have hrz : ∀ ty, (Builtin.append_ #[22, 3] ty #[.slice none 0 0, .int .i64 n]).run Try.prog w = _ := fun ty =>
    run_append_nil_zeros w 22 3 ty 21 i0 _ .i64 .i64 Try.underlying22 Try.underlying3 hi0 hz0 n hn (by omega) (by omega) (by rw [hzb]; omega)
  obtain ⟨G, hG⟩ : ∃ G, G = grownCap w n 0 21 := ⟨_, rfl⟩
  have hGn : n ≤ G := by rw [hG]; exact grownCap_ge w _ _ _
  have hG63 : G ≤ 9223372036854775807 := by
    have := grownCap_le_maxLen w n 0 21 (by unfold maxLen; omega)
    rw [← hG] at this
    unfold maxLen at this
    omega
  rw [← hG] at hrz
  refine ⟨G, hGn, hG63, ?_⟩
  have h1 : ¬ ((n : Int) < 0) := by omega
  have h3 : IntKind.i64.wrap (n : Int) = n := by rw [IntKind.wrap_i64]; omega
  have h4 : (0 : Int) < (n : Int) := by omega
  go_enter Try.func66, Try.ntmps66
  go_wp2_with (at_builtin; refine Lib.wpList_append_run _ rfl _ _ _ _ rfl _ _ rfl rfl _ _ (hrz _) ?_)
  go_ret
  exact ⟨rfl, rfl⟩
end Go.Proofs.Ytjgfmanahimpoaa

/- What slices.Clone does at rows of structs of two cells, not empty: a new row of the same cells. Conditions: as each law says. -/
import Derived.Test.YtjgfmanahimpoaaChecked
import Derived.KernelRfl
import Derived.WalkKit
import Derived.Shelf.Spec.SlicesInsert
import Derived.Lib.AppendZerosOnto
import Derived.Laws.NewBlocks
namespace Go.Proofs.Ytjgfmanahimpoaa
open Go.RowKit Go.Lib
set_option maxRecDepth 100000
set_option maxHeartbeats 4000000
theorem cinfo99 : ∃ i, Try.prog.info? 99 = some i ∧ i.zero = some (.agg #[.string ByteArray.empty, .int .i64 0]) ∧ i.size = 2 ∧ i.bytes = 24 := by
  have h : (Try.prog.info? 99).map (fun i => (i.zero, i.size, i.bytes)) = some (some (.agg #[.string ByteArray.empty, .int .i64 0]), 2, 24) := by kernel_rfl
  simp only [Option.map_eq_some_iff, Prod.mk.injEq] at h
  obtain ⟨i, h0, h1, h2, h3⟩ := h
  exact ⟨i, h0, h1, h2, h3⟩
theorem clone62_some (b o n c : Nat) (cs : List Value) (w : World) (hn : 0 < n) (hbig : n * 24 ≤ 140737488355328) (hcl : cs.length = n * 2)
    (hcs : ∀ j v, cs[j]? = some v → w.cell? ⟨b, o + j, none⟩ = some v) (h1c : ∀ v ∈ cs, v.oneCell' = true) :
    ∃ G, n ≤ G ∧ G ≤ 9223372036854775807 ∧ Calls Try.prog 62 #[.slice (some ⟨b, o, none⟩) n c] w fun e w' => e = .returned (.slice (some ⟨w.heap.size + 1, 0, none⟩) n G) ∧
      w' = ((w.alloc (.cells #[] 99)).drew).alloc (.cells (cs.toArray ++ Builtin.zeroCells ((.agg #[.string ByteArray.empty, .int .i64 0]) : Value).cells (G - n)) 99) := by
  have hq := fun w => Go.Lib.run_eql_slice_nil (P := Try.prog) w 94 99 (some ⟨b, o, none⟩) n c 0 0 Try.underlying94
  obtain ⟨i0, hi0, hz0, hzs, hzb⟩ := cinfo99
  have hs : ∀ w, (Go.sizeOf 99).run Try.prog w = .ok 2 w := fun w => by simp [Go.sizeOf, typeInfo, hi0, hzs]
  have hbw : b < w.heap.size := block_lt_of_cell (hcs 0 _ (List.getElem?_eq_getElem (by omega)))
  let W := w.alloc (.cells #[] 99)
  have hsrc : Src Try.prog i0.size 94 (.slice (some ⟨b, o, none⟩) n c) n cs W := by
    rw [hzs]
    exact Src.ofSlice W Try.underlying94 ⟨b, o, none⟩ n c cs (by omega) (fun j u hj => by rw [Addr.add_lit]; exact (World.cell?_alloc_past (w := w) _ b (o + j) hbw).trans (hcs j u hj)) h1c
  have hold : (Builtin.firstCells i0.size 0 (.slice (some ⟨w.heap.size, 0, none⟩) 0 0)).run Try.prog W.drew = .ok ([] : List Value).toArray W.drew := by
    rw [hzs]
    exact run_firstCells_some W.drew 2 0 ⟨w.heap.size, 0, none⟩ 0 0 [] rfl (fun j v hj => by simp at hj)
  have hrz : ∀ ty, (Builtin.append_ #[94, 94] ty #[.slice (some ⟨w.heap.size, 0, none⟩) 0 0, .slice (some ⟨b, o, none⟩) n c]).run Try.prog W = _ := fun ty =>
    run_append_grow_src W 94 94 ty 99 i0 _ Try.underlying94 hi0 hz0 (some ⟨w.heap.size, 0, none⟩) 0 0 [] hold _ n cs hsrc (by omega) (by omega) (by rw [hzb]; exact growslice_fits (by omega) (by omega))
  simp only [Nat.zero_add, List.nil_append] at hrz
  refine ⟨grownCap W n 0 99, grownCap_ge W _ _ _, (by have := grownCap_le_maxLen W n 0 99 (by unfold maxLen; omega); unfold maxLen at this; omega), ?_⟩
  go_enter Try.func62, Try.ntmps62
  go_wp2_with (at_builtin; refine Lib.wpList_append_run _ rfl _ _ _ _ rfl _ _ rfl rfl _ _ (hrz _) ?_)
  go_ret
  exact ⟨by simp [W], by simp [W]; rfl⟩
end Go.Proofs.Ytjgfmanahimpoaa

/- What slices.Clone does at rows of structs of two cells, not empty: a new row of the same cells. Conditions: as each law says. -/
import Derived.Test.YtjgfmanahimpoaaDoorChecked
import Derived.KernelRfl
import Derived.WalkKit
import Derived.Shelf.Spec.SlicesInsert
import Derived.Lib.AppendZerosOnto
import Derived.Laws.NewBlocks
namespace Go.Proofs.YtjgfmanahimpoaaDoor
open Go.RowKit Go.Lib
set_option maxRecDepth 100000
set_option maxHeartbeats 4000000
theorem cinfoC : ∃ i, Tryd.prog.info? 96 = some i ∧ i.zero = some (.agg #[.string ByteArray.empty, .int .i64 0]) ∧ i.size = 2 ∧ i.bytes = 24 := by
  have h : (Tryd.prog.info? 96).map (fun i => (i.zero, i.size, i.bytes)) = some (some (.agg #[.string ByteArray.empty, .int .i64 0]), 2, 24) := by kernel_rfl
  simp only [Option.map_eq_some_iff, Prod.mk.injEq] at h
  obtain ⟨i, h0, h1, h2, h3⟩ := h
  exact ⟨i, h0, h1, h2, h3⟩
theorem clone62_some (b o n c : Nat) (cs : List Value) (w : World) (hn : 0 < n) (hbig : n * 24 ≤ 140737488355328) (hcl : cs.length = n * 2)
    (hcs : ∀ j v, cs[j]? = some v → w.cell? ⟨b, o + j, none⟩ = some v) (h1c : ∀ v ∈ cs, v.oneCell' = true) :
    ∃ G, n ≤ G ∧ G ≤ 9223372036854775807 ∧ Calls Tryd.prog 51 #[.slice (some ⟨b, o, none⟩) n c] w fun e w' => e = .returned (.slice (some ⟨w.heap.size + 1, 0, none⟩) n G) ∧
      w' = ((w.alloc (.cells #[] 96)).drew).alloc (.cells (cs.toArray ++ Builtin.zeroCells ((.agg #[.string ByteArray.empty, .int .i64 0]) : Value).cells (G - n)) 96) := by
  have hq := fun w => Go.Lib.run_eql_slice_nil (P := Tryd.prog) w 88 96 (some ⟨b, o, none⟩) n c 0 0 Tryd.underlying88
  obtain ⟨i0, hi0, hz0, hzs, hzb⟩ := cinfoC
  have hs : ∀ w, (Go.sizeOf 96).run Tryd.prog w = .ok 2 w := fun w => by simp [Go.sizeOf, typeInfo, hi0, hzs]
  have hbw : b < w.heap.size := block_lt_of_cell (hcs 0 _ (List.getElem?_eq_getElem (by omega)))
  let W := w.alloc (.cells #[] 96)
  have hsrc : Src Tryd.prog i0.size 88 (.slice (some ⟨b, o, none⟩) n c) n cs W := by
    rw [hzs]
    exact Src.ofSlice W Tryd.underlying88 ⟨b, o, none⟩ n c cs (by omega) (fun j u hj => by rw [Addr.add_lit]; exact (World.cell?_alloc_past (w := w) _ b (o + j) hbw).trans (hcs j u hj)) h1c
  have hold : (Builtin.firstCells i0.size 0 (.slice (some ⟨w.heap.size, 0, none⟩) 0 0)).run Tryd.prog W.drew = .ok ([] : List Value).toArray W.drew := by
    rw [hzs]
    exact run_firstCells_some W.drew 2 0 ⟨w.heap.size, 0, none⟩ 0 0 [] rfl (fun j v hj => by simp at hj)
  have hrz : ∀ ty, (Builtin.append_ #[88, 88] ty #[.slice (some ⟨w.heap.size, 0, none⟩) 0 0, .slice (some ⟨b, o, none⟩) n c]).run Tryd.prog W = _ := fun ty =>
    run_append_grow_src W 88 88 ty 96 i0 _ Tryd.underlying88 hi0 hz0 (some ⟨w.heap.size, 0, none⟩) 0 0 [] hold _ n cs hsrc (by omega) (by omega) (by rw [hzb]; exact growslice_fits (by omega) (by omega))
  simp only [Nat.zero_add, List.nil_append] at hrz
  refine ⟨grownCap W n 0 96, grownCap_ge W _ _ _, (by have := grownCap_le_maxLen W n 0 96 (by unfold maxLen; omega); unfold maxLen at this; omega), ?_⟩
  go_enter Tryd.func51, Tryd.ntmps51
  go_wp2_with (at_builtin; refine Lib.wpList_append_run _ rfl _ _ _ _ rfl _ _ rfl rfl _ _ (hrz _) ?_)
  go_ret
  exact ⟨by simp [W], by simp [W]; rfl⟩
end Go.Proofs.YtjgfmanahimpoaaDoor

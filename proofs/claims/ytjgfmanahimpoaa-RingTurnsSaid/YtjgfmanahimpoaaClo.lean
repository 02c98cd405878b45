/- What slices.Clone does at slices of elements of one cell: nil stays nil; else a new row of the same elements. Conditions: as each law says. -/
import Derived.Test.YtjgfmanahimpoaaChecked
import Derived.KernelRfl
import Derived.WalkKit
import Derived.Shelf.Spec.SlicesInsert
import Derived.Lib.AppendZerosOnto
import Derived.Laws.NewBlocks
namespace Go.Proofs.Ytjgfmanahimpoaa
open Go.RowKit Go.Lib
set_option maxRecDepth 100000
set_option maxHeartbeats 4000000
theorem cinfo21 : ∃ i, Try.prog.info? 21 = some i ∧ i.zero = some (.int .i32 0) ∧ i.size = 1 ∧ i.bytes = 4 := by
  have h : (Try.prog.info? 21).map (fun i => (i.zero, i.size, i.bytes)) = some (some (.int .i32 0), 1, 4) := by kernel_rfl
  simp only [Option.map_eq_some_iff, Prod.mk.injEq] at h
  obtain ⟨i, h0, h1, h2, h3⟩ := h
  exact ⟨i, h0, h1, h2, h3⟩
theorem clone51_nil (c : Nat) (w : World) : Calls Try.prog 51 #[.slice none 0 c] w fun e w' => e = .returned (.slice none 0 0) ∧ w' = w := by
  have hq := fun w => Go.Lib.run_eql_slice_nil (P := Try.prog) w 22 21 none 0 c 0 0 Try.underlying22
  go_enter Try.func51, Try.ntmps51
  go_wp2
  go_ret
  exact ⟨rfl, rfl⟩
theorem clone51_none (a : Addr) (c : Nat) (w : World) : Calls Try.prog 51 #[.slice (some a) 0 c] w fun e w' => e = .returned (.slice (some ⟨w.heap.size, 0, none⟩) 0 0) ∧ w' = w.alloc (.cells #[] 21) := by
  have hq := fun w => Go.Lib.run_eql_slice_nil (P := Try.prog) w 22 21 (some a) 0 c 0 0 Try.underlying22
  obtain ⟨i0, hi0, hz0, hzs, hzb⟩ := cinfo21
  have hs : ∀ w, (Go.sizeOf 21).run Try.prog w = .ok 1 w := fun w => by simp [Go.sizeOf, typeInfo, hi0, hzs]
  have hrz : ∀ w ty b, (Builtin.append_ #[22, 22] ty #[.slice (some ⟨b, 0, none⟩) 0 0, .slice (some a) 0 c]).run Try.prog w = .ok (.slice (some ⟨b, 0, none⟩) 0 0) w := fun w ty b => by
    have hl : ∀ (x : Addr), (loadCells x 0).run Try.prog w = .ok #[] w := fun x => by simpa using run_loadCells_list (P := Try.prog) w x [] (by simp)
    simp [Builtin.append_, run_underlying Try.underlying22, hs, Builtin.lenOf, Builtin.firstCells, hl, storeCells]
  go_enter Try.func51, Try.ntmps51
  go_wp2_with (at_builtin; refine Lib.wpList_append_run _ rfl _ _ _ _ rfl _ _ rfl rfl _ _ (hrz _ _ _) ?_)
  go_ret
  exact ⟨rfl, rfl⟩
theorem clone51_some (b o n c : Nat) (cs : List Value) (w : World) (hn : 0 < n) (hbig : n * 4 ≤ 140737488355328) (hcl : cs.length = n)
    (hcs : ∀ j v, cs[j]? = some v → w.cell? ⟨b, o + j, none⟩ = some v) (h1c : ∀ v ∈ cs, v.oneCell' = true) :
    ∃ G, n ≤ G ∧ G ≤ 9223372036854775807 ∧ Calls Try.prog 51 #[.slice (some ⟨b, o, none⟩) n c] w fun e w' => e = .returned (.slice (some ⟨w.heap.size + 1, 0, none⟩) n G) ∧
      w' = ((w.alloc (.cells #[] 21)).drew).alloc (.cells (cs.toArray ++ Builtin.zeroCells ((.int .i32 0) : Value).cells (G - n)) 21) := by
  have hq := fun w => Go.Lib.run_eql_slice_nil (P := Try.prog) w 22 21 (some ⟨b, o, none⟩) n c 0 0 Try.underlying22
  obtain ⟨i0, hi0, hz0, hzs, hzb⟩ := cinfo21
  have hs : ∀ w, (Go.sizeOf 21).run Try.prog w = .ok 1 w := fun w => by simp [Go.sizeOf, typeInfo, hi0, hzs]
  have hbw : b < w.heap.size := block_lt_of_cell (hcs 0 _ (List.getElem?_eq_getElem (by omega)))
  let W := w.alloc (.cells #[] 21)
  have hsrc : Src Try.prog i0.size 22 (.slice (some ⟨b, o, none⟩) n c) n cs W := by
    rw [hzs]
    exact Src.ofSlice W Try.underlying22 ⟨b, o, none⟩ n c cs (by omega) (fun j u hj => by rw [Addr.add_lit]; exact (World.cell?_alloc_past (w := w) _ b (o + j) hbw).trans (hcs j u hj)) h1c
  have hold : (Builtin.firstCells i0.size 0 (.slice (some ⟨w.heap.size, 0, none⟩) 0 0)).run Try.prog W.drew = .ok ([] : List Value).toArray W.drew := by
    rw [hzs]
    exact run_firstCells_some W.drew 1 0 ⟨w.heap.size, 0, none⟩ 0 0 [] rfl (fun j v hj => by simp at hj)
  have hrz : ∀ ty, (Builtin.append_ #[22, 22] ty #[.slice (some ⟨w.heap.size, 0, none⟩) 0 0, .slice (some ⟨b, o, none⟩) n c]).run Try.prog W = _ := fun ty =>
    run_append_grow_src W 22 22 ty 21 i0 _ Try.underlying22 hi0 hz0 (some ⟨w.heap.size, 0, none⟩) 0 0 [] hold _ n cs hsrc (by omega) (by omega) (by rw [hzb]; exact growslice_fits (by omega) (by omega))
  simp only [Nat.zero_add, List.nil_append] at hrz
  refine ⟨grownCap W n 0 21, grownCap_ge W _ _ _, (by have := grownCap_le_maxLen W n 0 21 (by unfold maxLen; omega); unfold maxLen at this; omega), ?_⟩
  go_enter Try.func51, Try.ntmps51
  go_wp2_with (at_builtin; refine Lib.wpList_append_run _ rfl _ _ _ _ rfl _ _ rfl rfl _ _ (hrz _) ?_)
  go_ret
  exact ⟨by simp [W], by simp [W]; rfl⟩
theorem cinfo22 : ∃ i, Try.prog.info? 22 = some i ∧ i.zero = some (.slice none 0 0) ∧ i.size = 1 ∧ i.bytes = 24 := by
  have h : (Try.prog.info? 22).map (fun i => (i.zero, i.size, i.bytes)) = some (some (.slice none 0 0), 1, 24) := by kernel_rfl
  simp only [Option.map_eq_some_iff, Prod.mk.injEq] at h
  obtain ⟨i, h0, h1, h2, h3⟩ := h
  exact ⟨i, h0, h1, h2, h3⟩
theorem clone53_nil (c : Nat) (w : World) : Calls Try.prog 53 #[.slice none 0 c] w fun e w' => e = .returned (.slice none 0 0) ∧ w' = w := by
  have hq := fun w => Go.Lib.run_eql_slice_nil (P := Try.prog) w 53 22 none 0 c 0 0 Try.underlying53
  go_enter Try.func53, Try.ntmps53
  go_wp2
  go_ret
  exact ⟨rfl, rfl⟩
theorem clone53_none (a : Addr) (c : Nat) (w : World) : Calls Try.prog 53 #[.slice (some a) 0 c] w fun e w' => e = .returned (.slice (some ⟨w.heap.size, 0, none⟩) 0 0) ∧ w' = w.alloc (.cells #[] 22) := by
  have hq := fun w => Go.Lib.run_eql_slice_nil (P := Try.prog) w 53 22 (some a) 0 c 0 0 Try.underlying53
  obtain ⟨i0, hi0, hz0, hzs, hzb⟩ := cinfo22
  have hs : ∀ w, (Go.sizeOf 22).run Try.prog w = .ok 1 w := fun w => by simp [Go.sizeOf, typeInfo, hi0, hzs]
  have hrz : ∀ w ty b, (Builtin.append_ #[53, 53] ty #[.slice (some ⟨b, 0, none⟩) 0 0, .slice (some a) 0 c]).run Try.prog w = .ok (.slice (some ⟨b, 0, none⟩) 0 0) w := fun w ty b => by
    have hl : ∀ (x : Addr), (loadCells x 0).run Try.prog w = .ok #[] w := fun x => by simpa using run_loadCells_list (P := Try.prog) w x [] (by simp)
    simp [Builtin.append_, run_underlying Try.underlying53, hs, Builtin.lenOf, Builtin.firstCells, hl, storeCells]
  go_enter Try.func53, Try.ntmps53
  go_wp2_with (at_builtin; refine Lib.wpList_append_run _ rfl _ _ _ _ rfl _ _ rfl rfl _ _ (hrz _ _ _) ?_)
  go_ret
  exact ⟨rfl, rfl⟩
theorem clone53_some (b o n c : Nat) (cs : List Value) (w : World) (hn : 0 < n) (hbig : n * 24 ≤ 140737488355328) (hcl : cs.length = n)
    (hcs : ∀ j v, cs[j]? = some v → w.cell? ⟨b, o + j, none⟩ = some v) (h1c : ∀ v ∈ cs, v.oneCell' = true) :
    ∃ G, n ≤ G ∧ G ≤ 9223372036854775807 ∧ Calls Try.prog 53 #[.slice (some ⟨b, o, none⟩) n c] w fun e w' => e = .returned (.slice (some ⟨w.heap.size + 1, 0, none⟩) n G) ∧
      w' = ((w.alloc (.cells #[] 22)).drew).alloc (.cells (cs.toArray ++ Builtin.zeroCells ((.slice none 0 0) : Value).cells (G - n)) 22) := by
  have hq := fun w => Go.Lib.run_eql_slice_nil (P := Try.prog) w 53 22 (some ⟨b, o, none⟩) n c 0 0 Try.underlying53
  obtain ⟨i0, hi0, hz0, hzs, hzb⟩ := cinfo22
  have hs : ∀ w, (Go.sizeOf 22).run Try.prog w = .ok 1 w := fun w => by simp [Go.sizeOf, typeInfo, hi0, hzs]
  have hbw : b < w.heap.size := block_lt_of_cell (hcs 0 _ (List.getElem?_eq_getElem (by omega)))
  let W := w.alloc (.cells #[] 22)
  have hsrc : Src Try.prog i0.size 53 (.slice (some ⟨b, o, none⟩) n c) n cs W := by
    rw [hzs]
    exact Src.ofSlice W Try.underlying53 ⟨b, o, none⟩ n c cs (by omega) (fun j u hj => by rw [Addr.add_lit]; exact (World.cell?_alloc_past (w := w) _ b (o + j) hbw).trans (hcs j u hj)) h1c
  have hold : (Builtin.firstCells i0.size 0 (.slice (some ⟨w.heap.size, 0, none⟩) 0 0)).run Try.prog W.drew = .ok ([] : List Value).toArray W.drew := by
    rw [hzs]
    exact run_firstCells_some W.drew 1 0 ⟨w.heap.size, 0, none⟩ 0 0 [] rfl (fun j v hj => by simp at hj)
  have hrz : ∀ ty, (Builtin.append_ #[53, 53] ty #[.slice (some ⟨w.heap.size, 0, none⟩) 0 0, .slice (some ⟨b, o, none⟩) n c]).run Try.prog W = _ := fun ty =>
    run_append_grow_src W 53 53 ty 22 i0 _ Try.underlying53 hi0 hz0 (some ⟨w.heap.size, 0, none⟩) 0 0 [] hold _ n cs hsrc (by omega) (by omega) (by rw [hzb]; exact growslice_fits (by omega) (by omega))
  simp only [Nat.zero_add, List.nil_append] at hrz
  refine ⟨grownCap W n 0 22, grownCap_ge W _ _ _, (by have := grownCap_le_maxLen W n 0 22 (by unfold maxLen; omega); unfold maxLen at this; omega), ?_⟩
  go_enter Try.func53, Try.ntmps53
  go_wp2_with (at_builtin; refine Lib.wpList_append_run _ rfl _ _ _ _ rfl _ _ rfl rfl _ _ (hrz _) ?_)
  go_ret
  exact ⟨by simp [W], by simp [W]; rfl⟩
end Go.Proofs.Ytjgfmanahimpoaa

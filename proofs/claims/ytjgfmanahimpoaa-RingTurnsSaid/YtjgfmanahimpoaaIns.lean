/- What slices.Insert does, one text put ahead of others, at slices of texts: in place where there is room, else in a new row. Conditions: as each law says. -/
import Derived.Test.YtjgfmanahimpoaaChecked
import Derived.KernelRfl
import Derived.WalkKit
import Derived.Shelf.Spec.SlicesInsert
import Derived.Lib.AppendZerosOnto
import Derived.Laws.NewBlocks
namespace Go.Proofs.Ytjgfmanahimpoaa
open Go.RowKit Go.Lib
set_option maxRecDepth 100000
set_option maxHeartbeats 4000000
theorem info22 : ∃ i, Try.prog.info? 22 = some i ∧ i.zero = some (.slice none 0 0) ∧ i.size = 1 ∧ i.bytes = 24 := by
  have h : (Try.prog.info? 22).map (fun i => (i.zero, i.size, i.bytes)) = some (some (.slice none 0 0), 1, 24) := by kernel_rfl
  simp only [Option.map_eq_some_iff, Prod.mk.injEq] at h
  obtain ⟨i, h0, h1, h2, h3⟩ := h
  exact ⟨i, h0, h1, h2, h3⟩
theorem size22 : (Try.prog.info? 22).map (·.size) = some 1 := by
  obtain ⟨i, h, _, h1, _⟩ := info22
  rw [h]; simp [h1]
theorem ov_false (w : World) (b vb voff m vc o lb cb : Nat) (hvb : vb ≠ b) (tA tB : TypeId) (kA kB : Nat) (hsa : w.shape? vb = some (tA, kA)) (hsb : w.shape? b = some (tB, kB)) (hkA : kA ≠ 0) (hfz : ∀ j, w.frozen? ⟨b, j, none⟩ = false) :
    (callFunc 64 #[.slice (some ⟨vb, voff, none⟩) m vc, .slice (some ⟨b, o, none⟩) lb cb]).run Try.prog w = .ok (.value (.bool false)) w := by
  have hz : ∀ w, (Go.sizeOf 22).run Try.prog w = .ok 1 w := fun w => by
    obtain ⟨i, h, _, h1, _⟩ := info22
    simp [Go.sizeOf, typeInfo, h, h1]
  rw [run_callFunc_extern Try.func64 (by kernel_rfl) (by kernel_rfl) (by kernel_rfl) (e := Extern.SlicesOverlaps.overlaps #[53, 53] #[4]) (by kernel_rfl)]
  have hnb : (vb != b) = true := by simpa using hvb
  have hnb' : (vb == b) = false := by simpa using hvb
  have hrun : (Extern.SlicesOverlaps.overlaps #[53, 53] #[4] #[.slice (some ⟨vb, voff, none⟩) m vc, .slice (some ⟨b, o, none⟩) lb cb]).run Try.prog w = .ok (.bool false) w := by
    change Sem.run Try.prog (α := Value) (do
      let some t := (#[53, 53] : Array TypeId)[0]? | stuck "slices.overlaps: no parameter types"
      let .slice elem ← underlying t | stuck "slices.overlaps: slice type expected"
      let size ← sizeOf elem
      match (some ⟨vb, voff, none⟩ : Option Addr), (some ⟨b, o, none⟩ : Option Addr) with
      | some a, some b =>
        if m = 0 ∨ lb = 0 ∨ size = 0 then pure (Value.bool false)
        else if a.block != b.block && (← frozen a) && (← frozen b) then unsupported .addressObserved
        else do
          if a.block != b.block then do
            noView a; noView b
            if ← mayBeOne a b then return Value.bool ((← choose (.extern "sameAddr.stringBytes" 2)) == 1)
          pure (Value.bool (a.block == b.block && a.off < b.off + lb * size && b.off < a.off + m * size))
      | _, _ => pure (Value.bool false)) w = _
    by_cases h0 : m = 0 ∨ lb = 0
    · rcases h0 with h0 | h0 <;> simp [run_underlying Try.underlying53, hz, h0]
    · cases kA with
      | zero => exact absurd rfl hkA
      | succ kA =>
        by_cases hf : w.frozen? ⟨vb, voff, none⟩ = true
        · simp [run_underlying Try.underlying53, hz, h0, hnb, hnb', frozen, noView, viewAt, mayBeOne, stringish, shape, Sem.run, hsa, hsb, hfz, hf]
        · by_cases hg : w.frozen? ⟨vb, kA + 1, none⟩ = true
          · simp [run_underlying Try.underlying53, hz, h0, hnb, hnb', frozen, noView, viewAt, mayBeOne, stringish, shape, Sem.run, hsa, hsb, hfz, hf, hg]
          · simp [run_underlying Try.underlying53, hz, h0, hnb, hnb', frozen, noView, viewAt, mayBeOne, stringish, shape, Sem.run, hsa, hsb, hfz, hf, hg]
  rw [hrun]
  rfl
theorem ins_shift (b n c vb voff vc : Nat) (cs : List Value) (x : Value) (w : World) (hn : 0 < n) (hroom : n + 1 ≤ c) (hc63 : c ≤ 9223372036854775807) (hvb : vb ≠ b)
    (hcl : cs.length = n) (hcs : ∀ j v, cs[j]? = some v → w.cell? ⟨b, j, none⟩ = some v) (hsp : ∀ j, j < n + 1 → (w.cell? ⟨b, j, none⟩).isSome = true) (hfz : ∀ j, w.frozen? ⟨b, j, none⟩ = false)
    (hv : w.cell? ⟨vb, voff, none⟩ = some x) (h1c : ∀ v ∈ cs, v.oneCell' = true) (h1v : x.oneCell' = true)
    (tA tB : TypeId) (kA kB : Nat) (hsa : w.shape? vb = some (tA, kA)) (hsb : w.shape? b = some (tB, kB)) (hkA : kA ≠ 0) :
    Calls Try.prog 52 #[.slice (some ⟨b, 0, none⟩) n c, .int .i64 0, .slice (some ⟨vb, voff, none⟩) 1 vc] w fun e w' =>
      e = .returned (.slice (some ⟨b, 0, none⟩) (n + 1) c) ∧ w' = (w.drew.setCells b 1 cs).setCells b 0 [x] := by
  have hz2 : ¬ ((0 : Int) = (n : Int)) := by omega
  have hov := fun lb cb => ov_false w b vb voff 1 vc 1 lb cb hvb tA tB kA kB hsa hsb hkA hfz
  have hcp1 : ∀ ty dc sc, (Builtin.copy_ #[53, 53] ty #[.slice (some ⟨b, 1, none⟩) n dc, .slice (some ⟨b, 0, none⟩) (n + 1) sc]).run Try.prog w.drew = .ok (goInt n) (w.drew.setCells b 1 cs) := fun ty dc sc => by
    rw [← hcl]
    exact run_copy_cells w.drew _ _ ty 22 b 1 cs.length dc ⟨b, 0, none⟩ (cs.length + 1) sc cs Try.underlying53 size22 (by simp only [Nat.min_def]; split <;> omega)
      (fun j v hj => by rw [Addr.add_lit, Nat.zero_add]; exact hcs j v hj) (fun j hj => hsp _ (by omega)) (fun j hj => hfz _) h1c
  have hcp2 : ∀ ty dc, (Builtin.copy_ #[53, 53] ty #[.slice (some ⟨b, 0, none⟩) (n + 1) dc, .slice (some ⟨vb, voff, none⟩) 1 vc]).run Try.prog (w.drew.setCells b 1 cs) = .ok (goInt 1) ((w.drew.setCells b 1 cs).setCells b 0 [x]) := fun ty dc =>
    run_copy_cells (w.drew.setCells b 1 cs) _ _ ty 22 b 0 (n + 1) dc ⟨vb, voff, none⟩ 1 vc [x] Try.underlying53 size22 (by simp only [Nat.min_def]; split <;> simp <;> omega)
      (fun j v hj => by
        rw [Addr.add_lit, World.cell?_setCells_out b _ _ _ _ (fun h _ => absurd h hvb)]
        cases j with
        | zero => simp at hj; subst hj; exact hv
        | succ j => simp at hj)
      (fun j hj => by
        rw [Nat.zero_add]
        exact isSome_setCells b cs 1 w.drew (fun i hi => hsp (1 + i) (by omega)) j (hsp j (by simp at hj; omega))) (fun j hj => by rw [World.frozen?_setCells]; exact hfz _) (by simpa using h1v)
  have mixed : Try.prog.follows .mixedOrders = true := by kernel_rfl
  have hw1 : IntKind.i64.wrap (1 : Int) = 1 := by decide
  have hb2 : ¬ (c = 1) := by omega
  have hb4 : ¬ (c = 0) := by omega
  have hb3 : (1 : Int) ≤ (n : Int) + 1 := by omega
  have hb5 : (0 : Int) ≤ (n : Int) + 1 := by omega
  have htn : ((n : Int) + 1).toNat = n + 1 := by omega
  go_enter Try.func52, Try.ntmps52
  go_wp2_with (simp only [hov])
  go_region_law_o (refine step_copy_runI rfl _ _ 53 53 rfl _ _ (by simp [Act.eval, Act.put]) (by simp [Act.eval, Act.put]) (hcp1 _ _ _) ?_)
  go_wp2_with (at_builtin; refine wpList_copy_runI _ rfl _ _ 53 53 rfl _ _ rfl rfl (hcp2 _ _) ?_)
  go_ret
  exact ⟨rfl, rfl⟩
/-- The new row of an Insert that has no room. -/
def zrow (k : Nat) : Array Value := Builtin.zeroCells (Value.slice none 0 0).cells k
theorem ins_grow (b n c vb voff vc : Nat) (cs : List Value) (x : Value) (w : World) (hn : 0 < n) (hnc : n ≤ c) (hroom : c < n + 1) (hbig : (n + 1) * 24 ≤ 140737488355328)
    (hcl : cs.length = n) (hcs : ∀ j v, cs[j]? = some v → w.cell? ⟨b, j, none⟩ = some v)
    (hv : w.cell? ⟨vb, voff, none⟩ = some x) (h1c : ∀ v ∈ cs, v.oneCell' = true) (h1v : x.oneCell' = true) :
    ∃ G, n + 1 ≤ G ∧ Calls Try.prog 52 #[.slice (some ⟨b, 0, none⟩) n c, .int .i64 0, .slice (some ⟨vb, voff, none⟩) 1 vc] w fun e w' =>
      e = .returned (.slice (some ⟨w.heap.size, 0, none⟩) (n + 1) G) ∧
      w' = (((w.alloc (.cells (zrow (n + 1) ++ zrow (G - (n + 1))) 22)).drew.setCells w.heap.size 0 [x]).drew).setCells w.heap.size 1 cs := by
  obtain ⟨i0, hi0, hz0, hzs, hzb⟩ := info22
  have hz2 : ¬ ((0 : Int) = (n : Int)) := by omega
  have hz3 : (c : Int) < (n : Int) + 1 := by omega
  have hbw : b < w.heap.size := block_lt_of_cell (hcs 0 _ (List.getElem?_eq_getElem (by omega)))
  have hvw : vb < w.heap.size := block_lt_of_cell hv
  have hold : (Builtin.firstCells i0.size 0 (.slice (some ⟨b, 0, none⟩) 0 c)).run Try.prog w.drew = .ok ([] : List Value).toArray w.drew := by
    rw [hzs]
    exact run_firstCells_some w.drew 1 0 ⟨b, 0, none⟩ 0 c [] rfl (fun j v hj => by simp at hj)
  have hrz : ∀ ty, (Builtin.append_ #[53, 3] ty #[.slice (some ⟨b, 0, none⟩) 0 c, .int .i64 ((n : Int) + 1)]).run Try.prog w =
      .ok (.slice (some ⟨w.heap.size, 0, none⟩) (n + 1) (grownCap w (n + 1) c 22)) (w.drew.alloc (.cells (zrow (n + 1) ++ zrow (grownCap w (n + 1) c 22 - (n + 1))) 22)) := fun ty => by
    have h := Lib.run_append_grow_zeros w 53 3 ty 22 i0 _ .i64 .i64 Try.underlying53 Try.underlying3 hi0 hz0 (some ⟨b, 0, none⟩) 0 c [] hold (n + 1) (by omega) (by omega) (by omega) (by omega) (by rw [hzb]; omega) (by rw [hzb, Nat.zero_add]; exact growslice_fits hroom hbig)
    simp only [Nat.zero_add] at h
    rw [show ((n : Int) + 1) = ((n + 1 : Nat) : Int) from by omega, h]
    simp [zrow]
  obtain ⟨G, hG⟩ : ∃ G, G = grownCap w (n + 1) c 22 := ⟨_, rfl⟩
  have hGn : n + 1 ≤ G := by rw [hG]; exact grownCap_ge w _ _ _
  have hG63 : G ≤ 9223372036854775807 := by
    have := grownCap_le_maxLen w (n + 1) c 22 (by unfold maxLen; omega)
    rw [← hG] at this
    unfold maxLen at this
    omega
  rw [← hG] at hrz
  refine ⟨G, hGn, ?_⟩
  obtain ⟨ROW, hROW⟩ : ∃ ROW : Array Value, ROW = zrow (n + 1) ++ zrow (G - (n + 1)) := ⟨_, rfl⟩
  rw [← hROW] at hrz ⊢
  have hRl : n + 1 ≤ ROW.size := by
    rw [hROW]
    simp [zrow, Builtin.zeroCells, Value.cells]
  have hN : ∀ j, j < n + 1 → ((w.drew.alloc (.cells ROW 22)).cell? ⟨w.heap.size, j, none⟩).isSome = true := fun j hj => by
    rw [World.cell?_alloc_at (w := w.drew) ROW _ w.heap.size j rfl, Array.getElem?_eq_getElem (by omega)]; rfl
  have hNf : ∀ j, (w.drew.alloc (.cells ROW 22)).frozen? ⟨w.heap.size, j, none⟩ = false := fun j => World.frozen?_alloc_at (w := w.drew) ROW _ w.heap.size j rfl
  have hOb : ∀ j v, w.cell? ⟨b, j, none⟩ = some v → (w.drew.alloc (.cells ROW 22)).cell? ⟨b, j, none⟩ = some v := fun j v h => by rw [World.cell?_alloc_past (w := w.drew) _ b j hbw]; exact h
  have hOv : ∀ j v, w.cell? ⟨vb, j, none⟩ = some v → (w.drew.alloc (.cells ROW 22)).cell? ⟨vb, j, none⟩ = some v := fun j v h => by rw [World.cell?_alloc_past (w := w.drew) _ vb j hvw]; exact h
  have hcpA : ∀ (W : World), (∀ x, W.cell? x = (w.drew.alloc (.cells ROW 22)).cell? x) → (∀ x, W.frozen? x = (w.drew.alloc (.cells ROW 22)).frozen? x) → ∀ ty dc,
      (Builtin.copy_ #[53, 53] ty #[.slice (some ⟨w.heap.size, 0, none⟩) (n + 1) dc, .slice (some ⟨vb, voff, none⟩) 1 vc]).run Try.prog W = .ok (goInt 1) (W.setCells w.heap.size 0 [x]) := fun W hWc hWf ty dc =>
    run_copy_cells W _ _ ty 22 w.heap.size 0 (n + 1) dc ⟨vb, voff, none⟩ 1 vc [x] Try.underlying53 size22 (by simp only [Nat.min_def]; split <;> simp <;> omega)
      (fun j v hj => by
        rw [Addr.add_lit, hWc]
        cases j with
        | zero => simp at hj; subst hj; exact hOv _ _ hv
        | succ j => simp at hj)
      (fun j hj => by rw [hWc]; exact hN _ (by simp at hj; omega)) (fun j hj => by rw [hWf]; exact hNf _) (by simpa using h1v)
  have hbN : b ≠ w.heap.size := by omega
  have hcpB : ∀ (W : World), (∀ y, W.cell? y = ((w.drew.alloc (.cells ROW 22)).setCells w.heap.size 0 [x]).cell? y) → (∀ y, W.frozen? y = ((w.drew.alloc (.cells ROW 22)).setCells w.heap.size 0 [x]).frozen? y) → ∀ ty dc sc,
      (Builtin.copy_ #[53, 53] ty #[.slice (some ⟨w.heap.size, 1, none⟩) n dc, .slice (some ⟨b, 0, none⟩) n sc]).run Try.prog W = .ok (goInt n) (W.setCells w.heap.size 1 cs) := fun W hWc hWf ty dc sc => by
    rw [← hcl]
    exact run_copy_cells W _ _ ty 22 w.heap.size 1 cs.length dc ⟨b, 0, none⟩ cs.length sc cs Try.underlying53 size22 (by simp only [Nat.min_def]; split <;> omega)
      (fun j v hj => by
        rw [Addr.add_lit, hWc, World.cell?_setCells_out _ _ _ _ _ (fun h _ => absurd h hbN), Nat.zero_add]
        exact hOb _ v (hcs j v hj))
      (fun j hj => by rw [hWc]; exact isSome_setCells w.heap.size [x] 0 _ (fun t ht => hN _ (by simp at ht; omega)) _ (hN _ (by omega)))
      (fun j hj => by rw [hWf, World.frozen?_setCells]; exact hNf _) h1c
  have hE1 : ∀ x, ((w.alloc (.cells ROW 22)).drew).cell? x = (w.drew.alloc (.cells ROW 22)).cell? x := fun x => rfl
  have hE2 : ∀ x, ((w.alloc (.cells ROW 22)).drew).frozen? x = (w.drew.alloc (.cells ROW 22)).frozen? x := fun x => rfl
  have hF1 : ∀ y, (((w.alloc (.cells ROW 22)).drew.setCells w.heap.size 0 [x]).drew).cell? y = ((w.drew.alloc (.cells ROW 22)).setCells w.heap.size 0 [x]).cell? y := fun x => rfl
  have hF2 : ∀ y, (((w.alloc (.cells ROW 22)).drew.setCells w.heap.size 0 [x]).drew).frozen? y = ((w.drew.alloc (.cells ROW 22)).setCells w.heap.size 0 [x]).frozen? y := fun x => rfl
  have mixed : Try.prog.follows .mixedOrders = true := by kernel_rfl
  have hw1 : IntKind.i64.wrap (1 : Int) = 1 := by decide
  have hGi : ¬ (G = 0) := by omega
  have hGim : ¬ (G = 1) := by omega
  have hci : ¬ (c = 0) := by omega
  have hb3 : (1 : Int) ≤ (n : Int) + 1 := by omega
  have hb5 : (0 : Int) ≤ (n : Int) + 1 := by omega
  have htn : ((n : Int) + 1).toNat = n + 1 := by omega
  clear hold hROW hG hRl
  go_enter Try.func52, Try.ntmps52
  go_wp2_with (first
    | (at_builtin; refine Lib.wpList_append_run _ rfl _ _ _ _ rfl _ _ rfl rfl _ _ (hrz _) ?_)
    | (at_builtin; refine wpList_copy_runI _ rfl _ _ 53 53 rfl _ _ rfl rfl (hcpA _ hE1 hE2 _ _) ?_))
  go_region_law_o (refine step_copy_runI rfl _ _ 53 53 rfl (.slice (some ⟨w.heap.size, 1, none⟩) n (G - 1)) (.slice (some ⟨b, 0, none⟩) n c) (by simp [Act.eval, Act.put]) (by simp [Act.eval, Act.put]) (hcpB _ hF1 hF2 3 (G - 1) c) ?_)
  go_wp2
  go_ret
  exact ⟨rfl, rfl⟩
end Go.Proofs.Ytjgfmanahimpoaa

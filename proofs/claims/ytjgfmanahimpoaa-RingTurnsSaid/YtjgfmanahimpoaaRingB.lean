/- What slices.Insert does, as contracts of the abstract machine: one text put ahead of a list of one's own. Conditions: as each law says. -/
import Derived.Test.YtjgfmanahimpoaaRingA
namespace Go.Proofs.Ytjgfmanahimpoaa
open Go.AM
set_option maxRecDepth 10000
theorem insert_ow {es : List PV} (hne : es ≠ []) {x : PV} (hbig : (es.length + 1) * 24 ≤ 140737488355328) :
    CR Try.prog 52 [] [.ow [0] 1 es, .p (.int .i64 0), .p (.sl 1 [x])] [] (is (.p (.sl 1 (x :: es)))) := by
  intro w g vs hargs hG
  simp only [RepAL, RepA] at hargs
  obtain ⟨v1, vs1, rfl, hr1, v2, vs2, rfl, hr2, v3, vs3, rfl, hr3, rfl⟩ := hargs
  simp only [RepP] at hr2 hr3
  subst hr2
  rcases hr1 with ⟨e, _⟩ | ⟨b, cap, rfl, hcap, hK, hf0, ⟨arr, T, hb, hsz, hone, hc63⟩, hE⟩
  · exact absurd e hne
  rcases hr3 with ⟨e, _⟩ | ⟨vb, voff, vc, rfl, hvc, hvf, hEv⟩
  · cases e
  simp only [Nat.mul_one] at hsz hc63
  have hlen : 0 < es.length := List.length_pos_iff.2 hne
  have hvb : vb ≠ b := fun e => by subst e; simp at hvf; omega
  obtain ⟨cs, g1, g2, g3, g4⟩ := repE1_get hE
  obtain ⟨ds, d1, d2, d3, d4⟩ := repE1_get hEv
  obtain ⟨c0, rfl⟩ : ∃ c0, ds = [c0] := List.length_eq_one_iff.1 d1
  have hv0 := d3 0 c0 rfl
  rw [Nat.add_zero] at hv0
  have hcx := d2 0 x c0 rfl rfl
  have g3' : ∀ j v, cs[j]? = some v → w.cell? ⟨b, j, none⟩ = some v := fun j v h => by simpa using g3 j v h
  have hbw := hG.own b (by rw [hK]; simp)
  rcases Nat.lt_or_ge cap (es.length + 1) with hroom | hroom
  · obtain ⟨G, hGn, hcall⟩ := ins_grow b es.length cap vb voff vc cs c0 w hlen hcap hroom hbig g1 g3' hv0 g4 (d4 c0 (by simp))
    refine hcall.mono ?_
    rintro e w' ⟨rfl, hw⟩
    have hzs : ∀ k, (zrow k).size = k := fun k => zeros_size (.slice none 0 0) rfl k
    have hA : (w.alloc (.cells (zrow (es.length + 1) ++ zrow (G - (es.length + 1))) 22)).heap[w.heap.size]? = some (.cells (zrow (es.length + 1) ++ zrow (G - (es.length + 1))) 22 (0, 0)) := by rw [heap_alloc, if_pos rfl]
    have hRl : (zrow (es.length + 1) ++ zrow (G - (es.length + 1))).size = G := by simp [hzs]; omega
    generalize zrow (es.length + 1) ++ zrow (G - (es.length + 1)) = ROW at hw hA hRl
    have hA1 : (w.alloc (.cells ROW 22)).drew.heap[w.heap.size]? = some (.cells ROW 22 (0, 0)) := hA
    rw [setCells_row [c0] 0 _ ROW hA1 (by simp; omega)] at hw
    have hA2 : ((w.alloc (.cells ROW 22)).drew.setRow w.heap.size (splice ROW.toList 0 [c0]).toArray).drew.heap[w.heap.size]? = some (.cells (splice ROW.toList 0 [c0]).toArray 22 (0, 0)) := setRow_heap _ _ _ _ _ _ hA1
    rw [setCells_row cs 1 _ _ hA2 (by simp [splice]; omega)] at hw
    have hA3 := setRow_heap _ _ _ (splice (splice ROW.toList 0 [c0]).toArray.toList 1 cs).toArray _ _ hA2
    rw [← hw] at hA3
    have c : Chg g w w' w.heap.size := by
      subst hw
      refine ⟨fun d hd hdB => ?_, hG.frb _ (Nat.le_refl _), .inl (Nat.le_refl _), ?_, ?_, ⟨rfl, rfl, rfl⟩⟩
      · rw [heap_setRow_ne _ _ _ _ hdB, drew_heap, heap_setRow_ne _ _ _ _ hdB, drew_heap, heap_alloc, if_neg hdB]
      · rw [size_setRow, drew_heap, size_setRow, drew_heap]; simp
      · rw [size_setRow, drew_heap, size_setRow, drew_heap]; simp
    refine ⟨_, .p (.sl 1 (x :: es)), [], ngh g w.heap.size (es.length + 1) .prot, rfl, ⟨rfl, rfl⟩, ?_, c.gs_prot hG _ _, c.aft hG _ _⟩
    simp only [RepA, RepP]
    refine .inr ⟨_, 0, G, rfl, by simpa using hGn, by rw [ngh_fr]; simp, repE1_mk (cs := c0 :: cs) (by simp [g1]) (fun j e' c' he hc => ?_) fun j c' hj => ?_⟩
    · cases j with
      | zero => simp at he hc; subst he; subst hc; exact hcx.ext (c.ext hG _ _)
      | succ j => exact (g2 j e' c' (by simpa using he) (by simpa using hc)).ext (c.ext hG _ _)
    · rw [cell_of_cells hA3, Nat.zero_add]
      have hs : ∀ (l : List Value), (l.toArray)[j]? = l[j]? := fun l => by simp
      rw [hs, splice_get _ _ _ (by simp [splice]; omega)]
      have hjl := (List.getElem?_eq_some_iff.1 hj).1
      simp only [List.length_cons] at hjl
      cases j with
      | zero =>
        rw [if_neg (by omega)]
        simp only [splice, List.take_zero, List.nil_append, List.singleton_append]
        simpa using hj
      | succ j =>
        rw [if_pos (by omega), Nat.add_sub_cancel]
        simpa using hj
  · have hsp : ∀ j, j < es.length + 1 → (w.cell? ⟨b, j, none⟩).isSome = true := fun j hj => by
      rw [cell_of_cells hb, Array.getElem?_eq_getElem (by omega)]; rfl
    have hfz : ∀ j, w.frozen? ⟨b, j, none⟩ = false := fun j => by simp [World.frozen?, hb]
    have hsb : w.shape? b = some (T, arr.size) := by simp [World.shape?, hb]
    obtain ⟨tA, kA, hsa, hkA⟩ : ∃ tA kA, w.shape? vb = some (tA, kA) ∧ kA ≠ 0 := by
      unfold World.cell? at hv0
      unfold World.shape?
      simp only [Option.isSome_none, Bool.false_eq_true, if_false] at hv0
      split at hv0
      · rename_i arr' E fz he
        refine ⟨E, arr'.size, rfl, ?_⟩
        have := (Array.getElem?_eq_some_iff.1 hv0).1
        omega
      · cases hv0
    refine (ins_shift b es.length cap vb voff vc cs c0 w hlen hroom hc63 hvb g1 g3' hsp hfz hv0 g4 (d4 c0 (by simp)) tA T kA arr.size hsa hsb hkA).mono ?_
    rintro e w' ⟨rfl, hw⟩
    have hb1 : w.drew.heap[b]? = some (.cells arr T (0, 0)) := hb
    rw [setCells_row cs 1 _ arr hb1 (by omega)] at hw
    have hA2 := setRow_heap _ _ _ (splice arr.toList 1 cs).toArray _ _ hb1
    rw [setCells_row [c0] 0 _ _ hA2 (by simp [splice]; omega)] at hw
    have hA3 := setRow_heap _ _ _ (splice (splice arr.toList 1 cs).toArray.toList 0 [c0]).toArray _ _ hA2
    rw [← hw] at hA3
    have c : Chg g w w' b := by
      subst hw
      refine ⟨fun d hd hdB => ?_, hf0, .inr (by rw [hK]; simp), ?_, ?_, ⟨rfl, rfl, rfl⟩⟩
      · rw [heap_setRow_ne _ _ _ _ hdB, heap_setRow_ne _ _ _ _ hdB, drew_heap]
      · rw [size_setRow, size_setRow, drew_heap]; exact hbw
      · rw [size_setRow, size_setRow, drew_heap]; exact Nat.le_refl _
    refine ⟨_, .p (.sl 1 (x :: es)), [], ngh g b (es.length + 1) .prot, rfl, ⟨rfl, rfl⟩, ?_, c.gs_prot hG _ _, c.aft hG _ _⟩
    simp only [RepA, RepP]
    refine .inr ⟨_, 0, cap, rfl, by simpa using hroom, by rw [ngh_fr]; simp, repE1_mk (cs := c0 :: cs) (by simp [g1]) (fun j e' c' he hc => ?_) fun j c' hj => ?_⟩
    · cases j with
      | zero => simp at he hc; subst he; subst hc; exact hcx.ext (c.ext hG _ _)
      | succ j => exact (g2 j e' c' (by simpa using he) (by simpa using hc)).ext (c.ext hG _ _)
    · rw [cell_of_cells hA3, Nat.zero_add]
      have hs : ∀ (l : List Value), (l.toArray)[j]? = l[j]? := fun l => by simp
      rw [hs, splice_get _ _ _ (by simp [splice]; omega)]
      have hjl := (List.getElem?_eq_some_iff.1 hj).1
      simp only [List.length_cons] at hjl
      cases j with
      | zero =>
        rw [if_pos (by simp)]
        simpa using hj
      | succ j =>
        rw [if_neg (by simp)]
        simp only []
        rw [splice_get _ _ _ (by simp; omega), if_pos (by omega), Nat.add_sub_cancel]
        simpa using hj
end Go.Proofs.Ytjgfmanahimpoaa

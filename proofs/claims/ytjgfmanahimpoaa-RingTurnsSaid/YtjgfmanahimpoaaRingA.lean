/- What slices.Clone and slices.Insert do, as contracts of the abstract machine. Conditions: as each law says. -/
import Derived.Test.YtjgfmanahimpoaaAmW
import Derived.Test.YtjgfmanahimpoaaIns
import Derived.Test.YtjgfmanahimpoaaClo
namespace Go.Proofs.Ytjgfmanahimpoaa
open Go.AM
set_option maxRecDepth 10000
def is (x : AV) : AV → List (Tok × List AV) → Prop := fun y rs => rs = [] ∧ y = x
/-- A new row behind a copy: its cells. -/
theorem fresh_chg {g : Gh} {w : World} {rs : List (Tok × List AV)} (hG : GS g w rs) (arr : Array Value) (E : TypeId) (w' : World) (B : Nat) (hB : B = w.heap.size + 1) (hw : w' = ((w.alloc (.cells #[] E)).drew).alloc (.cells arr E)) :
    Chg g w w' B ∧ w'.heap[B]? = some (.cells arr E (0, 0)) := by
  subst hw
  have hs : ((w.alloc (.cells #[] E)).drew).heap.size = w.heap.size + 1 := by simp [drew_heap]
  refine ⟨⟨fun d hd hdB => ?_, hG.frb _ (by omega), .inl (by omega), ?_, ?_, ⟨rfl, rfl, rfl⟩⟩, ?_⟩
  · rw [heap_alloc, hs, if_neg (by omega), drew_heap, heap_alloc, if_neg (by omega)]
  · have : (((w.alloc (.cells #[] E)).drew).alloc (.cells arr E)).heap.size = w.heap.size + 2 := by simp [hs]
    omega
  · have : (((w.alloc (.cells #[] E)).drew).alloc (.cells arr E)).heap.size = w.heap.size + 2 := by simp [hs]
    omega
  · rw [heap_alloc, hs, if_pos hB]
theorem zeros_one (z : Value) (hz : z.oneCell' = true) (n : Nat) : ∀ v ∈ (Builtin.zeroCells z.cells n).toList, v.oneCell' = true := by
  rw [zeroCells_list, cells_of_one hz]
  intro v hv
  simp only [List.mem_flatten, List.mem_replicate] at hv
  obtain ⟨l, ⟨_, rfl⟩, hv⟩ := hv
  simp at hv
  subst hv; exact hz
theorem zeros_size (z : Value) (hz : z.oneCell' = true) (n : Nat) : (Builtin.zeroCells z.cells n).size = n := by
  have := congrArg List.length (zeroCells_list z n)
  rw [cells_of_one hz] at this ⊢
  simpa using this
def CloneSome (F bytes : Nat) (E : TypeId) (z : Value) : Prop := ∀ (b o n c : Nat) (cs : List Value) (w : World), 0 < n → n * bytes ≤ 140737488355328 → cs.length = n →
    (∀ j v, cs[j]? = some v → w.cell? ⟨b, o + j, none⟩ = some v) → (∀ v ∈ cs, v.oneCell' = true) →
    ∃ G, n ≤ G ∧ G ≤ 9223372036854775807 ∧ Calls Try.prog F #[.slice (some ⟨b, o, none⟩) n c] w fun e w' => e = .returned (.slice (some ⟨w.heap.size + 1, 0, none⟩) n G) ∧
      w' = ((w.alloc (.cells #[] E)).drew).alloc (.cells (cs.toArray ++ Builtin.zeroCells z.cells (G - n)) E)
theorem cs51 : CloneSome 51 4 21 (.int .i32 0) := fun b o n c cs w h1 h2 h3 h4 h5 => clone51_some b o n c cs w h1 h2 h3 h4 h5
theorem cs53 : CloneSome 53 24 22 (.slice none 0 0) := fun b o n c cs w h1 h2 h3 h4 h5 => clone53_some b o n c cs w h1 h2 h3 h4 h5
/-- What a clone's run says of the new row. -/
theorem clone_run {F bytes : Nat} {E : TypeId} {z : Value} (hz : z.oneCell' = true) (hC : CloneSome F bytes E z) {es : List PV} (hne : es ≠ []) (hbig : es.length * bytes ≤ 140737488355328) {w : World} {g : Gh} {vs : List Value} (hargs : RepAL g w [.p (.sl 1 es)] vs) (hG : GS g w [])
    {Q : Ending → World → Prop} (h : ∀ (G : Nat) (cs : List Value) (w' : World), es.length ≤ G ∧ G ≤ 9223372036854775807 → cs.length = es.length → Chg g w w' (w.heap.size + 1) → (∀ (m : Nat) (k : Kd) (j : Nat) (e : PV) (c : Value), es[j]? = some e → cs[j]? = some c → Cel (ngh g (w.heap.size + 1) m k).fr w' e c) →
      (∃ arr : Array Value, w'.heap[w.heap.size + 1]? = some (.cells arr E (0, 0)) ∧ arr.size = G ∧ (∀ v ∈ arr.toList, v.oneCell' = true) ∧ ∀ (j : Nat) (c : Value), cs[j]? = some c → arr[j]? = some c) → Q (.returned (.slice (some ⟨w.heap.size + 1, 0, none⟩) es.length G)) w') :
    Calls Try.prog F vs.toArray w Q := by
  simp only [RepAL, RepA, RepP] at hargs
  obtain ⟨v, vs', rfl, hr, rfl⟩ := hargs
  rcases hr with ⟨e, _⟩ | ⟨b, o, cap, rfl, hcap, hfr, hE⟩
  · exact absurd e hne
  · have hlen : 0 < es.length := List.length_pos_iff.2 hne
    obtain ⟨cs, g1, g2, g3, g4⟩ := repE1_get hE
    obtain ⟨G, hGn, hG63, hcall⟩ := hC b o es.length cap cs w hlen hbig g1 g3 g4
    refine hcall.mono ?_
    rintro e w' ⟨rfl, hw⟩
    obtain ⟨c, hh⟩ := fresh_chg hG _ E w' (w.heap.size + 1) rfl hw
    refine h G cs w' ⟨hGn, hG63⟩ g1 c (fun m k j e' c' he hc => (g2 j e' c' he hc).ext (c.ext hG m k)) ⟨_, hh, ?_, ?_, ?_⟩
    · simp only [Array.size_append, List.size_toArray, zeros_size z hz]; omega
    · intro v hv
      simp only [Array.toList_append, List.mem_append] at hv
      rcases hv with hv | hv
      · exact g4 v hv
      · exact zeros_one z hz _ v hv
    · intro j c' hj
      have := (List.getElem?_eq_some_iff.1 hj).1
      rw [Array.getElem?_append_left (by simpa using this)]
      simpa using hj
theorem clone_some_p {F bytes : Nat} {E : TypeId} {z : Value} (hz : z.oneCell' = true) (hC : CloneSome F bytes E z) {es : List PV} (hne : es ≠ []) (hbig : es.length * bytes ≤ 140737488355328) : CR Try.prog F [] [.p (.sl 1 es)] [] (is (.p (.sl 1 es))) := by
  intro w g vs hargs hG
  refine clone_run hz hC hne hbig hargs hG fun G cs w' h1 h2 c h3 ⟨arr, h4, h5, h6, h7⟩ => ?_
  refine ⟨_, .p (.sl 1 es), [], ngh g (w.heap.size + 1) es.length .prot, rfl, ⟨rfl, rfl⟩, ?_, c.gs_prot hG _ _, c.aft hG _ _⟩
  simp only [RepA, RepP]
  refine .inr ⟨_, 0, G, rfl, h1.1, by rw [ngh_fr]; omega, repE1_mk h2 (h3 _ _) fun j c' hj => ?_⟩
  rw [cell_of_cells h4, Nat.zero_add]; exact h7 j c' hj
theorem clone_some_ow {F bytes : Nat} {E : TypeId} {z : Value} (hz : z.oneCell' = true) (hC : CloneSome F bytes E z) {es : List PV} (hne : es ≠ []) (hbig : es.length * bytes ≤ 140737488355328) : CR Try.prog F [] [.p (.sl 1 es)] [] (is (.ow [0] 1 es)) := by
  intro w g vs hargs hG
  refine clone_run hz hC hne hbig hargs hG fun G cs w' h1 h2 c h3 ⟨arr, h4, h5, h6, h7⟩ => ?_
  refine ⟨_, .ow [0] 1 es, [], ngh g (w.heap.size + 1) 0 (.tail [0]), rfl, ⟨rfl, rfl⟩, ?_, c.gs_tail hG _ _ _, c.aft hG _ _⟩
  simp only [RepA]
  refine .inr ⟨_, G, rfl, h1.1, ngh_K _ _ _ _, ngh_fr _ _ _ _, ⟨arr, E, h4, by omega, h6, by omega⟩, repE1_mk h2 (h3 _ _) fun j c' hj => ?_⟩
  rw [cell_of_cells h4, Nat.zero_add]; exact h7 j c' hj
theorem clone_some_root {F bytes : Nat} {E : TypeId} {z : Value} (hz : z.oneCell' = true) (hC : CloneSome F bytes E z) {es : List PV} (hne : es ≠ []) (hone : es.all PV.one = true) (hbig : es.length * bytes ≤ 140737488355328) :
    CR Try.prog F [] [.p (.sl 1 es)] [] (fun x rs' => x = .la [0] 1 0 es.length ∧ rs' = [([0], es.map .p)]) := by
  intro w g vs hargs hG
  refine clone_run hz hC hne hbig hargs hG fun G cs w' h1 h2 c h3 ⟨arr, h4, h5, h6, h7⟩ => ?_
  refine ⟨_, .la [0] 1 0 es.length, [([0], es.map .p)], ngh g (w.heap.size + 1) 0 (.root [0]), rfl, ⟨rfl, rfl⟩, ?_, c.gs_root hG [0] (cs := es.map .p) (by simp [lookT]) ⟨ngh_fr _ _ _ _, arr, E, h4, by simp; omega, fun j x hj => ?_⟩, c.aft hG _ _⟩
  · simp only [RepA]
    exact ⟨_, 0, G, ngh_K _ _ _ _, rfl, h1.1, .inr rfl⟩
  · simp only [List.getElem?_map, Option.map_eq_some_iff] at hj
    obtain ⟨e, he, rfl⟩ := hj
    have hjl := (List.getElem?_eq_some_iff.1 he).1
    obtain ⟨c', hc'⟩ : ∃ c', cs[j]? = some c' := ⟨_, List.getElem?_eq_getElem (by omega)⟩
    have hk := h3 0 (.root [0]) j e c' he hc'
    refine ⟨c', h7 j c' hc', ?_, by simp only [RepA]; exact hk.one (List.all_eq_true.1 hone e (List.mem_iff_getElem?.2 ⟨j, he⟩))⟩
    obtain ⟨_, _, _, h1c⟩ := hk
    exact h1c
theorem clone_text (es : List PV) (hbig : es.length * 4 ≤ 140737488355328) : CR Try.prog 51 [] [.p (.sl 1 es)] [] (is (.p (.sl 1 es))) := by
  cases es with
  | cons e es => exact clone_some_p rfl cs51 (by simp) hbig
  | nil =>
    intro w g vs hargs hG
    simp only [RepAL, RepA, RepP] at hargs
    obtain ⟨v, vs', rfl, hr, rfl⟩ := hargs
    have hnil : ∃ a cap, v = .slice a 0 cap := by
      rcases hr with ⟨_, a, cap, e⟩ | ⟨b, o, cap, e, _⟩
      · exact ⟨a, cap, e⟩
      · exact ⟨_, cap, e⟩
    obtain ⟨a, cap, rfl⟩ := hnil
    have hgk : GS g w [] := hG
    cases a with
    | none =>
      refine (clone51_nil cap w).mono ?_
      rintro e w' ⟨rfl, rfl⟩
      let g2 : Gh := ⟨g.fr, fun _ => .prot⟩
      refine ⟨_, .p (.sl 1 []), [], g2, rfl, ⟨rfl, rfl⟩, by simp only [RepA, RepP]; exact .inl ⟨trivial, none, 0, rfl⟩, ⟨fun b t h => (by cases h), fun b b' t h => (by cases h), fun b b' t h => (by cases h), fun b h => absurd rfl h, hG.frb⟩,
        ⟨fun d _ _ => ⟨rfl, rfl, rfl⟩, Ext.refl _ _, ⟨rfl, rfl, rfl⟩, Nat.le_refl _, fun b t _ ht => (by cases ht)⟩⟩
    | some a =>
      refine (clone51_none a cap w).mono ?_
      rintro e w' ⟨rfl, rfl⟩
      have c : Chg g w (w.alloc (.cells #[] 21)) w.heap.size := ⟨fun d hd hdB => by rw [heap_alloc, if_neg hdB], hG.frb _ (Nat.le_refl _), .inl (Nat.le_refl _), by simp, by simp, ⟨rfl, rfl, rfl⟩⟩
      exact ⟨_, .p (.sl 1 []), [], ngh g w.heap.size 0 .prot, rfl, ⟨rfl, rfl⟩, by simp only [RepA, RepP]; exact .inl ⟨trivial, _, 0, rfl⟩, c.gs_prot hG _ _, c.aft hG _ _⟩
theorem clone_nil53 : CR Try.prog 53 [] [.p (.opq (.slice none 0 0))] [] (is (.p (.opq (.slice none 0 0)))) := by
  intro w g vs hargs hG
  simp only [RepAL, RepA, RepP] at hargs
  obtain ⟨v, vs', rfl, rfl, rfl⟩ := hargs
  refine (clone53_nil 0 w).mono ?_
  rintro e w' ⟨rfl, rfl⟩
  let g2 : Gh := ⟨g.fr, fun _ => .prot⟩
  exact ⟨_, .p (.opq (.slice none 0 0)), [], g2, rfl, ⟨rfl, rfl⟩, by simp only [RepA, RepP], ⟨fun b t h => (by cases h), fun b b' t h => (by cases h), fun b b' t h => (by cases h), fun b h => absurd rfl h, hG.frb⟩,
    ⟨fun d _ _ => ⟨rfl, rfl, rfl⟩, Ext.refl _ _, ⟨rfl, rfl, rfl⟩, Nat.le_refl _, fun b t _ ht => (by cases ht)⟩⟩
end Go.Proofs.Ytjgfmanahimpoaa

/- A part of the proof of this seat's statements, by an abstract machine: what each operation does to values, proved over the model, whatever the program. No condition beyond those that stand. -/
import Derived.Test.YtlmejofikpnbpaaDoorAmT
import Derived.Laws.IdiomCopy
namespace Go.AM

/-! ### One block changed, or new: contracts from runs -/
structure Chg (g : Gh) (w w' : World) (B : Nat) : Prop where
  old : ∀ d, d < w.heap.size → d ≠ B → w'.heap[d]? = w.heap[d]?
  fr0 : g.fr B = 0
  mine : w.heap.size ≤ B ∨ g.K B ≠ .prot
  lt : B < w'.heap.size
  mono : w.heap.size ≤ w'.heap.size
  out : w'.os = w.os ∧ w'.tape = w.tape ∧ w'.output = w.output
/-- The ghost behind: the block is claimed so far, and is so owned; nothing else is. -/
def ngh (g : Gh) (B m : Nat) (k : Kd) : Gh := ⟨updN g.fr B m, fun d => if d = B then k else .prot⟩
theorem ngh_fr (g : Gh) (B m : Nat) (k : Kd) : (ngh g B m k).fr B = m := updN_same _ _ _
theorem ngh_K (g : Gh) (B m : Nat) (k : Kd) : (ngh g B m k).K B = k := if_pos rfl
theorem Chg.ext [Gi] {g : Gh} {w w' : World} {B : Nat} {rs : List (Tok × List AV)} (c : Chg g w w' B) (hG : GS g w rs) (m : Nat) (k : Kd) : Ext g.fr w (ngh g B m k).fr w' := fun d o ho => by
  have hd : d ≠ B := fun e => by subst e; rw [c.fr0] at ho; omega
  have hlt : d < w.heap.size := by
    rcases Nat.lt_or_ge d w.heap.size with h | h
    · exact h
    · have := hG.frb d h; omega
  exact ⟨by show o < updN g.fr B m d; rw [updN_ne _ _ _ hd]; exact ho, same_of_heap (c.old d hlt hd)⟩
theorem Chg.aft [Gi] {g : Gh} {w w' : World} {B : Nat} {rs : List (Tok × List AV)} (c : Chg g w w' B) (hG : GS g w rs) (m : Nat) (k : Kd) : Aft g w (ngh g B m k) w' [] :=
  ⟨fun d hd hk => by
    have hdB : d ≠ B := fun e => by
      subst e
      rcases c.mine with h | h
      · omega
      · exact h hk
    exact ⟨c.old d hd hdB, updN_ne _ _ _ hdB, if_neg hdB⟩, c.ext hG m k, c.out, c.mono, fun _ _ _ h => by cases h⟩
theorem Chg.frb [Gi] {g : Gh} {w w' : World} {B : Nat} {rs : List (Tok × List AV)} (c : Chg g w w' B) (hG : GS g w rs) (m : Nat) (k : Kd) (d : Nat) (hd : w'.heap.size ≤ d) : (ngh g B m k).fr d = 0 := by
  have := c.lt
  have := c.mono
  show updN g.fr B m d = 0
  rw [updN_ne _ _ _ (by omega)]
  exact hG.frb d (by omega)
theorem Chg.gs_prot [Gi] {g : Gh} {w w' : World} {B : Nat} {rs : List (Tok × List AV)} (c : Chg g w w' B) (hG : GS g w rs) (m : Nat) (rs' : List (Tok × List AV)) : GS (ngh g B m .prot) w' rs' := by
  have hp : ∀ d, (ngh g B m .prot).K d = .prot := fun d => by show (if d = B then Kd.prot else .prot) = .prot; split <;> rfl
  exact ⟨fun b t h => (by rw [hp] at h; cases h), fun b b' t h => (by rw [hp] at h; cases h), fun b b' t h => (by rw [hp] at h; cases h), fun b h => absurd (hp b) h, c.frb hG m _, hG.gl.aft (c.aft hG m _)⟩
theorem ngh_own {g : Gh} {B m : Nat} {k k' : Kd} (hk' : k' ≠ .prot) {d : Nat} (h : (ngh g B m k).K d = k') : d = B ∧ k = k' := by
  have h' : (if d = B then k else .prot) = k' := h
  split at h'
  · exact ⟨by assumption, h'⟩
  · exact absurd h'.symm hk'
theorem Chg.gs_tail [Gi] {g : Gh} {w w' : World} {B : Nat} {rs : List (Tok × List AV)} (c : Chg g w w' B) (hG : GS g w rs) (m : Nat) (t : Tok) (rs' : List (Tok × List AV)) : GS (ngh g B m (.tail t)) w' rs' := by
  refine ⟨fun b u h => ?_, fun b b' u h h' => ?_, fun b b' u h h' => ?_, fun b h => ?_, c.frb hG m _, hG.gl.aft (c.aft hG m _)⟩
  · have := (ngh_own (by simp) h).2; cases this
  · have := (ngh_own (by simp) h).2; cases this
  · rw [(ngh_own (by simp) h).1, (ngh_own (by simp) h').1]
  · by_cases e : b = B
    · subst e; exact c.lt
    · exact absurd (if_neg e) h
theorem Chg.gs_root [Gi] {g : Gh} {w w' : World} {B : Nat} {rs : List (Tok × List AV)} (c : Chg g w w' B) (hG : GS g w rs) (t : Tok) {rs' : List (Tok × List AV)} {cs : List AV} (hl : lookT rs' t = some cs) (hr : RootOK (ngh g B 0 (.root t)) w' B cs) : GS (ngh g B 0 (.root t)) w' rs' := by
  refine ⟨fun b u h => ?_, fun b b' u h h' => ?_, fun b b' u h h' => ?_, fun b h => ?_, c.frb hG 0 _, hG.gl.aft (c.aft hG 0 _)⟩
  · obtain ⟨rfl, e⟩ := ngh_own (by simp) h
    injection e with e
    subst e
    exact ⟨cs, hl, hr⟩
  · rw [(ngh_own (by simp) h).1, (ngh_own (by simp) h').1]
  · have := (ngh_own (by simp) h).2; cases this
  · by_cases e : b = B
    · subst e; exact c.lt
    · exact absurd (if_neg e) h

/-! ### Elements of one cell -/
def Cel (fr : Nat → Nat) (w : World) (e : PV) (c : Value) : Prop := ∃ v, RepP fr w e v ∧ v.cells = #[c] ∧ c.oneCell' = true
theorem Cel.ext {f1 f2 : Nat → Nat} {w1 w2 : World} (h : Ext f1 w1 f2 w2) {e : PV} {c : Value} : Cel f1 w1 e c → Cel f2 w2 e c := fun ⟨v, r, h1, h2⟩ => ⟨v, r.ext h, h1, h2⟩
theorem Cel.one {fr : Nat → Nat} {w : World} {e : PV} {c : Value} (h : e.one = true) : Cel fr w e c → RepP fr w e c := fun ⟨v, r, h1, _⟩ => by
  have := RepP.one h r
  have h2 : v.cells = #[v] := cells_of_one this
  rw [h1] at h2
  have : c = v := by simpa using h2
  rw [this]; exact r
theorem Cel.of {fr : Nat → Nat} {w : World} {e : PV} {v : Value} (h : e.one = true) (r : RepP fr w e v) : Cel fr w e v := ⟨v, r, cells_of_one (RepP.one h r), RepP.one h r⟩
theorem repE1_get {fr : Nat → Nat} {w : World} {b : Nat} : ∀ {es : List PV} {o : Nat}, RepE fr w 1 b es o →
    ∃ cs : List Value, cs.length = es.length ∧ (∀ (j : Nat) (e : PV) (c : Value), es[j]? = some e → cs[j]? = some c → Cel fr w e c) ∧ (∀ (j : Nat) (c : Value), cs[j]? = some c → w.cell? ⟨b, o + j, none⟩ = some c) ∧ ∀ c ∈ cs, c.oneCell' = true
  | [], o, _ => ⟨[], rfl, by simp, by simp, by simp⟩
  | e :: es, o, r => by
    simp only [RepE] at r
    obtain ⟨⟨v, r1, h1, h2⟩, r2⟩ := r
    obtain ⟨cs, g1, g2, g3, g4⟩ := repE1_get r2
    obtain ⟨c, hc⟩ : ∃ c, v.cells = #[c] := Array.size_eq_one_iff.1 h1
    obtain ⟨k1, k2⟩ := h2 0 c (by rw [hc]; rfl)
    refine ⟨c :: cs, by simp [g1], fun j e' c' he hc' => ?_, fun j c' hc' => ?_, fun c' hc' => ?_⟩
    · cases j with
      | zero => simp at he hc'; subst he; subst hc'; exact ⟨v, r1, hc, k1⟩
      | succ j => exact g2 j e' c' (by simpa using he) (by simpa using hc')
    · cases j with
      | zero => simp at hc'; subst hc'; exact k2
      | succ j =>
        have := g3 j c' (by simpa using hc')
        rwa [show o + 1 + j = o + (j + 1) from by omega] at this
    · rcases List.mem_cons.1 hc' with rfl | h
      · exact k1
      · exact g4 c' h
theorem repE1_mk {fr : Nat → Nat} {w : World} {b : Nat} : ∀ {es : List PV} {cs : List Value} {o : Nat}, cs.length = es.length → (∀ (j : Nat) (e : PV) (c : Value), es[j]? = some e → cs[j]? = some c → Cel fr w e c) →
    (∀ (j : Nat) (c : Value), cs[j]? = some c → w.cell? ⟨b, o + j, none⟩ = some c) → RepE fr w 1 b es o
  | [], _, _, _, _, _ => by simp only [RepE]
  | e :: es, [], o, h, _, _ => by simp at h
  | e :: es, c :: cs, o, h, h1, h2 => by
    simp only [RepE]
    obtain ⟨v, r, hv, h1c⟩ := h1 0 e c rfl rfl
    refine ⟨⟨v, r, by rw [hv]; rfl, fun j c' hj => ?_⟩, repE1_mk (cs := cs) (by simpa using h) (fun j e' c' he hc => h1 (j + 1) e' c' (by simpa using he) (by simpa using hc)) (fun j c' hc => ?_)⟩
    · rw [hv] at hj
      cases j with
      | zero =>
        simp at hj; subst hj
        exact ⟨h1c, by simpa using h2 0 c rfl⟩
      | succ j => simp at hj
    · have := h2 (j + 1) c' (by simpa using hc)
      rwa [show o + (j + 1) = o + 1 + j from by omega] at this

/-! ### A slice over a root becomes a value -/
theorem roots_repE {g : Gh} {w : World} {fr : Nat → Nat} {b : Nat} {arr : Array Value} {T : TypeId} (hb : w.heap[b]? = some (.cells arr T (0, 0))) (hx : Ext g.fr w fr w) : ∀ (es : List PV) (o : Nat), es.all PV.one = true →
    (∀ (j : Nat) (x : PV), es[j]? = some x → ∃ v, arr[o + j]? = some v ∧ v.oneCell' = true ∧ RepP g.fr w x v) → RepE fr w 1 b es o
  | [], _, _, _ => by simp only [RepE]
  | e :: es, o, h1, h => by
    simp only [RepE]
    simp only [List.all_cons, Bool.and_eq_true] at h1
    obtain ⟨v, hv, k1, r⟩ := h 0 e rfl
    refine ⟨⟨v, r.ext hx, by rw [cells_of_one k1]; rfl, fun j c hj => ?_⟩, roots_repE hb hx es (o + 1) h1.2 fun j x hj => ?_⟩
    · rw [cells_of_one k1] at hj
      cases j with
      | zero =>
        simp at hj; subst hj
        exact ⟨k1, by rw [cell_of_cells hb]; simpa using hv⟩
      | succ j => simp at hj
    · obtain ⟨u, hu, k2, r2⟩ := h (j + 1) x (by simpa using hj)
      exact ⟨u, by rw [show o + 1 + j = o + (j + 1) from by omega]; exact hu, k2, r2⟩
/-- What is told of a struct whose first field is a slice over a root: a value. -/
theorem CR_frz [Gi] {P : Program} {f : FuncId} {args : List AV} {rs : List (Tok × List AV)} {es : List PV} {ys : List PV} (hes : es.all PV.one = true) {t : Tok} {R : AV → List (Tok × List AV) → Prop}
    (h : CR P f [] args rs R) (hR : ∀ x rs', R x rs' → x = .ag (.la t 1 0 es.length :: ys.map .p) ∧ lookT rs' t = some (es.map .p)) : CR P f [] args rs (fun x rs' => x = .p (.agg (.sl 1 es :: ys)) ∧ rs' = []) := by
  intro w g vs hargs hG
  refine (h w g vs hargs hG).mono ?_
  rintro e w' ⟨v, x, rs', g', rfl, hx, rx, hG', hA⟩
  obtain ⟨rfl, hl⟩ := hR _ _ hx
  simp only [RepA] at rx
  obtain ⟨us, rfl, hone, rx⟩ := rx
  simp only [RepAL, RepA] at rx
  obtain ⟨v1, vs', e1, ⟨b, o', cap, hk, rfl, hcap, ho, _⟩, rest⟩ := rx
  obtain ⟨cs, hl', h0, arr, T, hb, hle, hc⟩ := hG'.roots b t hk
  rw [hl] at hl'
  injection hl' with hl'
  subst hl'
  let g2 : Gh := ⟨updN g'.fr b es.length, fun _ => .prot⟩
  have hx : Ext g'.fr w' g2.fr w' := fun d o ho => ⟨by
    by_cases e : d = b
    · subst e; omega
    · show o < updN g'.fr b _ d; rw [updN_ne _ _ _ e]; exact ho, rfl, rfl⟩
  have hbw := hG'.own b (by rw [hk]; simp)
  have hE : RepE g2.fr w' 1 b es 0 := roots_repE hb hx es 0 hes fun j x hj => by
    obtain ⟨v, hv, k1, r⟩ := hc j (.p x) (by simp [hj])
    exact ⟨v, by simpa using hv, k1, by simpa only [RepA] using r⟩
  have hL : ∀ {ys : List PV} {vs : List Value}, (∀ u ∈ vs, u.oneCell' = true) → RepAL g' w' (ys.map .p) vs → RepL g2.fr w' ys vs := by
    intro ys
    induction ys with
    | nil => intro vs _ r; simp only [List.map_nil, RepAL] at r; simp only [RepL]; exact r
    | cons y ys ih =>
      intro vs h1 r
      simp only [List.map_cons, RepAL, RepA] at r
      obtain ⟨u, us, rfl, r1, r2⟩ := r
      simp only [RepL]
      exact ⟨u, us, rfl, h1 u (by simp), r1.ext hx, ih (fun u hu => h1 u (by simp [hu])) r2⟩
  refine ⟨_, _, [], g2, rfl, ⟨rfl, rfl⟩, ?_, ⟨fun b t h => (by cases h), fun b b' t h => (by cases h), fun b b' t h => (by cases h), fun b h => absurd rfl h, fun d hd => ?_, fun b arr e => ⟨rfl, (hG'.gl b arr e).2⟩⟩, ⟨fun d hd hkd => ?_, hA.ext.trans hx, hA.out, hA.mono, fun b t _ ht => (by cases ht)⟩⟩
  · simp only [RepA, RepP]
    refine ⟨us, rfl, ?_⟩
    rw [e1]
    simp only [RepL]
    rw [e1] at hone
    refine ⟨_, _, rfl, rfl, ?_, hL (fun u hu => hone u (by simp [hu])) rest⟩
    simp only [RepP]
    rcases Nat.eq_zero_or_pos es.length with h | h
    · exact .inl ⟨List.eq_nil_of_length_eq_zero h, some ⟨b, o', none⟩, cap, by rw [h]⟩
    · refine .inr ⟨b, 0, cap, ?_, hcap, ?_, hE⟩
      · rw [ho.resolve_left (by omega)]
      · show _ ≤ updN g'.fr b _ b
        rw [updN_same]; omega
  · show updN g'.fr b _ d = 0
    rw [updN_ne _ _ _ (by omega)]
    exact hG'.frb d hd
  · obtain ⟨a1, a2, a3⟩ := hA.frame d hd hkd
    have hdb : d ≠ b := fun e => by subst e; rw [hk] at a3; cases a3
    exact ⟨a1, by show updN g'.fr b _ d = _; rw [updN_ne _ _ _ hdb]; exact a2, rfl⟩

theorem LeA.ag {xs : List AV} {ys : List PV} (h : toPs xs = some ys) : LeA (.ag xs) (.p (.agg ys)) := fun g w v r => by
  have := toP_spec (x := .ag xs) (y := .agg ys) (by simp [toP, h]) r
  simpa only [RepA] using this
/-- Less may be said of what is told. -/
theorem CR_le [Gi] {P : Program} {f : FuncId} {pin : List Tok} {args : List AV} {rs : List (Tok × List AV)} {R R' : AV → List (Tok × List AV) → Prop} (h : CR P f pin args rs R) (hr : ∀ x rs', R x rs' → ∃ y, LeA x y ∧ R' y rs') : CR P f pin args rs R' := by
  intro w g vs h1 h2
  refine (h w g vs h1 h2).mono ?_
  rintro e w' ⟨v, x, rs', g', rfl, hR, hx, hG, hA⟩
  obtain ⟨y, hy, hR'⟩ := hr _ _ hR
  exact ⟨v, y, rs', g', rfl, hR', hy _ _ _ hx, hG, hA⟩

/-! ### Cells written one by one -/
theorem setCells_row {b : Nat} {T : TypeId} {f : Nat × Nat} : ∀ (vs : List Value) (o : Nat) (w : World) (arr : Array Value), w.heap[b]? = some (.cells arr T f) → o + vs.length ≤ arr.size →
    w.setCells b o vs = w.setRow b (splice arr.toList o vs).toArray
  | [], o, w, arr, hb, h => by
    simp only [World.setCells, splice, List.append_nil, List.length_nil, Nat.add_zero, List.take_append_drop, Array.toArray_toList]
    have e : (w.setRow b arr).heap = w.heap := by
      apply Array.ext_getElem?
      intro i
      simp only [World.setRow]
      rw [Array.getElem?_modify]
      split
      · rename_i e; subst e; rw [hb]; rfl
      · rfl
    calc w = { w with heap := w.heap } := rfl
      _ = { w with heap := (w.setRow b arr).heap } := by rw [e]
      _ = w.setRow b arr := rfl
  | v :: vs, o, w, arr, hb, h => by
    simp only [List.length_cons] at h
    have e1 : w.setCell ⟨b, o, none⟩ v = w.setRow b (arr.setIfInBounds o v) := by
      simp only [World.setCell, World.setRow]
      congr 1
      apply Array.ext_getElem?
      intro i
      rw [Array.getElem?_modify, Array.getElem?_modify]
      split
      · rename_i e; subst e; rw [hb]; rfl
      · rfl
    rw [World.setCells, e1, setCells_row vs (o + 1) _ _ (setRow_heap w b arr _ T f hb) (by simp; omega)]
    simp only [World.setRow]
    congr 1
    apply Array.ext_getElem?
    intro i
    rw [Array.getElem?_modify, Array.getElem?_modify, Array.getElem?_modify]
    split
    · rename_i e; subst e
      rw [hb]
      simp only [Option.map_some]
      congr 2
      apply Array.ext_getElem?
      intro j
      have hs : ∀ (l : List Value), (l.toArray)[j]? = l[j]? := fun l => by simp
      rw [hs, hs, splice_get _ _ _ (by simp; omega), splice_get _ _ _ (by simp; omega)]
      simp only [Array.toList_setIfInBounds, List.length_cons]
      by_cases h1 : j = o
      · subst h1
        rw [if_neg (by omega), if_pos (by omega), Nat.sub_self]
        simp [List.getElem?_set]
        omega
      · by_cases h2 : o + 1 ≤ j ∧ j < o + 1 + vs.length
        · rw [if_pos h2, if_pos (by omega), show j - o = (j - (o + 1)) + 1 from by omega, List.getElem?_cons_succ]
        · rw [if_neg h2, if_neg (by omega), List.getElem?_set_ne (fun e => h1 e.symm)]
    · rfl
theorem drew_heap (w : World) : w.drew.heap = w.heap := rfl
end Go.AM

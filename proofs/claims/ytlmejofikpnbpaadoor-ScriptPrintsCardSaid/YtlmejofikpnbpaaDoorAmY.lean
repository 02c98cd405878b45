/- A part of the proof of this seat's statements, by an abstract machine: what each operation does to values, proved over the model, whatever the program. No condition beyond those that stand. -/
import Derived.Test.YtlmejofikpnbpaaDoorAmU
namespace Go.AM
/-! ### Roots that are given up: from then on they are values -/
/-- The ghost in which these roots are kept alone; the others are protected, and claimed to their ends. -/
def frz (g : Gh) (w : World) (rt : Tok → Bool) : Gh :=
  ⟨fun b => match g.K b with
    | .root t => if rt t then g.fr b else frW w b
    | _ => g.fr b, (g.fil rt ftt).K⟩
theorem frz_fr_kept {g : Gh} {w : World} {rt : Tok → Bool} {b : Nat} (h : ∀ t, g.K b = .root t → rt t = true) : (frz g w rt).fr b = g.fr b := by
  simp only [frz]
  split
  · rename_i t e; rw [if_pos (h t e)]
  · rfl
theorem frz_fr_gone {g : Gh} {w : World} {rt : Tok → Bool} {b : Nat} {t : Tok} (h : g.K b = .root t) (ht : rt t = false) : (frz g w rt).fr b = frW w b := by
  simp only [frz, h, ht, Bool.false_eq_true, if_false]
theorem frz_ext [Gi] {g : Gh} {w : World} {rs : List (Tok × List AV)} (hG : GS g w rs) (rt : Tok → Bool) : Ext g.fr w (frz g w rt).fr w := fun b o ho => by
  refine ⟨?_, rfl, rfl⟩
  by_cases h : ∃ t, g.K b = .root t
  · obtain ⟨t, ht⟩ := h
    obtain ⟨_, _, h0, _⟩ := hG.roots b t ht
    omega
  · rw [frz_fr_kept (fun t e => absurd ⟨t, e⟩ h)]
    exact ho
theorem frz_keep [Gi] {g : Gh} {w : World} {rs : List (Tok × List AV)} (hG : GS g w rs) (rt : Tok → Bool) : Keep g w (frz g w rt) w rt ftt :=
  ⟨frz_ext hG rt, fun b t ht hk => ⟨Gh.fil_root.2 ⟨hk, ht⟩, fun _ h => h⟩, fun b t ht hk => ⟨Gh.fil_tail.2 ⟨hk, ht⟩, frz_fr_kept (fun u e => by rw [hk] at e; cases e), rfl⟩⟩
/-- The roots that are kept, cell by cell. -/
def keepF (rt : Tok → Bool) (rs : List (Tok × List AV)) : List (Tok × List AV) := (rs.filter fun x => rt x.1).map fun x => (x.1, x.2.map (AV.upd (fil rt ftt)))
theorem lookT_keepF {rt : Tok → Bool} {t : Tok} (ht : rt t = true) : ∀ {rs : List (Tok × List AV)} {cs : List AV}, lookT rs t = some cs → lookT (keepF rt rs) t = some (cs.map (AV.upd (fil rt ftt)))
  | [], _, h => by simp [lookT] at h
  | (k, y) :: l, cs, h => by
    simp only [lookT] at h
    split at h
    · rename_i e
      injection h with h
      subst e; subst h
      simp [keepF, ht, lookT]
    · rename_i e
      have ih := lookT_keepF ht h
      unfold keepF at ih ⊢
      rw [List.filter_cons]
      split
      · simp only [List.map_cons, lookT, if_neg e]; exact ih
      · exact ih
theorem frz_GS [Gi] {g : Gh} {w : World} {rs : List (Tok × List AV)} (hG : GS g w rs) (rt : Tok → Bool) : GS (frz g w rt) w (keepF rt rs) := by
  have k := frz_keep hG rt
  refine ⟨fun b t hk => ?_, fun b b' t hk hk' => hG.ur b b' t (Gh.fil_root.1 hk).1 (Gh.fil_root.1 hk').1, fun b b' t hk hk' => hG.ut b b' t (Gh.fil_tail.1 hk).1 (Gh.fil_tail.1 hk').1, fun b hb => hG.own b ?_, fun b hb => ?_, fun b arr e => ?_⟩
  · obtain ⟨hk1, ht⟩ := Gh.fil_root.1 hk
    obtain ⟨cs, hl, h0, arr, T, hb, hle, hc⟩ := hG.roots b t hk1
    refine ⟨cs.map (AV.upd (fil rt ftt)), lookT_keepF ht hl, ?_, arr, T, hb, by simpa using hle, fun j x hj => ?_⟩
    · rw [frz_fr_kept (fun u e => by rw [hk1] at e; injection e with e; subst e; exact ht)]; exact h0
    · simp only [List.getElem?_map, Option.map_eq_some_iff] at hj
      obtain ⟨y, hy, rfl⟩ := hj
      obtain ⟨v, hv, h1, r⟩ := hc j y hy
      exact ⟨v, hv, h1, RepA.upd k _ _ r⟩
  · intro e; apply hb; show (g.K b).fil rt ftt = .prot; rw [e]; rfl
  · have : g.K b = .prot := by
      rcases h : g.K b with _ | t | t
      · rfl
      all_goals exact absurd (hG.own b (by rw [h]; simp)) (by omega)
    rw [frz_fr_kept (fun t e => by rw [this] at e; cases e)]
    exact hG.frb b hb
  · obtain ⟨h1, h2⟩ := hG.gl b arr e
    exact ⟨by show (g.K b).fil rt ftt = .prot; rw [h1]; rfl, h2⟩
/-- What a result says once these roots are given up. -/
def FrzOf [Gi] (rt : Tok → Bool) (rs : List (Tok × List AV)) (x x' : AV) : Prop := ∀ g w v, GS g w rs → RepA g w x v → RepA (frz g w rt) w x' v
theorem CR.freeze [Gi] {P : Program} {f : FuncId} {pin : List Tok} {args : List AV} {rs : List (Tok × List AV)} {R R' : AV → List (Tok × List AV) → Prop} (h : CR P f pin args rs R) (rt : Tok → Bool) (hp : pin.all rt = true)
    (hr : ∀ x rs', R x rs' → ∃ x', FrzOf rt rs' x x' ∧ R' x' (keepF rt rs')) : CR P f pin args rs R' := by
  intro w g vs h1 h2
  refine (h w g vs h1 h2).mono ?_
  rintro e w' ⟨v, x, rs', g', rfl, hR, hx, hG, hA⟩
  obtain ⟨x', hf, hR'⟩ := hr x rs' hR
  refine ⟨v, x', _, frz g' w' rt, rfl, hR', hf g' w' v hG hx, frz_GS hG rt, ⟨fun b hb hk => ?_, hA.ext.trans (frz_ext hG rt), hA.out, hA.mono, fun b t hk ht => ?_⟩⟩
  · obtain ⟨a1, a2, a3⟩ := hA.frame b hb hk
    exact ⟨a1, by rw [frz_fr_kept (fun t e => by rw [a3] at e; cases e)]; exact a2, by show (g'.K b).fil rt ftt = .prot; rw [a3]; rfl⟩
  · obtain ⟨a1, a2⟩ := hA.pins b t hk ht
    exact ⟨Gh.fil_root.2 ⟨a1, List.all_eq_true.1 hp t ht⟩, a2⟩
theorem RepL_of {fr : Nat → Nat} {w : World} : ∀ {ps : List PV} {vs : List Value}, vs.length = ps.length → (∀ (j : Nat) (p : PV), ps[j]? = some p → ∃ v, vs[j]? = some v ∧ v.oneCell' = true ∧ RepP fr w p v) → RepL fr w ps vs
  | [], vs, hl, _ => by simp only [RepL]; exact List.eq_nil_of_length_eq_zero hl
  | p :: ps, [], hl, _ => by simp at hl
  | p :: ps, u :: vs, hl, h => by
    simp only [RepL]
    obtain ⟨v, hv, h1, h2⟩ := h 0 p rfl
    simp at hv; subst hv
    exact ⟨u, vs, rfl, h1, h2, RepL_of (by simpa using hl) fun j q hq => by simpa using h (j + 1) q (by simpa using hq)⟩
/-- A root of plain cells, given up, is a value: so many elements of so many cells. -/
theorem frz_flat [Gi] {g : Gh} {w : World} {rs : List (Tok × List AV)} (hG : GS g w rs) {rt : Tok → Bool} {t : Tok} {z n : Nat} {es : List PV} (h0 : 0 < n) (hl : lookT rs t = some ((es.flatMap PV.cells).map .p)) (ht : rt t = false) (hn : es.length = n)
    (hz : ∀ e ∈ es, e.cells.length = z ∧ e.fits = true) {v : Value} (hv : RepA g w (.la t z 0 n) v) : RepP (frz g w rt).fr w (.sl z es) v := by
  simp only [RepA] at hv
  obtain ⟨b, o', cap, hk, rfl, hcap, ho, hblk⟩ := hv
  obtain rfl : o' = 0 := ho.resolve_left (by omega)
  obtain ⟨cs, hl', hfr, arr, T, hb, hle, hc⟩ := hG.roots b t hk
  rw [hl] at hl'; injection hl' with hl'; subst hl'
  have hx := frz_ext hG rt
  have hlen : (es.flatMap PV.cells).length = es.length * z := by
    clear hl hn hle hc
    induction es with
    | nil => simp
    | cons e es ih =>
      rw [List.flatMap_cons, List.length_append, ih (fun x hx => hz x (by simp [hx])), (hz e (by simp)).1, List.length_cons, Nat.add_mul]
      omega
  rw [List.length_map, hlen] at hle
  have hfb : (frz g w rt).fr b = arr.size := by rw [frz_fr_gone hk ht]; simp [frW, hb]
  simp only [RepP]
  refine .inr ⟨b, 0, cap, by rw [hn], by omega, by rw [hfb]; omega, ?_⟩
  refine RepE_of_flat (vs := arr.toList.take (es.length * z)) (RepL_of (by rw [hlen]; simp; omega) fun j p hj => ?_) hz (fun j u hj => ?_)
  · obtain ⟨u, h1, h2, h3⟩ := hc j (.p p) (by rw [List.getElem?_map, hj]; rfl)
    have hjl : j < es.length * z := by rw [← hlen]; exact (List.getElem?_eq_some_iff.1 hj).1
    simp only [RepA] at h3
    exact ⟨u, by rw [List.getElem?_take, if_pos hjl]; simpa using h1, h2, h3.ext hx⟩
  · rw [List.getElem?_take] at hj
    split at hj
    · rw [cell_of_cells hb, Nat.zero_add]; simpa using hj
    · cases hj
/-- A root of slices over such roots. -/
theorem frz_rows [Gi] {g : Gh} {w : World} {rs : List (Tok × List AV)} (hG : GS g w rs) {rt : Tok → Bool} {t0 : Tok} {z n : Nat} {ts : List Tok} {X : List (List PV)} (h0 : 0 < n) (hR : 0 < ts.length) (hl : lookT rs t0 = some (ts.map fun t => .la t z 0 n)) (ht0 : rt t0 = false) (hX : X.length = ts.length)
    (hrow : ∀ (i : Nat) (t : Tok), ts[i]? = some t → rt t = false ∧ ∃ es, X[i]? = some es ∧ es.length = n ∧ (∀ e ∈ es, e.cells.length = z ∧ e.fits = true) ∧ lookT rs t = some ((es.flatMap PV.cells).map .p))
    {v : Value} (hv : RepA g w (.la t0 1 0 ts.length) v) : RepP (frz g w rt).fr w (.sl 1 (X.map (.sl z))) v := by
  simp only [RepA] at hv
  obtain ⟨b, o', cap, hk, rfl, hcap, ho, hblk⟩ := hv
  obtain rfl : o' = 0 := ho.resolve_left (by omega)
  obtain ⟨cs, hl', hfr, arr, T, hb, hle, hc⟩ := hG.roots b t0 hk
  rw [hl] at hl'; injection hl' with hl'; subst hl'
  rw [List.length_map] at hle
  have hfb : (frz g w rt).fr b = arr.size := by rw [frz_fr_gone hk ht0]; simp [frW, hb]
  simp only [RepP]
  refine .inr ⟨b, 0, cap, by simp [hX], by simp [hX]; omega, by rw [hfb]; simp [hX]; omega, ?_⟩
  refine RepE.mk fun i el hi => ?_
  rw [List.getElem?_map, Option.map_eq_some_iff] at hi
  obtain ⟨es, he, rfl⟩ := hi
  have hit : i < ts.length := by rw [← hX]; exact (List.getElem?_eq_some_iff.1 he).1
  obtain ⟨hrt, es', he', hn, hz, hlt⟩ := hrow i ts[i] (List.getElem?_eq_getElem hit)
  rw [he] at he'; injection he' with he'; subst he'
  obtain ⟨u, hu, h1, h2⟩ := hc i (.la ts[i] z 0 n) (by rw [List.getElem?_map, List.getElem?_eq_getElem hit]; rfl)
  have hcell : u.cells = #[u] := by cases u <;> simp_all [Value.oneCell', Value.cells]
  refine ⟨u, frz_flat hG h0 hlt hrt hn hz h2, by rw [hcell]; rfl, fun j c hj => ?_⟩
  rw [hcell] at hj
  have hj0 : j = 0 ∧ c = u := by
    match j, hj with
    | 0, hj => simp at hj; exact ⟨rfl, hj.symm⟩
    | j + 1, hj => simp at hj
  obtain ⟨rfl, rfl⟩ := hj0
  refine ⟨h1, ?_⟩
  rw [cell_of_cells hb]
  simpa using hu
end Go.AM

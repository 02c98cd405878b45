/- A part of the proof of this seat's statements, by an abstract machine: what each operation does to values, proved over the model, whatever the program. No condition beyond those that stand. -/
import Derived.Test.YtlmejofikpnbpaaDoorAmG
namespace Go.AM

def toP1 : AV → Option PV
  | .p x => some x
  | .os _ z es => some (.sl z es)
  | _ => none
def toPs : List AV → Option (List PV)
  | [] => some []
  | x :: l => match toP1 x, toPs l with
    | some y, some ys => some (y :: ys)
    | _, _ => none
def toP : AV → Option PV
  | .p x => some x
  | .os _ z es => some (.sl z es)
  | .ag xs => (toPs xs).map .agg
  | _ => none
theorem toP1_spec {g : Gh} {w : World} {x : AV} {y : PV} {v : Value} (h : toP1 x = some y) (r : RepA g w x v) : RepP g.fr w y v := by
  cases x with
  | p x => simp only [toP1, Option.some.injEq] at h; subst h; simpa only [RepA] using r
  | os t z es => simp only [toP1, Option.some.injEq] at h; subst h; simp only [RepA] at r; exact r.1
  | _ => cases h
theorem toPs_spec {g : Gh} {w : World} : ∀ {xs : List AV} {ys : List PV} {vs : List Value}, toPs xs = some ys → (∀ u ∈ vs, u.oneCell' = true) → RepAL g w xs vs → RepL g.fr w ys vs
  | [], ys, vs, h, _, r => by simp only [toPs, Option.some.injEq] at h; subst h; simp only [RepAL] at r; simp only [RepL]; exact r
  | x :: xs, ys, vs, h, h1, r => by
    simp only [toPs] at h
    split at h
    · rename_i y ys' e1 e2
      simp only [Option.some.injEq] at h; subst h
      simp only [RepAL] at r
      obtain ⟨v, vs', rfl, r1, r2⟩ := r
      simp only [RepL]
      exact ⟨v, vs', rfl, h1 v (by simp), toP1_spec e1 r1, toPs_spec e2 (fun u hu => h1 u (by simp [hu])) r2⟩
    · cases h
theorem toP_spec {g : Gh} {w : World} {x : AV} {y : PV} {v : Value} (h : toP x = some y) (r : RepA g w x v) : RepP g.fr w y v := by
  cases x with
  | p x => simp only [toP, Option.some.injEq] at h; subst h; simpa only [RepA] using r
  | os t z es => simp only [toP, Option.some.injEq] at h; subst h; simp only [RepA] at r; exact r.1
  | ag xs =>
    simp only [toP, Option.map_eq_some_iff] at h
    obtain ⟨ys, h1, rfl⟩ := h
    simp only [RepA] at r
    obtain ⟨vs, rfl, h2, r⟩ := r
    simp only [RepP]
    exact ⟨vs, rfl, toPs_spec h1 h2 r⟩
  | _ => cases h

/-! ### Structs and arrays that are built -/
def places (P : Program) (T : TypeId) : Option (List (Nat × Nat)) :=
  match ty P T with
  | some ⟨.struct fs, _, _, _⟩ => fs.toList.mapM fun fd => (ty P fd.type).map fun ft => (fd.offset, ft.size)
  | _ => none
def fillL (place : Nat → Option (Nat × Nat)) (cells : List PV) : List (Nat × PV) → Prop × List PV
  | [] => (True, cells)
  | (i, x) :: rest =>
    match place i with
    | none => (False, cells)
    | some (off, size) =>
      let r := fillL place (cells.take off ++ x.cells ++ cells.drop (off + size)) rest
      ((x.cells.length = size ∧ off + size ≤ cells.length ∧ x.fits = true) ∧ r.1, r.2)
theorem foldl_set (off : Nat) : ∀ (vs : List Value) (k : Nat) (arr : Array Value), off + k + vs.length ≤ arr.size →
    ((vs.zipIdx k).foldl (fun cs x => cs.setIfInBounds (off + x.2) x.1) arr).toList = arr.toList.take (off + k) ++ vs ++ arr.toList.drop (off + k + vs.length)
  | [], k, arr, _ => by simp
  | v :: vs, k, arr, h => by
    simp only [List.length_cons] at h
    simp only [List.zipIdx_cons, List.foldl_cons]
    rw [foldl_set off vs (k + 1) (arr.setIfInBounds (off + k) v) (by simp; omega)]
    have e := list_seg_step arr.toList (off + k) v vs (by simp only [Array.length_toList]; omega)
    simpa [Array.toList_setIfInBounds, Nat.add_assoc] using e
theorem fill_sound {fr : Nat → Nat} {w : World} {place : Nat → Option (Nat × Nat)} : ∀ {parts : List (Nat × PV)} {vparts : List (Nat × Value)} {cells : List PV} {arr : Array Value},
    (fillL place cells parts).1 → RepL fr w cells arr.toList → parts.map (·.1) = vparts.map (·.1) → (∀ (i : Nat) (x : Nat × PV) (v : Nat × Value), parts[i]? = some x → vparts[i]? = some v → RepP fr w x.2 v.2) →
    ∃ arr', Instr.fill place arr vparts = some arr' ∧ RepL fr w (fillL place cells parts).2 arr'.toList
  | [], vparts, cells, arr, _, r, hm, _ => by
    cases vparts with
    | nil => exact ⟨arr, rfl, r⟩
    | cons v vs => simp at hm
  | (i, x) :: rest, vparts, cells, arr, h, r, hm, hv => by
    cases vparts with
    | nil => simp at hm
    | cons vp vrest =>
      obtain ⟨j, v⟩ := vp
      simp only [List.map_cons, List.cons.injEq] at hm
      obtain ⟨hij, hm⟩ := hm
      subst hij
      unfold fillL at h ⊢
      cases hp : place i with
      | none => simp only [hp] at h
      | some os =>
        obtain ⟨off, size⟩ := os
        simp only [hp] at h ⊢
        obtain ⟨⟨h1, h2, h3⟩, h4⟩ := h
        have hrv : RepP fr w x v := hv 0 (i, x) (i, v) rfl rfl
        have hc := RepP.cells h3 hrv
        have hlc := RepL.length hc
        have hla := RepL.length r
        simp only [Array.length_toList] at hlc hla
        have hfold : (v.cells.zipIdx.foldl (fun cs x => cs.setIfInBounds (off + x.2) x.1) arr).toList = arr.toList.take off ++ v.cells.toList ++ arr.toList.drop (off + size) := by
          have := foldl_set off v.cells.toList 0 arr (by simp; omega)
          simp only [Nat.add_zero, Array.length_toList] at this
          rw [← Array.foldl_toList, Array.toList_zipIdx, this, hlc, h1]
        have hr' : RepL fr w (cells.take off ++ x.cells ++ cells.drop (off + size)) (v.cells.zipIdx.foldl (fun cs x => cs.setIfInBounds (off + x.2) x.1) arr).toList := by
          rw [hfold]; exact ((r.take off).append hc).append (r.drop _)
        obtain ⟨arr', e, hR⟩ := fill_sound h4 hr' hm (fun k y u hy hu => hv (k + 1) y u (by simpa using hy) (by simpa using hu))
        refine ⟨arr', ?_, hR⟩
        unfold Instr.fill
        simp only [hp]
        rw [if_neg (by simp; omega)]
        exact e

/-- Operands of parts. -/
def partsA (S : St) : List (Nat × Operand) → Prop × Option (List (Nat × PV))
  | [] => (True, some [])
  | (i, x) :: rest =>
    match toP (unG (S.ev x)).2, (partsA S rest).2 with
    | some y, some l => ((unG (S.ev x)).1 ∧ (partsA S rest).1, some ((i, y) :: l))
    | _, _ => (False, none)
theorem partsA_sound [Gi] {E : Ent} {S : St} {g : Gh} {a : Act} {w : World} (hS : SR E S g a w) : ∀ {ps : List (Nat × Operand)} {l : List (Nat × PV)}, (partsA S ps).1 → (partsA S ps).2 = some l →
    l.map (·.1) = (ps.map fun x => (x.1, a.eval x.2)).map (·.1) ∧ ∀ (i : Nat) (x : Nat × PV) (v : Nat × Value), l[i]? = some x → (ps.map fun x => (x.1, a.eval x.2))[i]? = some v → RepP g.fr w x.2 v.2
  | [], l, h, e => by simp only [partsA, Option.some.injEq] at e; subst e; simp
  | (i, x) :: rest, l, h, e => by
    unfold partsA at h e
    split at h
    · rename_i y l' h1 h2
      simp only [h1, h2, Option.some.injEq] at e
      subst e
      obtain ⟨ih1, ih2⟩ := partsA_sound hS h.2 h2
      refine ⟨by simp [ih1], fun j z v hz hv => ?_⟩
      cases j with
      | zero =>
        simp at hz hv
        subst hz; subst hv
        exact toP_spec h1 (unG_spec h.1 (hS.ev x))
      | succ j => exact ih2 j z v (by simpa using hz) (by simpa using hv)
    · exact h.elim

/-! Parts that are no pure values (addresses, slices of the frame's own). -/
def RC (g : Gh) (w : World) (cs : List AV) (vs : List Value) : Prop := RepAL g w cs vs ∧ ∀ u ∈ vs, u.oneCell' = true
theorem RepAL.len {g : Gh} {w : World} : ∀ {cs : List AV} {vs : List Value}, RepAL g w cs vs → vs.length = cs.length
  | [], vs, r => by simp only [RepAL] at r; subst r; rfl
  | c :: cs, vs, r => by simp only [RepAL] at r; obtain ⟨v, vs', rfl, _, r⟩ := r; simp [RepAL.len r]
theorem RepAL.take {g : Gh} {w : World} : ∀ {cs : List AV} {vs : List Value} (n : Nat), RepAL g w cs vs → RepAL g w (cs.take n) (vs.take n)
  | [], vs, n, r => by simp only [RepAL] at r; subst r; simp [RepAL]
  | c :: cs, vs, 0, r => by simp [RepAL]
  | c :: cs, vs, n + 1, r => by
    simp only [RepAL] at r
    obtain ⟨v, vs', rfl, h2, r⟩ := r
    simp only [List.take_succ_cons, RepAL]
    exact ⟨v, _, rfl, h2, r.take n⟩
theorem RepAL.drop {g : Gh} {w : World} : ∀ {cs : List AV} {vs : List Value} (n : Nat), RepAL g w cs vs → RepAL g w (cs.drop n) (vs.drop n)
  | [], vs, n, r => by simp only [RepAL] at r; subst r; simp [RepAL]
  | c :: cs, vs, 0, r => by simpa using r
  | c :: cs, vs, n + 1, r => by
    simp only [RepAL] at r
    obtain ⟨v, vs', rfl, h2, r⟩ := r
    simpa using r.drop n
theorem RepAL.append {g : Gh} {w : World} : ∀ {cs ds : List AV} {vs us : List Value}, RepAL g w cs vs → RepAL g w ds us → RepAL g w (cs ++ ds) (vs ++ us)
  | [], ds, vs, us, r, r' => by simp only [RepAL] at r; subst r; simpa using r'
  | c :: cs, ds, vs, us, r, r' => by
    simp only [RepAL] at r
    obtain ⟨v, vs', rfl, h2, r⟩ := r
    simp only [List.cons_append, RepAL]
    exact ⟨v, _, rfl, h2, r.append r'⟩
theorem RepL.toRC {g : Gh} {w : World} : ∀ {cs : List PV} {vs : List Value}, RepL g.fr w cs vs → RC g w (cs.map .p) vs
  | [], vs, r => by simp only [RepL] at r; subst r; exact ⟨by simp [RepAL], by simp⟩
  | c :: cs, vs, r => by
    simp only [RepL] at r
    obtain ⟨v, vs', rfl, h1, h2, r⟩ := r
    obtain ⟨h3, h4⟩ := RepL.toRC r
    refine ⟨?_, fun u hu => ?_⟩
    · simp only [List.map_cons, RepAL]; exact ⟨v, vs', rfl, by simp only [RepA]; exact h2, h3⟩
    · rcases List.mem_cons.1 hu with rfl | hu
      · exact h1
      · exact h4 u hu
theorem cells_of_one' {v : Value} (h : v.oneCell' = true) : v.cells = #[v] := by cases v <;> first | rfl | cases h
/-- The cells of a part. -/
def partC : AV → Prop × Option (List AV)
  | .p x => (x.fits = true, some (x.cells.map .p))
  | .os t z es => (True, some [.os t z es])
  | .lp t o => (True, some [.lp t o])
  | .la t z o n => (True, some [.la t z o n])
  | .ag cs => (True, some cs)
  | _ => (False, none)
theorem partC_sound {g : Gh} {w : World} {x : AV} {cs : List AV} {v : Value} (h : (partC x).1) (e : (partC x).2 = some cs) (r : RepA g w x v) : RC g w cs v.cells.toList := by
  cases x with
  | p x => simp only [partC, Option.some.injEq] at h e; subst e; simp only [RepA] at r; exact (r.cells h).toRC
  | os t z es =>
    simp only [partC, Option.some.injEq] at e; subst e
    have r' := r
    simp only [RepA] at r'
    have h1 := RepP.one (x := .sl z es) rfl r'.1
    rw [cells_of_one' h1]
    exact ⟨by simp only [RepAL]; exact ⟨_, [], rfl, r, rfl⟩, by simpa using h1⟩
  | lp t o =>
    simp only [partC, Option.some.injEq] at e; subst e
    have r' := r
    simp only [RepA] at r'; obtain ⟨b, _, rfl⟩ := r'
    exact ⟨by simp only [Value.cells, RepAL]; exact ⟨_, [], rfl, r, rfl⟩, by simp [Value.cells, Value.oneCell']⟩
  | la t z o n =>
    simp only [partC, Option.some.injEq] at e; subst e
    have r' := r
    simp only [RepA] at r'; obtain ⟨b, o', cap, _, rfl, _⟩ := r'
    exact ⟨by simp only [Value.cells, RepAL]; exact ⟨_, [], rfl, r, rfl⟩, by simp [Value.cells, Value.oneCell']⟩
  | ag cs' =>
    simp only [partC, Option.some.injEq] at e; subst e
    simp only [RepA] at r
    obtain ⟨vs, rfl, h1, r⟩ := r
    exact ⟨r, h1⟩
  | _ => simp only [partC] at h
def partsG (S : St) : List (Nat × Operand) → Prop × Option (List (Nat × List AV))
  | [] => (True, some [])
  | (i, x) :: rest =>
    match (partC (unG (S.ev x)).2).2, (partsG S rest).2 with
    | some y, some l => ((unG (S.ev x)).1 ∧ (partC (unG (S.ev x)).2).1 ∧ (partsG S rest).1, some ((i, y) :: l))
    | _, _ => (False, none)
theorem partsG_sound [Gi] {E : Ent} {S : St} {g : Gh} {a : Act} {w : World} (hS : SR E S g a w) : ∀ {ps : List (Nat × Operand)} {l : List (Nat × List AV)}, (partsG S ps).1 → (partsG S ps).2 = some l →
    l.map (·.1) = (ps.map fun x => (x.1, a.eval x.2)).map (·.1) ∧ ∀ (i : Nat) (x : Nat × List AV) (v : Nat × Value), l[i]? = some x → (ps.map fun x => (x.1, a.eval x.2))[i]? = some v → RC g w x.2 v.2.cells.toList
  | [], l, h, e => by simp only [partsG, Option.some.injEq] at e; subst e; simp
  | (i, x) :: rest, l, h, e => by
    unfold partsG at h e
    split at h
    · rename_i y l' h1 h2
      simp only [h1, h2, Option.some.injEq] at e
      subst e
      obtain ⟨ih1, ih2⟩ := partsG_sound hS h.2.2 h2
      refine ⟨by simp [ih1], fun j z v hz hv => ?_⟩
      cases j with
      | zero =>
        simp at hz hv
        subst hz; subst hv
        exact partC_sound h.2.1 h1 (unG_spec h.1 (hS.ev x))
      | succ j => exact ih2 j z v (by simpa using hz) (by simpa using hv)
    · exact h.elim
def fillG (place : Nat → Option (Nat × Nat)) (cells : List AV) : List (Nat × List AV) → Prop × List AV
  | [] => (True, cells)
  | (i, x) :: rest =>
    match place i with
    | none => (False, cells)
    | some (off, size) =>
      let r := fillG place (cells.take off ++ x ++ cells.drop (off + size)) rest
      ((x.length = size ∧ off + size ≤ cells.length) ∧ r.1, r.2)
theorem fillG_sound {g : Gh} {w : World} {place : Nat → Option (Nat × Nat)} : ∀ {parts : List (Nat × List AV)} {vparts : List (Nat × Value)} {cells : List AV} {arr : Array Value},
    (fillG place cells parts).1 → RC g w cells arr.toList → parts.map (·.1) = vparts.map (·.1) → (∀ (i : Nat) (x : Nat × List AV) (v : Nat × Value), parts[i]? = some x → vparts[i]? = some v → RC g w x.2 v.2.cells.toList) →
    ∃ arr', Instr.fill place arr vparts = some arr' ∧ RC g w (fillG place cells parts).2 arr'.toList
  | [], vparts, cells, arr, _, r, hm, _ => by
    cases vparts with
    | nil => exact ⟨arr, rfl, r⟩
    | cons v vs => simp at hm
  | (i, x) :: rest, vparts, cells, arr, h, r, hm, hv => by
    cases vparts with
    | nil => simp at hm
    | cons vp vrest =>
      obtain ⟨j, v⟩ := vp
      simp only [List.map_cons, List.cons.injEq] at hm
      obtain ⟨hij, hm⟩ := hm
      subst hij
      unfold fillG at h ⊢
      cases hp : place i with
      | none => simp only [hp] at h
      | some os =>
        obtain ⟨off, size⟩ := os
        simp only [hp] at h ⊢
        obtain ⟨⟨h1, h2⟩, h4⟩ := h
        have hc := hv 0 (i, x) (i, v) rfl rfl
        simp only [] at hc
        have hlc := hc.1.len
        have hla := r.1.len
        simp only [Array.length_toList] at hlc hla
        have hfold : (v.cells.zipIdx.foldl (fun cs x => cs.setIfInBounds (off + x.2) x.1) arr).toList = arr.toList.take off ++ v.cells.toList ++ arr.toList.drop (off + size) := by
          have := foldl_set off v.cells.toList 0 arr (by simp; omega)
          simp only [Nat.add_zero, Array.length_toList] at this
          rw [← Array.foldl_toList, Array.toList_zipIdx, this, hlc, h1]
        have hr' : RC g w (cells.take off ++ x ++ cells.drop (off + size)) (v.cells.zipIdx.foldl (fun cs x => cs.setIfInBounds (off + x.2) x.1) arr).toList := by
          rw [hfold]
          refine ⟨((r.1.take off).append hc.1).append (r.1.drop _), fun u hu => ?_⟩
          rcases List.mem_append.1 hu with hu | hu
          · rcases List.mem_append.1 hu with hu | hu
            · exact r.2 u (List.mem_of_mem_take hu)
            · exact hc.2 u hu
          · exact r.2 u (List.mem_of_mem_drop hu)
        obtain ⟨arr', e, hR⟩ := fillG_sound h4 hr' hm (fun k y u hy hu => hv (k + 1) y u (by simpa using hy) (by simpa using hu))
        refine ⟨arr', ?_, hR⟩
        unfold Instr.fill
        simp only [hp]
        rw [if_neg (by simp; omega)]
        exact e

def isOw : AV → Bool
  | .os _ _ _ => true
  | _ => false
/-- Parts that hold a slice of one's own are kept as such. -/
def partsB (S : St) (ps : List (Nat × Operand)) : Prop × Option (List (Nat × PV)) := if ps.any fun x => isOw (unG (S.ev x.2)).2 then (True, none) else partsA S ps
theorem partsB_some {S : St} {ps : List (Nat × Operand)} {c : Prop} {l : List (Nat × PV)} (h : partsB S ps = (c, some l)) : partsA S ps = (c, some l) := by
  unfold partsB at h
  split at h
  · cases h
  · exact h
def buildA (P : Program) (S : St) (T : TypeId) (parts : List (Nat × Operand)) : PR :=
  match ty P T, partsB S parts with
  | some ⟨.struct _, _, _, some z⟩, (c, some l) =>
    match places P T with
    | some ps => ((c ∧ z.all PV.one = true) ∧ (fillL (ps[·]?) z l).1, .p (.agg (fillL (ps[·]?) z l).2))
    | none => bad
  | some ⟨.array _ e, _, _, some z⟩, (c, some l) =>
    match ty P e with
    | some et => ((c ∧ z.all PV.one = true) ∧ (fillL (fun i => some (i * et.size, et.size)) z l).1, .p (.agg (fillL (fun i => some (i * et.size, et.size)) z l).2))
    | none => bad
  | some ⟨.struct _, _, _, some z⟩, (_, none) =>
    match places P T, partsG S parts with
    | some ps, (c, some l) => ((c ∧ z.all PV.one = true) ∧ (fillG (ps[·]?) (z.map .p) l).1, .ag (fillG (ps[·]?) (z.map .p) l).2)
    | _, _ => bad
  | _, _ => bad
theorem run_mapM_places {P : Program} {w : World} : ∀ {fs : List Field} {l : List (Nat × Nat)}, (fs.mapM fun fd => (ty P fd.type).map fun ft => (fd.offset, ft.size)) = some l →
    (fs.mapM fun f => do pure (f.offset, ← sizeOf f.type) : Sem (List (Nat × Nat))).run P w = .ok l w
  | [], l, h => by simp at h; subst h; simp
  | f :: fs, l, h => by
    simp only [List.mapM_cons, bind, Option.bind_eq_some_iff, Option.map_eq_some_iff] at h
    obtain ⟨a, ⟨ft, h1, rfl⟩, l', h2, h3⟩ := h
    simp only [pure, Option.some.injEq] at h3
    subst h3
    have ih := run_mapM_places (w := w) h2
    simp only [List.mapM_cons, Sem.run_bind, ty_size w h1, Result.andThen_ok, Sem.run_pure, ih]
theorem buildA_sound [Gi] {P : Program} {E : Ent} {S : St} {g : Gh} {a : Act} {w : World} (hS : SR E S g a w) {T : TypeId} {parts : Array (Nat × Operand)} (h : (buildA P S T parts.toList).1) :
    ∃ u, (Instr.build T (parts.map fun x => (x.1, a.eval x.2))).run P w = .ok u w ∧ RepA g w (buildA P S T parts.toList).2 u := by
  unfold buildA at h ⊢
  split at h
  · rename_i fs sz by_ z c l hT hp0
    have hp := partsB_some hp0
    have hu := ty_underlying w hT
    simp only [] at hu
    obtain ⟨zv, hz1, hz2⟩ := ty_zero hT rfl
    cases hpl : places P T with
    | none => simp only [hpl] at h; exact h.elim
    | some ps =>
      simp only [hpl] at h ⊢
      obtain ⟨⟨hc, hall⟩, hf⟩ := h
      have hpa : (partsA S parts.toList).1 := by rw [hp]; exact hc
      have hpb : (partsA S parts.toList).2 = some l := by rw [hp]
      obtain ⟨h1, h2⟩ := partsA_sound hS hpa hpb
      have hz : RepL g.fr w z zv.cells.toList := RepL.of_map hz2 hall
      obtain ⟨arr', e, hR⟩ := fill_sound hf hz h1 h2
      refine ⟨.agg arr', ?_, by simp only [RepA, RepP]; exact ⟨_, rfl, hR⟩⟩
      unfold places at hpl
      simp only [hT] at hpl
      have hm := run_mapM_places (w := w) hpl
      have hm' : (fs.mapM fun f => do pure (f.offset, ← sizeOf f.type) : Sem (Array (Nat × Nat))).run P w = .ok ps.toArray w := by
        rw [Array.mapM_eq_mapM_toList, Sem.run_map, hm]; rfl
      unfold Instr.build
      simp only [Sem.run_bind, hz1, Result.andThen_ok, hu, hm', Array.toList_map]
      have e' : Instr.fill (fun x : Nat => ps.toArray[x]?) zv.cells (List.map (fun x => (x.fst, a.eval x.snd)) parts.toList) = some arr' := by
        have : (fun x : Nat => ps.toArray[x]?) = (fun x : Nat => ps[x]?) := by funext x; simp
        rw [this]; exact e
      rw [e']
      rfl
  · rename_i len el sz by_ z c l hT hp0
    have hp := partsB_some hp0
    have hu := ty_underlying w hT
    simp only [] at hu
    obtain ⟨zv, hz1, hz2⟩ := ty_zero hT rfl
    cases het : ty P el with
    | none => simp only [het] at h; exact h.elim
    | some et =>
      simp only [het] at h ⊢
      obtain ⟨⟨hc, hall⟩, hf⟩ := h
      have hpa : (partsA S parts.toList).1 := by rw [hp]; exact hc
      have hpb : (partsA S parts.toList).2 = some l := by rw [hp]
      obtain ⟨h1, h2⟩ := partsA_sound hS hpa hpb
      have hz : RepL g.fr w z zv.cells.toList := RepL.of_map hz2 hall
      obtain ⟨arr', e, hR⟩ := fill_sound hf hz h1 h2
      refine ⟨.agg arr', ?_, by simp only [RepA, RepP]; exact ⟨_, rfl, hR⟩⟩
      unfold Instr.build
      simp only [Sem.run_bind, hz1, Result.andThen_ok, hu, ty_size w het, Array.toList_map]
      rw [e]
      rfl
  · rename_i fs sz by_ z c hT hp
    have hu := ty_underlying w hT
    simp only [] at hu
    obtain ⟨zv, hz1, hz2⟩ := ty_zero hT rfl
    cases hpl : places P T with
    | none => simp only [hpl] at h; exact h.elim
    | some ps =>
      rcases hpg : partsG S parts.toList with ⟨c', l'⟩
      cases l' with
      | none => simp only [hpl, hpg] at h; exact h.elim
      | some l =>
        simp only [hpl, hpg] at h ⊢
        obtain ⟨⟨hc, hall⟩, hf⟩ := h
        have hpa : (partsG S parts.toList).1 := by rw [hpg]; exact hc
        have hpb : (partsG S parts.toList).2 = some l := by rw [hpg]
        obtain ⟨h1, h2⟩ := partsG_sound hS hpa hpb
        have hz : RC g w (z.map .p) zv.cells.toList := RepL.toRC (RepL.of_map hz2 hall)
        obtain ⟨arr', e, hR⟩ := fillG_sound hf hz h1 h2
        refine ⟨.agg arr', ?_, by simp only [RepA]; exact ⟨_, rfl, hR.2, hR.1⟩⟩
        unfold places at hpl
        simp only [hT] at hpl
        have hm := run_mapM_places (w := w) hpl
        have hm' : (fs.mapM fun f => do pure (f.offset, ← sizeOf f.type) : Sem (Array (Nat × Nat))).run P w = .ok ps.toArray w := by
          rw [Array.mapM_eq_mapM_toList, Sem.run_map, hm]; rfl
        unfold Instr.build
        simp only [Sem.run_bind, hz1, Result.andThen_ok, hu, hm', Array.toList_map]
        have e' : Instr.fill (fun x : Nat => ps.toArray[x]?) zv.cells (List.map (fun x => (x.fst, a.eval x.snd)) parts.toList) = some arr' := by
          have : (fun x : Nat => ps.toArray[x]?) = (fun x : Nat => ps[x]?) := by funext x; simp
          rw [this]; exact e
        rw [e']
        rfl
  · exact h.elim

end Go.AM

/- A part of the proof of this seat's statements, by an abstract machine: what each operation does to values, proved over the model, whatever the program. No condition beyond those that stand. -/
import Derived.Test.YtlmejofikpnbpaaDoorAmI
import Derived.ChangeKeysEq
namespace Go.AM
/-! ### Structs compared -/
inductive Kc where
  | b
  | i (k : IntKind)
  | s
def okC : List Kc → List PV → Bool
  | [], [] => true
  | .b :: ks, .bool _ :: xs => okC ks xs
  | .i k :: ks, .int k' _ :: xs => decide (k' = k) && okC ks xs
  | .s :: ks, .str _ :: xs => okC ks xs
  | _, _ => false
def eqC : List PV → List PV → Bool
  | .bool a :: xs, .bool b :: ys => (a == b) && eqC xs ys
  | .int _ a :: xs, .int _ b :: ys => decide (a = b) && eqC xs ys
  | .str a :: xs, .str b :: ys => decide (a = b) && eqC xs ys
  | _, _ => true
theorem okC_len : ∀ {ks : List Kc} {xs : List PV}, okC ks xs = true → xs.length = ks.length
  | [], [], _ => rfl
  | [], _ :: _, h => by simp [okC] at h
  | .b :: ks, [], h => by simp [okC] at h
  | .i _ :: ks, [], h => by simp [okC] at h
  | .s :: ks, [], h => by simp [okC] at h
  | .b :: ks, x :: xs, h => by
    cases x <;> simp [okC] at h
    simp [okC_len h]
  | .i k :: ks, x :: xs, h => by
    cases x <;> simp [okC] at h
    simp [okC_len h.2]
  | .s :: ks, x :: xs, h => by
    cases x <;> simp [okC] at h
    simp [okC_len h]
theorem okC_app : ∀ {k1 k2 : List Kc} {xs : List PV}, okC (k1 ++ k2) xs = true → okC k1 (xs.take k1.length) = true ∧ okC k2 (xs.drop k1.length) = true
  | [], k2, xs, h => by simpa [okC] using h
  | k :: k1, k2, [], h => by cases k <;> simp [okC] at h
  | .b :: k1, k2, x :: xs, h => by
    cases x <;> simp [okC] at h
    simpa [okC] using okC_app h
  | .i _ :: k1, k2, x :: xs, h => by
    cases x <;> simp [okC] at h
    have := okC_app h.2
    simpa [okC, h.1] using this
  | .s :: k1, k2, x :: xs, h => by
    cases x <;> simp [okC] at h
    simpa [okC] using okC_app h
theorem eqC_app : ∀ {ks : List Kc} {x1 y1 x2 y2 : List PV}, okC ks x1 = true → okC ks y1 = true → eqC (x1 ++ x2) (y1 ++ y2) = (eqC x1 y1 && eqC x2 y2)
  | [], [], [], x2, y2, _, _ => by simp [eqC]
  | [], _ :: _, _, _, _, h, _ => by simp [okC] at h
  | [], [], _ :: _, _, _, _, h => by simp [okC] at h
  | .b :: ks, [], _, _, _, h, _ => by simp [okC] at h
  | .i _ :: ks, [], _, _, _, h, _ => by simp [okC] at h
  | .s :: ks, [], _, _, _, h, _ => by simp [okC] at h
  | .b :: ks, _ :: _, [], _, _, _, h => by simp [okC] at h
  | .i _ :: ks, _ :: _, [], _, _, _, h => by simp [okC] at h
  | .s :: ks, _ :: _, [], _, _, _, h => by simp [okC] at h
  | .b :: ks, x :: xs, y :: ys, x2, y2, h, k => by
    cases x <;> simp [okC] at h
    cases y <;> simp [okC] at k
    simp only [List.cons_append, eqC, eqC_app h k, Bool.and_assoc]
  | .i _ :: ks, x :: xs, y :: ys, x2, y2, h, k => by
    cases x <;> simp [okC] at h
    cases y <;> simp [okC] at k
    simp only [List.cons_append, eqC, eqC_app h.2 k.2, Bool.and_assoc]
  | .s :: ks, x :: xs, y :: ys, x2, y2, h, k => by
    cases x <;> simp [okC] at h
    cases y <;> simp [okC] at k
    simp only [List.cons_append, eqC, eqC_app h k, Bool.and_assoc]
/-- The kinds of a struct's fields, one behind the other. -/
def kindsF (P : Program) (rec : TypeId → Option (List Kc)) : List Field → Nat → Option (List Kc)
  | [], _ => some []
  | f :: fs, o =>
    match rec f.type, ty P f.type with
    | some a, some T =>
      if f.name ≠ "_" ∧ f.offset = o ∧ T.size = a.length ∧ (isAggD T.desc || a.length == 1) = true then (kindsF P rec fs (o + a.length)).map (a ++ ·) else none
    | _, _ => none
/-- The kinds of a type's cells: bools, ints, strings alone. -/
def kindsIn (P : Program) : Nat → TypeId → Option (List Kc)
  | 0, _ => none
  | d + 1, t =>
    match P.underlying t with
    | some .bool => some [.b]
    | some (.int k) => some [.i k]
    | some .string => some [.s]
    | some (.struct fs) => if P.stoodInHeld t then none else kindsF P (kindsIn P d) fs.toList 0
    | _ => none
def kindsOf (P : Program) (t : TypeId) : Option (List Kc) := if P.eqGuardType P.depth t then none else match P.underlying t with
  | some (.struct _) => kindsIn P 8 t
  | _ => none
/-- How a value of a type stands in its cells. -/
def Stands (P : Program) (t : TypeId) (v : Value) (cs : List Value) : Prop := ∀ T, ty P t = some T → if isAggD T.desc then v = .agg cs.toArray else cs = [v]
section
variable {P : Program} {fr : Nat → Nat} {w : World}
theorem kinds_fields {d : Nat} {rec : TypeId → Option (List Kc)} {u v : Array Value}
    (hrec : ∀ (t : TypeId) (ks : List Kc) (xs ys : List PV) (a b : Value) (cs ds : List Value), rec t = some ks → okC ks xs = true → okC ks ys = true → RepL fr w xs cs → RepL fr w ys ds → Stands P t a cs → Stands P t b ds →
      (Op.equalIn d t a b).run P w = .ok (eqC xs ys) w) :
    ∀ {fs : List Field} {o : Nat} {ks : List Kc} {xs ys : List PV}, kindsF P rec fs o = some ks → okC ks xs = true → okC ks ys = true → RepL fr w xs (u.toList.drop o) → RepL fr w ys (v.toList.drop o) →
      (Op.eqFields d u v fs).run P w = .ok (eqC xs ys) w
  | [], o, ks, xs, ys, hk, hx, hy, _, _ => by
    simp only [kindsF, Option.some.injEq] at hk
    subst hk
    have := okC_len hx
    have h2 := okC_len hy
    have hx0 : xs = [] := List.eq_nil_of_length_eq_zero (by simpa using this)
    subst hx0
    simp [Op.eqFields, eqC]
  | f :: fs, o, ks, xs, ys, hk, hx, hy, rx, ry => by
    unfold kindsF at hk
    split at hk
    · rename_i a T ha hT
      split at hk
      · rename_i hc
        obtain ⟨hn, ho, hs, h1'⟩ := hc
        simp only [Option.map_eq_some_iff] at hk
        obtain ⟨b, hb, rfl⟩ := hk
        obtain ⟨x1, x2⟩ := okC_app hx
        obtain ⟨y1, y2⟩ := okC_app hy
        have part1 : ∀ (z : Array Value) (zs : List PV), okC a (zs.take a.length) = true → RepL fr w zs (z.toList.drop o) → ∃ p, (part f.type z f.offset).run P w = .ok p w ∧ Stands P f.type p ((z.toList.drop o).take a.length) := by
          intro z zs hz rz
          rw [ho]
          have hlz := okC_len hz
          have hlen := RepL.length rz
          unfold part
          rw [Sem.run_bind, ty_agg w hT]
          cases hA : isAggD T.desc with
          | true =>
            refine ⟨.agg (z.extract o (o + T.size)), by simp [ty_size w hT], ?_⟩
            intro T' hT'
            rw [hT] at hT'; injection hT' with hT'; subst hT'
            rw [if_pos hA, hs]
            congr 1
            apply Array.ext'
            simp
          | false =>
            have h1 : a.length = 1 := by simpa [hA] using h1'
            rw [h1] at hlz ⊢
            have hl1 : 0 < zs.length := by
              rw [List.length_take] at hlz
              have : [].length = 0 := (rfl : ([] : List Nat).length = 0)
              omega
            obtain ⟨c, hc, _⟩ := rz.get (i := 0) (x := zs[0]) (List.getElem?_eq_getElem hl1)
            have hc' : z[o]? = some c := by simpa using hc
            refine ⟨c, by simp [hc'], ?_⟩
            intro T' hT'
            rw [hT] at hT'; injection hT' with hT'; subst hT'
            rw [if_neg (by simp [hA])]
            cases hd : z.toList.drop o with
            | nil => rw [hd] at hc; simp at hc
            | cons e es =>
              rw [hd] at hc
              simp at hc
              subst hc
              simp
        obtain ⟨p, hp, sp⟩ := part1 u xs x1 rx
        obtain ⟨q, hq, sq⟩ := part1 v ys y1 ry
        have e1 := hrec f.type a _ _ p q _ _ ha x1 y1 (rx.take _) (ry.take _) sp sq
        have hxs : xs = xs.take a.length ++ xs.drop a.length := (List.take_append_drop _ _).symm
        have hys : ys = ys.take a.length ++ ys.drop a.length := (List.take_append_drop _ _).symm
        have e2 := kinds_fields hrec (u := u) (v := v) hb x2 y2 (by simpa [List.drop_drop] using rx.drop a.length) (by simpa [List.drop_drop] using ry.drop a.length)
        unfold Op.eqFields
        rw [if_pos hn]
        simp only [Sem.run_bind, hp, hq, e1, Result.andThen_ok]
        have e3 : eqC xs ys = (eqC (xs.take a.length) (ys.take a.length) && eqC (xs.drop a.length) (ys.drop a.length)) := by
          rw [← eqC_app x1 y1, ← hxs, ← hys]
        rw [e3]
        cases eqC (xs.take a.length) (ys.take a.length)
        · simp
        · simpa using e2
      · cases hk
    · cases hk
theorem beq_dec {α : Type} [BEq α] [LawfulBEq α] [DecidableEq α] (p q : α) : (p == q) = decide (p = q) := by by_cases e : p = q <;> simp [e]
theorem kinds_eq : ∀ (d m : Nat) (t : TypeId) (ks : List Kc) (xs ys : List PV) (a b : Value) (cs ds : List Value), kindsIn P m t = some ks → okC ks xs = true → okC ks ys = true → RepL fr w xs cs → RepL fr w ys ds → Stands P t a cs → Stands P t b ds →
      (Op.equalIn (d + m) t a b).run P w = .ok (eqC xs ys) w
  | d, 0, t, ks, xs, ys, a, b, cs, ds, hk, _, _, _, _, _, _ => by simp [kindsIn] at hk
  | d, m + 1, t, ks, xs, ys, a, b, cs, ds, hk, hx, hy, rx, ry, sa, sb => by
    unfold kindsIn at hk
    have one : ∀ {T : TypeDesc} {v : Value} {zs : List Value}, P.underlying t = some T → isAggD T = false → Stands P t v zs → zs = [v] ∨ P.info? t = none := by
      intro T v zs hu hA sv
      cases hi : P.info? t with
      | none => exact .inr rfl
      | some i =>
        left
        have := sv ⟨T, i.size, i.bytes, i.zero.map fun v => v.cells.toList.map toPV⟩ (by simp [ty, hi, hu])
        simpa [hA] using this
    have noinfo : ∀ {T : TypeDesc}, P.underlying t = some T → P.info? t ≠ none := fun hu hi => by
      obtain ⟨i, hi'⟩ := info_of_underlying hu
      rw [hi] at hi'; cases hi'
    split at hk
    · rename_i hu
      injection hk with hk; subst hk
      have ea := (one hu rfl sa).resolve_right (noinfo hu)
      have eb := (one hu rfl sb).resolve_right (noinfo hu)
      subst ea; subst eb
      match xs, ys, hx, hy with
      | [x], [y], hx, hy =>
        cases x <;> simp [okC] at hx
        cases y <;> simp [okC] at hy
        simp only [RepL, RepP] at rx ry
        obtain ⟨_, _, e, _, rfl, _⟩ := rx
        injection e with e _; subst e
        obtain ⟨_, _, e, _, rfl, _⟩ := ry
        injection e with e _; subst e
        rw [show d + (m + 1) = (d + m) + 1 from rfl, run_equalIn_bool' w (d + m) t _ _ hu]
        simp [eqC]
      | [], _, hx, _ => simp [okC] at hx
      | _, [], _, hy => simp [okC] at hy
      | x :: _ :: _, _, hx, _ => cases x <;> simp [okC] at hx
      | _, y :: _ :: _, _, hy => cases y <;> simp [okC] at hy
    · rename_i k hu
      injection hk with hk; subst hk
      have ea := (one hu rfl sa).resolve_right (noinfo hu)
      have eb := (one hu rfl sb).resolve_right (noinfo hu)
      subst ea; subst eb
      match xs, ys, hx, hy with
      | [x], [y], hx, hy =>
        cases x <;> simp [okC] at hx
        cases y <;> simp [okC] at hy
        subst hx; subst hy
        simp only [RepL, RepP] at rx ry
        obtain ⟨_, _, e, _, rfl, _⟩ := rx
        injection e with e _; subst e
        obtain ⟨_, _, e, _, rfl, _⟩ := ry
        injection e with e _; subst e
        rw [show d + (m + 1) = (d + m) + 1 from rfl, run_equalIn_int w (d + m) t _ _ _ _ hu]
        rw [beq_dec]
        simp [eqC]
      | [], _, hx, _ => simp [okC] at hx
      | _, [], _, hy => simp [okC] at hy
      | x :: _ :: _, _, hx, _ => cases x <;> simp [okC] at hx
      | _, y :: _ :: _, _, hy => cases y <;> simp [okC] at hy
    · rename_i hu
      injection hk with hk; subst hk
      have ea := (one hu rfl sa).resolve_right (noinfo hu)
      have eb := (one hu rfl sb).resolve_right (noinfo hu)
      subst ea; subst eb
      match xs, ys, hx, hy with
      | [x], [y], hx, hy =>
        cases x <;> simp [okC] at hx
        cases y <;> simp [okC] at hy
        simp only [RepL, RepP] at rx ry
        obtain ⟨_, _, e, _, rfl, _⟩ := rx
        injection e with e _; subst e
        obtain ⟨_, _, e, _, rfl, _⟩ := ry
        injection e with e _; subst e
        rw [show d + (m + 1) = (d + m) + 1 from rfl, run_equalIn_string w (d + m) t _ _ hu]
        rw [beq_dec]
        simp [eqC, ByteArray.toList_eq]
      | [], _, hx, _ => simp [okC] at hx
      | _, [], _, hy => simp [okC] at hy
      | x :: _ :: _, _, hx, _ => cases x <;> simp [okC] at hx
      | _, y :: _ :: _, _, hy => cases y <;> simp [okC] at hy
    · rename_i fs hu
      split at hk
      · cases hk
      · rename_i hs
        obtain ⟨i, hi⟩ := info_of_underlying hu
        have ea := sa ⟨.struct fs, i.size, i.bytes, i.zero.map fun v => v.cells.toList.map toPV⟩ (by simp [ty, hi, hu])
        have eb := sb ⟨.struct fs, i.size, i.bytes, i.zero.map fun v => v.cells.toList.map toPV⟩ (by simp [ty, hi, hu])
        simp only [isAggD, if_true] at ea eb
        subst ea; subst eb
        have hfs : P.fieldsOf t = fs := by simp [Program.fieldsOf, hu]
        rw [show d + (m + 1) = (d + m) + 1 from rfl, run_equalIn_struct w (d + m) t _ _ (by rw [hfs]; exact hu) (by simpa using hs), hfs]
        exact kinds_fields (fun t ks xs ys a b cs ds h1 h2 h3 h4 h5 h6 h7 => kinds_eq d m t ks xs ys a b cs ds h1 h2 h3 h4 h5 h6 h7) hk hx hy (by simpa using rx) (by simpa using ry)
    · cases hk
end
/-- Two structs compared. -/
def binSS (P : Program) (op : BinOp) (t : TypeId) (xs ys : List PV) : PR :=
  match kindsOf P t with
  | some ks =>
    match op with
    | .eql => ((okC ks xs = true ∧ okC ks ys = true), .p (.bool (eqC xs ys)))
    | .neq => ((okC ks xs = true ∧ okC ks ys = true), .p (.bool (!eqC xs ys)))
    | _ => bad
  | none => bad
def binE (P : Program) (op : BinOp) (t : TypeId) (x y : AV) : PR :=
  match x, y with
  | .p (.agg xs), .p (.agg ys) => binSS P op t xs ys
  | x, y => binA P op t x y
theorem binE_sound {P : Program} {op : BinOp} {t : TypeId} {x y : AV} {g : Gh} {w : World} {u v : Value} (xo yo : Operand) (h : (binE P op t x y).1)
    (hx : RepA g w x u) (hy : RepA g w y v) :
    ∃ r, (do eqGuard op t xo yo u v; binOp op t u v : Sem Value).run P w = .ok r w ∧ RepA g w (binE P op t x y).2 r := by
  unfold binE at h ⊢
  split at h
  · rename_i xs ys
    simp only [RepA, RepP] at hx hy
    obtain ⟨p, rfl, rx⟩ := hx
    obtain ⟨q, rfl, ry⟩ := hy
    unfold binSS at h ⊢
    cases hk : kindsOf P t with
    | none => rw [hk] at h; exact h.elim
    | some ks =>
      rw [hk] at h
      simp only [] at h ⊢
      unfold kindsOf at hk
      split at hk
      · cases hk
      · rename_i hg
        cases hu : P.underlying t with
        | none => rw [hu] at hk; cases hk
        | some T =>
        rw [hu] at hk
        cases T <;> simp only [reduceCtorEq] at hk
        rename_i fs
        have st : ∀ (z : Array Value), Stands P t (.agg z) z.toList := by
          intro z T hT
          obtain ⟨i, _, h2, _⟩ := ty_spec hT
          rw [h2] at hu
          injection hu with hu
          rw [hu]
          rfl
        have eqn : (eqGuard op t xo yo (.agg p) (.agg q)).run P w = .ok () w := run_eqGuard_agg w op t xo yo p q (by simpa using hg)
        have run : okC ks xs = true → okC ks ys = true → (Op.equalIn 10000 t (.agg p) (.agg q)).run P w = .ok (eqC xs ys) w := fun h1 h2 =>
          kinds_eq 9992 8 t ks xs ys (.agg p) (.agg q) p.toList q.toList hk h1 h2 rx ry (st p) (st q)
        cases op <;> simp only [] at h ⊢ <;> first
          | exact h.elim
          | (refine ⟨_, ?_, by simp only [RepA, RepP]; rfl⟩
             rw [Sem.run_bind, eqn]
             simp only [Result.andThen_ok]
             rw [run_eql_struct, run h.1 h.2]
             rfl)
          | (refine ⟨_, ?_, by simp only [RepA, RepP]; rfl⟩
             rw [Sem.run_bind, eqn]
             simp only [Result.andThen_ok]
             rw [run_neq_struct, run h.1 h.2]
             rfl)
  · exact binA_sound xo yo h hx hy
end Go.AM

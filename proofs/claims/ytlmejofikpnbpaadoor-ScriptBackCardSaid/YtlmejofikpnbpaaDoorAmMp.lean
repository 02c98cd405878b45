/- A part of the proof of this seat's statements, by an abstract machine: what each operation does to values, proved over the model, whatever the program. No condition beyond those that stand. -/
import Derived.Test.YtlmejofikpnbpaaDoorAmLk
import Derived.MapKept
namespace Go.AM
/-! ### Maps -/
/-- Looked for among keys: where, and what is there. -/
def findP (key : List PV) : List PV → List PV → Nat → Option (Nat × PV)
  | .agg ys :: ks, x :: xs, i => if eqC key ys then some (i, x) else findP key ks xs (i + 1)
  | _, _, _ => none
def keyOK (kc : List Kc) : PV → Bool
  | .agg ys => okC kc ys
  | _ => false
theorem equal_key {P : Program} {fr : Nat → Nat} {w : World} {kt : TypeId} {ks : List Kc} (hk : kindsOf P kt = some ks) {xs ys : List PV} {p q : Array Value} (h1 : okC ks xs = true) (h2 : okC ks ys = true) (r1 : RepL fr w xs p.toList) (r2 : RepL fr w ys q.toList) :
    (Op.equal kt (.agg p) (.agg q)).run P w = .ok (eqC xs ys) w := by
  obtain ⟨h8, fs, hfs⟩ := kindsOf_spec hk
  exact kinds_eq 9992 8 kt ks xs ys (.agg p) (.agg q) p.toList q.toList h8 h1 h2 r1 r2 (stands_agg hfs p) (stands_agg hfs q)
theorem findAsking_sound {P : Program} {fr : Nat → Nat} {w : World} {kt : TypeId} {kc : List Kc} (hk : kindsOf P kt = some kc) {key : List PV} {p : Array Value} (h1 : okC kc key = true) (r1 : RepL fr w key p.toList) :
    ∀ {es : List MapEntry} {ks xs : List PV} (i : Nat), ks.all (keyOK kc) = true → RepV fr w ks (es.map (·.key)) → RepV fr w xs (es.map (·.val)) →
      ∃ r, (Instr.findAsking kt (.agg p) es i).run P w = .ok r w ∧ ((findP key ks xs i = none ∧ r = none) ∨ ∃ j x v, findP key ks xs i = some (j, x) ∧ r = some (j, v) ∧ RepP fr w x v ∧ i ≤ j ∧ xs[j - i]? = some x ∧ ∃ e, es[j - i]? = some e ∧ ∃ ys, ks[j - i]? = some (.agg ys) ∧ eqC key ys = true)
  | [], ks, xs, i, _, rk, rx => by
    cases ks with
    | nil => exact ⟨none, rfl, .inl ⟨by simp [findP], rfl⟩⟩
    | cons k ks => simp only [List.map_nil, RepV] at rk; obtain ⟨_, _, e, _⟩ := rk; cases e
  | e :: es, ks, xs, i, ho, rk, rx => by
    cases ks with
    | nil => simp only [List.map_cons, RepV] at rk; cases rk
    | cons k ks =>
      cases xs with
      | nil => simp only [List.map_cons, RepV] at rx; cases rx
      | cons x xs =>
        simp only [List.map_cons, RepV] at rk rx
        obtain ⟨kv, ks', ek, rk1, rk2⟩ := rk
        obtain ⟨xv, xs', ex, rx1, rx2⟩ := rx
        injection ek with ek1 ek2
        injection ex with ex1 ex2
        subst ek1; subst ek2; subst ex1; subst ex2
        simp only [List.all_cons, Bool.and_eq_true] at ho
        cases k <;> simp only [keyOK, Bool.false_eq_true, false_and] at ho
        rename_i ys
        have rk1' := rk1
        simp only [RepP] at rk1'
        obtain ⟨q, eq, rq⟩ := rk1'
        have he := equal_key (P := P) hk h1 ho.1 r1 rq
        unfold Instr.findAsking
        rw [eq]
        simp only [Sem.run_bind, he, Result.andThen_ok, findP]
        cases hc : eqC key ys with
        | true =>
          simp only [if_true]
          exact ⟨some (i, e.val), rfl, .inr ⟨i, x, e.val, rfl, rfl, rx1, Nat.le_refl _, by simp, e, by simp, ys, by simp, hc⟩⟩
        | false =>
          simp only [Bool.false_eq_true, if_false]
          obtain ⟨r, hr, h⟩ := findAsking_sound hk h1 r1 (es := es) (ks := ks) (xs := xs) (i + 1) ho.2 rk2 rx2
          refine ⟨r, hr, h.imp id ?_⟩
          rintro ⟨j, y, v, a1, a2, a3, a4, a5, e', a6, ys', a7, a8⟩
          have hj : j - i = (j - (i + 1)) + 1 := by omega
          exact ⟨j, y, v, a1, a2, a3, by omega, by rw [hj]; simpa using a5, e', by rw [hj]; simpa using a6, ys', by rw [hj]; simpa using a7, a8⟩
theorem findKey_sound {P : Program} {fr : Nat → Nat} {w : World} {kt : TypeId} {kc : List Kc} (hk : kindsOf P kt = some kc) {key : List PV} {p : Array Value} (h1 : okC kc key = true) (r1 : RepL fr w key p.toList)
    {es : List MapEntry} {ks xs : List PV} (ho : ks.all (keyOK kc) = true) (rk : RepV fr w ks (es.map (·.key))) (rx : RepV fr w xs (es.map (·.val))) :
      ∃ r, (Instr.findKey kt (.agg p) es).run P w = .ok r w ∧ ((findP key ks xs 0 = none ∧ r = none) ∨ ∃ j x v, findP key ks xs 0 = some (j, x) ∧ r = some (j, v) ∧ RepP fr w x v ∧ xs[j]? = some x ∧ ∃ e, es[j]? = some e ∧ ∃ ys, ks[j]? = some (.agg ys) ∧ eqC key ys = true) := by
  obtain ⟨h8, fs, hfs⟩ := kindsOf_spec hk
  unfold Instr.findKey
  simp only [Sem.run_bind, run_underlying hfs, Result.andThen_ok]
  cases es with
  | nil =>
    refine ⟨none, by simp [Instr.findNow], .inl ⟨?_, rfl⟩⟩
    cases ks with
    | nil => simp [findP]
    | cons k ks => simp only [List.map_nil, RepV] at rk; obtain ⟨_, _, e, _⟩ := rk; cases e
  | cons e es =>
    have hn : Instr.findNow (.struct fs) (.agg p) (e :: es) 0 = none := by
      simp [Instr.findNow, Instr.sameNow]
    rw [hn]
    obtain ⟨r, hr, h⟩ := findAsking_sound (P := P) hk h1 r1 (es := e :: es) 0 ho rk rx
    exact ⟨r, hr, h.imp id fun ⟨j, x, v, a1, a2, a3, _, a5, e', a6, ys, a7, a8⟩ => ⟨j, x, v, a1, a2, a3, by simpa using a5, e', by simpa using a6, ys, by simpa using a7, a8⟩⟩
/-- What is held, as keys and what they are for. -/
def mapOf : AV → Option (List PV × List PV)
  | .p (.mp ks xs) => some (ks, xs)
  | .om _ ks xs => some (ks, xs)
  | .p (.opq (.map none)) => some ([], [])
  | _ => none
theorem mapOf_spec {g : Gh} {w : World} {x : AV} {v : Value} {ks xs : List PV} (h : mapOf x = some (ks, xs)) (r : RepA g w x v) :
    (v = .map none ∧ ks = [] ∧ xs = []) ∨ ∃ b arr c, v = .map (some b) ∧ w.heap[b]? = some (.map arr c) ∧ RepV g.fr w ks (arr.toList.map (·.key)) ∧ RepV g.fr w xs (arr.toList.map (·.val)) := by
  have at_ : ∀ {b : Nat} {arr : Array MapEntry} {c : Nat}, mapAt w b = some (arr, c) → w.heap[b]? = some (.map arr c) := by
    intro b arr c h
    unfold mapAt at h
    split at h
    · rename_i e c' hb; injection h with h; injection h with h1 h2; subst h1; subst h2; exact hb
    · cases h
  unfold mapOf at h
  split at h
  · injection h with h; injection h with h1 h2; subst h1; subst h2
    simp only [RepA, RepP] at r
    obtain ⟨b, arr, c, e, _, hm, r1, r2⟩ := r
    exact .inr ⟨b, arr, c, e, at_ hm, r1, r2⟩
  · injection h with h; injection h with h1 h2; subst h1; subst h2
    simp only [RepA] at r
    obtain ⟨b, arr, c, e, _, _, hm, r1, r2⟩ := r
    exact .inr ⟨b, arr, c, e, at_ hm, r1, r2⟩
  · injection h with h; injection h with h1 h2; subst h1; subst h2
    simp only [RepA, RepP] at r
    exact .inl ⟨r, rfl, rfl⟩
  · cases h
def lookV (z : PV) : Option (Nat × PV) → PV
  | some (_, x) => x
  | none => z
/-- What a map tells. -/
def lookupA (P : Program) (T : TypeId) (x k : AV) (ok : Bool) : PR :=
  match ty P T with
  | some ⟨.map kt et, _, _, _⟩ =>
    match kindsOf P kt, zeroP P et, k, mapOf x with
    | some kc, some z, .p (.agg key), some (ks, xs) =>
      ((okC kc key = true ∧ ks.all (keyOK kc) = true), if ok then .tup [.p (lookV z (findP key ks xs 0)), .p (.bool (findP key ks xs 0).isSome)] else .p (lookV z (findP key ks xs 0)))
    | _, _, _, _ => bad
  | _ => bad
theorem lookupA_sound {P : Program} {T : TypeId} {x k : AV} {ok : Bool} {g : Gh} {w : World} {v u : Value} (h : (lookupA P T x k ok).1) (rx : RepA g w x v) (rk : RepA g w k u) :
    ∃ r, (Instr.lookup T v u ok).run P w = .ok r w ∧ RepA g w (lookupA P T x k ok).2 r := by
  unfold lookupA at h ⊢
  split at h
  · rename_i kt et sz by_ ze hT
    have hu := ty_underlying w hT
    simp only [] at hu
    split at h
    · rename_i kc z key ks xs hk hz hm
      simp only [RepA, RepP] at rk
      obtain ⟨p, rfl, rp⟩ := rk
      obtain ⟨h8, fs, hfs⟩ := kindsOf_spec hk
      obtain ⟨zv, hz1, hz2⟩ := zeroP_run hz g.fr w
      have fin : ∀ (y : Value) (b : Bool), RepP g.fr w (lookV z (findP key ks xs 0)) y → b = (findP key ks xs 0).isSome → RepA g w (if ok then AV.tup [.p (lookV z (findP key ks xs 0)), .p (.bool (findP key ks xs 0).isSome)] else .p (lookV z (findP key ks xs 0))) (if ok then .tuple #[y, .bool b] else y) := by
        intro y b hy hb
        subst hb
        cases ok
        · simp only [Bool.false_eq_true, if_false, RepA]; exact hy
        · simp only [if_true, RepA, RepAL]
          exact ⟨_, rfl, y, [.bool _], rfl, hy, .bool _, [], rfl, by simp only [RepP], rfl⟩
      have hck : ∀ em, (Instr.checkKey em 10000 kt (.agg p)).run P w = .ok () w := fun em => kinds_key em 9992 8 kt kc key (.agg p) p.toList h8 h.1 rp (stands_agg hfs p)
      rcases mapOf_spec hm rx with ⟨rfl, rfl, rfl⟩ | ⟨b, arr, c, rfl, hb, r1, r2⟩
      · obtain ⟨r, hr, hf⟩ := findKey_sound (P := P) (es := []) (ks := []) (xs := []) hk h.1 rp h.2 (by simp [RepV]) (by simp [RepV])
        rcases hf with ⟨hf, rfl⟩ | ⟨j, y, yv, hf, _⟩
        · refine ⟨_, ?_, fin zv false (by rw [hf]; exact hz2) (by rw [hf]; rfl)⟩
          unfold Instr.lookup
          simp only [Sem.run_bind, hu, Result.andThen_ok, Sem.run_pure, hck, hr, hz1]
        · simp [findP] at hf
      · obtain ⟨r, hr, hf⟩ := findKey_sound (P := P) hk h.1 rp h.2 r1 r2
        rcases hf with ⟨hf, rfl⟩ | ⟨j, y, yv, hf, rfl, hy, _⟩
        · refine ⟨_, ?_, fin zv false (by rw [hf]; exact hz2) (by rw [hf]; rfl)⟩
          unfold Instr.lookup
          simp only [Sem.run_bind, hu, Result.andThen_ok, Sem.run_pure, MapKept.run_getObj_map hb, hck, hr, hz1]
        · refine ⟨_, ?_, fin yv true (by rw [hf]; exact hy) (by rw [hf]; rfl)⟩
          unfold Instr.lookup
          simp only [Sem.run_bind, hu, Result.andThen_ok, Sem.run_pure, MapKept.run_getObj_map hb, hck, hr]
    · exact h.elim
  · exact h.elim
/-- A map held against nil. -/
def mapNil : AV → Option Bool
  | .p (.mp _ _) => some false
  | .om _ _ _ => some false
  | .p (.opq (.map none)) => some true
  | _ => none
theorem mapNil_spec {g : Gh} {w : World} {x : AV} {v : Value} {b : Bool} (h : mapNil x = some b) (r : RepA g w x v) : ∃ p : Option Nat, v = .map p ∧ p.isNone = b := by
  unfold mapNil at h
  split at h
  · injection h with h; subst h
    simp only [RepA, RepP] at r; obtain ⟨b, _, _, e, _⟩ := r; exact ⟨_, e, rfl⟩
  · injection h with h; subst h
    simp only [RepA] at r; obtain ⟨b, _, _, e, _⟩ := r; exact ⟨_, e, rfl⟩
  · injection h with h; subst h
    simp only [RepA, RepP] at r; exact ⟨_, r, rfl⟩
  · cases h
def binMN (P : Program) (op : BinOp) (t : TypeId) (x : AV) : PR :=
  match ty P t with
  | some ⟨.map _ _, _, _, _⟩ =>
    match mapNil x, op with
    | some b, .eql => (True, .p (.bool b))
    | some b, .neq => (True, .p (.bool (!b)))
    | _, _ => bad
  | _ => bad
def isNilMap : AV → Bool
  | .p (.opq (.map none)) => true
  | _ => false
def binF (P : Program) (op : BinOp) (t : TypeId) (x y : AV) : PR := if isNilMap y then binMN P op t x else binE P op t x y
theorem binF_sound {P : Program} {op : BinOp} {t : TypeId} {x y : AV} {g : Gh} {w : World} {u v : Value} (xo yo : Operand) (h : (binF P op t x y).1)
    (hx : RepA g w x u) (hy : RepA g w y v) :
    ∃ r, (do eqGuard op t xo yo u v; binOp op t u v : Sem Value).run P w = .ok r w ∧ RepA g w (binF P op t x y).2 r := by
  unfold binF at h ⊢
  by_cases hn : isNilMap y = true
  · rw [if_pos hn] at h ⊢
    unfold isNilMap at hn
    split at hn
    · simp only [RepA, RepP] at hy
      subst hy
      unfold binMN at h ⊢
      split at h
      · rename_i kt et _ _ _ hT
        have hu : P.underlying t = some (.map kt et) := by obtain ⟨_, _, hu, _⟩ := ty_spec hT; exact hu
        cases hm : mapNil x with
        | none => rw [hm] at h; exact h.elim
        | some b =>
          rw [hm] at h
          obtain ⟨p, rfl, hp⟩ := mapNil_spec hm hx
          have e00 : ∀ d, (Op.equalIn (d + 1) t (.map p) (.map none)).run P w = .ok p.isNone w := fun d => by
            cases p <;> simp [Op.equalIn, run_underlying hu]
          have e0 : (Op.equal t (.map p) (.map none)).run P w = .ok p.isNone w := e00 9999
          have e1 : binOp .eql t (.map p) (.map none) = (do let c ← Op.equal t (.map p) (.map none); pure (.bool c)) := by cases p <;> rfl
          have e2 : binOp .neq t (.map p) (.map none) = (do let c ← Op.equal t (.map p) (.map none); pure (.bool (!c))) := by cases p <;> rfl
          cases op <;> simp only [] at h ⊢ <;> first
            | exact h.elim
            | (refine ⟨.bool b, ?_, by simp only [RepA, RepP]⟩
               rw [Sem.run_bind, eqGuard_none (by simp) (by simp), Result.andThen_ok, e1, Sem.run_bind, e0, hp]; rfl)
            | (refine ⟨.bool (!b), ?_, by simp only [RepA, RepP]⟩
               rw [Sem.run_bind, eqGuard_none (by simp) (by simp), Result.andThen_ok, e2, Sem.run_bind, e0, hp]; rfl)
      · exact h.elim
    · cases hn
  · rw [if_neg hn] at h ⊢
    exact binE_sound xo yo h hx hy
/-- An interface's value held against the literal nil. -/
def ifNil : AV → Option Bool
  | .p (.opq .nilIface) => some true
  | .p (.opq (.iface _ _)) => some false
  | _ => none
def binIN (P : Program) (op : BinOp) (t : TypeId) (x : AV) : PR :=
  match ty P t with
  | some ⟨.interface _, _, _, _⟩ =>
    match ifNil x, op with
    | some b, .eql => (True, .p (.bool b))
    | some b, .neq => (True, .p (.bool (!b)))
    | _, _ => bad
  | _ => bad
def nilIfO : Operand → Bool
  | .const .nilIface => true
  | _ => false
def binH (P : Program) (op : BinOp) (t : TypeId) (yo : Operand) (x y : AV) : PR := if nilIfO yo then binIN P op t x else binF P op t x y
theorem binIN_sound {P : Program} {op : BinOp} {t : TypeId} {x : AV} {g : Gh} {w : World} {u : Value} (xo : Operand) (h : (binIN P op t x).1) (hx : RepA g w x u) :
    ∃ r, (do eqGuard op t xo (.const .nilIface) u .nilIface; binOp op t u .nilIface : Sem Value).run P w = .ok r w ∧ RepA g w (binIN P op t x).2 r := by
  unfold binIN at h ⊢
  split at h
  · rename_i ms _ _ _ hT
    have hu : P.underlying t = some (.interface ms) := by obtain ⟨_, _, hu, _⟩ := ty_spec hT; exact hu
    cases hm : ifNil x with
    | none => rw [hm] at h; exact h.elim
    | some b =>
      rw [hm] at h
      have hq : (eqGuard op t xo (.const .nilIface) u .nilIface).run P w = .ok () w ∧ (∀ d, (Op.equalIn (d + 1) t u .nilIface).run P w = .ok b w) ∧ ((binOp .eql t u .nilIface) = (do let c ← Op.equal t u .nilIface; pure (.bool c))) ∧ ((binOp .neq t u .nilIface) = (do let c ← Op.equal t u .nilIface; pure (.bool (!c)))) := by
        unfold ifNil at hm
        split at hm
        · injection hm with hm; subst hm
          simp only [RepA, RepP] at hx
          subst hx
          refine ⟨by cases op <;> cases xo <;> rfl, fun d => by simp [Op.equalIn, run_underlying hu], rfl, rfl⟩
        · injection hm with hm; subst hm
          simp only [RepA, RepP] at hx
          subst hx
          refine ⟨by cases op <;> rfl, fun d => by simp [Op.equalIn, run_underlying hu], rfl, rfl⟩
        · cases hm
      obtain ⟨h1, h2, h3, h4⟩ := hq
      have h2' : (Op.equal t u .nilIface).run P w = .ok b w := h2 9999
      cases op <;> simp only [] at h ⊢ <;> first
        | exact h.elim
        | (refine ⟨.bool b, ?_, by simp only [RepA, RepP]⟩
           rw [Sem.run_bind, h1, Result.andThen_ok, h3, Sem.run_bind, h2']; rfl)
        | (refine ⟨.bool (!b), ?_, by simp only [RepA, RepP]⟩
           rw [Sem.run_bind, h1, Result.andThen_ok, h4, Sem.run_bind, h2']; rfl)
  · exact h.elim
theorem binH_sound {P : Program} {op : BinOp} {t : TypeId} {x y : AV} {g : Gh} {w : World} {u v : Value} {yo : Operand} (xo : Operand) (hv : ∀ c, yo = .const c → v = c) (h : (binH P op t yo x y).1)
    (hx : RepA g w x u) (hy : RepA g w y v) :
    ∃ r, (do eqGuard op t xo yo u v; binOp op t u v : Sem Value).run P w = .ok r w ∧ RepA g w (binH P op t yo x y).2 r := by
  unfold binH at h ⊢
  by_cases hn : nilIfO yo = true
  · rw [if_pos hn] at h ⊢
    unfold nilIfO at hn
    split at hn
    · have := hv _ rfl
      subst this
      exact binIN_sound xo h hx
    · cases hn
  · rw [if_neg hn] at h ⊢
    exact binF_sound xo yo h hx hy
end Go.AM

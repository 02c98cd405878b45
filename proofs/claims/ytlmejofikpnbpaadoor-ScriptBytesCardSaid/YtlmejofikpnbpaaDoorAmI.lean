/- A part of the proof of this seat's statements, by an abstract machine: what each operation does to values, proved over the model, whatever the program. No condition beyond those that stand. -/
import Derived.Test.YtlmejofikpnbpaaDoorAmH
import Derived.Laws.BytesString
namespace Go.AM

/-! ### Small ones -/
def lenA : AV → Option Int
  | .p (.str s) => some s.length
  | .p (.sl _ es) => some es.length
  | .os _ _ es => some es.length
  | .la _ _ _ n => some n
  | .p (.opq (.slice none 0 0)) => some 0
  | _ => none
def isStrD : TypeDesc → Bool
  | .string => true
  | _ => false
def isSliceD : TypeDesc → Bool
  | .slice _ => true
  | _ => false
def isStrA : AV → Bool
  | .p (.str _) => true
  | _ => false
def lenR (P : Program) (T : TypeId) (x : AV) : PR :=
  match ty P T, lenA x with
  | some D, some n => if isStrD D.desc || isSliceD D.desc then
      (isStrD D.desc = isStrA x, .p (.int .i64 n)) else bad
  | _, _ => bad
theorem lenA_slice {g : Gh} {w : World} {x : AV} {n : Int} {v : Value} (h : lenA x = some n) (r : RepA g w x v) (hs : isStrA x = false) :
    ∃ base len cap, v = .slice base len cap ∧ n = len := by
  unfold lenA at h
  split at h <;> simp only [Option.some.injEq, reduceCtorEq] at h
  · cases hs
  · simp only [RepA] at r
    obtain ⟨base, cap, e, _⟩ := slice_shape r
    exact ⟨base, _, cap, e, h.symm⟩
  · simp only [RepA] at r
    obtain ⟨base, cap, e, _⟩ := slice_shape r.1
    exact ⟨base, _, cap, e, h.symm⟩
  · simp only [RepA] at r
    obtain ⟨b, o', cap, _, e, _⟩ := r
    exact ⟨_, _, cap, e, h.symm⟩
  · simp only [RepA, RepP] at r
    exact ⟨none, 0, 0, r, h.symm⟩
theorem lenR_sound {P : Program} {T tt : TypeId} {x : AV} {g : Gh} {w : World} {v : Value} {ts : Array TypeId} {args : Array Value} (h0 : ts[0]? = some T) (ha : args[0]? = some v) (h : (lenR P T x).1) (r : RepA g w x v) :
    ∃ u, (Builtin.len_ ts tt args).run P w = .ok u w ∧ RepA g w (lenR P T x).2 u := by
  unfold lenR at h ⊢
  cases hT : ty P T with
  | none => simp only [hT] at h; exact h.elim
  | some D =>
    have hu := ty_underlying w hT
    cases hl : lenA x with
    | none => simp only [hT, hl] at h; exact h.elim
    | some n =>
      simp only [hT, hl] at h ⊢
      split at h
      · rename_i hd
        simp only [hd, if_true]
        refine ⟨.int .i64 n, ?_, by show RepA g w (.p (.int .i64 n)) _; simp only [RepA, RepP]⟩
        by_cases hs : isStrA x = true
        · have hx : ∃ s, x = .p (.str s) := by
            unfold isStrA at hs; split at hs
            · exact ⟨_, rfl⟩
            · cases hs
          obtain ⟨s, rfl⟩ := hx
          simp only [lenA, Option.some.injEq] at hl
          simp only [RepA, RepP] at r
          subst r; subst hl
          rw [hs] at h
          have hD : D.desc = .string := by cases hq : D.desc <;> simp [hq, isStrD] at h; rfl
          rw [hD] at hu
          unfold Builtin.len_
          simp only [h0, ha]
          have hsz : (⟨s.toArray⟩ : ByteArray).size = s.length := by simp [ByteArray.size]
          simp only [Sem.run_bind, hu, Result.andThen_ok, Sem.run_pure, goInt, hsz]
        · have hs' : isStrA x = false := by simpa using hs
          obtain ⟨base, len, cap, rfl, rfl⟩ := lenA_slice hl r hs'
          rw [hs'] at h
          have hD : ∃ e, D.desc = .slice e := by
            cases hq : D.desc <;> simp [hq, isStrD, isSliceD] at hd h
            exact ⟨_, rfl⟩
          obtain ⟨e, hD⟩ := hD
          rw [hD] at hu
          unfold Builtin.len_
          simp only [h0, ha]
          simp [hu, goInt]
      · exact h.elim

def minMaxA (isMax : Bool) (x y : AV) : PR :=
  match x, y with
  | .p (.int k a), .p (.int k' b) => (k = k', .p (.int k (if isMax then max a b else min a b)))
  | _, _ => bad
theorem minMaxA_sound {P : Program} {isMax : Bool} {x y : AV} {g : Gh} {w : World} {u v : Value} {ts : Array TypeId} {tt : TypeId} (h : (minMaxA isMax x y).1) (hx : RepA g w x u) (hy : RepA g w y v) :
    ∃ r, (if isMax then Builtin.max_ ts tt #[u, v] else Builtin.min_ ts tt #[u, v]).run P w = .ok r w ∧ RepA g w (minMaxA isMax x y).2 r := by
  unfold minMaxA at h ⊢
  split at h
  · rename_i k a k' b
    simp only [RepA, RepP] at hx hy
    subst hx; subst hy
    simp only [] at h; subst h
    cases isMax
    · refine ⟨_, ?_, by simp only [RepA, RepP]; rfl⟩
      simp [Builtin.min_, Builtin.min2]
      by_cases e : b < a
      · rw [if_pos e]; omega
      · rw [if_neg e]; omega
    · refine ⟨_, ?_, by simp only [RepA, RepP]; rfl⟩
      simp [Builtin.max_, Builtin.max2]
      by_cases e : a < b
      · rw [if_pos e]; omega
      · rw [if_neg e]; omega
  · exact h.elim

def pickA (c x y : AV) : PR :=
  match c with
  | .p (.bool b) =>
    match (unG x).2, (unG y).2 with
    | .p (.bool p), .p (.bool q) => ((b = true → (unG x).1) ∧ (b = false → (unG y).1), .p (.bool (cond b p q)))
    | .p (.bool p), _ => (b = true ∧ (unG x).1, .p (.bool p))
    | _, .p (.bool q) => (b = false ∧ (unG y).1, .p (.bool q))
    | _, _ => bad
  | _ => bad
theorem pickA_sound {P : Program} {c x y : AV} {g : Gh} {w : World} {vc vx vy : Value} (h : (pickA c x y).1) (hc : RepA g w c vc) (hx : RepA g w x vx) (hy : RepA g w y vy) :
    ∃ r, (do pure (Next.value (if ← asBool vc then vx else vy)) : Sem Next).run P w = .ok (.value r) w ∧ RepA g w (pickA c x y).2 r := by
  unfold pickA at h ⊢
  split at h
  · rename_i b
    split at h
    · rename_i p q h1 h2
      simp only [RepA, RepP] at hc
      subst hc
      simp only [] at h
      cases b
      · have := unG_spec (h.2 rfl) hy
        rw [h2] at this
        exact ⟨vy, by simp [asBool], by simpa [RepA, RepP] using this⟩
      · have := unG_spec (h.1 rfl) hx
        rw [h1] at this
        exact ⟨vx, by simp [asBool], by simpa [RepA, RepP] using this⟩
    · rename_i p h1 h2
      simp only [RepA, RepP] at hc
      subst hc
      obtain ⟨rfl, h⟩ := h
      have := unG_spec h hx
      rw [h1] at this
      exact ⟨vx, by simp [asBool], by simpa [RepA, RepP] using this⟩
    · rename_i q h1 h2
      simp only [RepA, RepP] at hc
      subst hc
      obtain ⟨rfl, h⟩ := h
      have := unG_spec h hy
      rw [h1] at this
      exact ⟨vy, by simp [asBool], by simpa [RepA, RepP] using this⟩
    · exact h.elim
  · exact h.elim

def nilCheckA (x : AV) : PR :=
  match x with
  | .lp t o => (True, .lp t o)
  | .ip z e o => (True, .ip z e o)
  | .p (.opq (.func (.func f) a b)) => (True, .p (.opq (.func (.func f) a b)))
  | _ => bad
def unA (op : UnOp) (x : AV) : PR :=
  match op, x with
  | .not, .p (.bool b) => (True, .p (.bool (!b)))
  | .neg, .p (.int k n) => (True, .p (.int k (k.wrap (0 - n))))
  | .xor, .p (.int k n) => (True, .p (intBin .xor k (if k.signed then -1 else k.max) n).2)
  | _, _ => bad
theorem unA_sound {P : Program} {op : UnOp} {x : AV} {g : Gh} {w : World} {v : Value} (h : (unA op x).1) (r : RepA g w x v) :
    ∃ u, (Op.unary op v).run P w = .ok u w ∧ RepA g w (unA op x).2 u := by
  unfold unA at h ⊢
  split at h
  · simp only [RepA, RepP] at r; subst r; exact ⟨_, rfl, by simp only [RepA, RepP]⟩
  · simp only [RepA, RepP] at r; subst r; exact ⟨_, rfl, by simp only [RepA, RepP]⟩
  · rename_i k n
    simp only [RepA, RepP] at r; subst r
    refine ⟨_, rfl, ?_⟩
    simp only [RepA, intBin, RepP]
  · exact h.elim
def isIntD : TypeDesc → Option IntKind
  | .int k => some k
  | _ => none
/-- The bytes of a row of bytes. -/
def bytesP : List PV → Option (List UInt8)
  | [] => some []
  | .int .u8 n :: l => (bytesP l).map (UInt8.ofNat n.toNat :: ·)
  | _ => none
def convB (P : Program) (S D : TypeDesc) (es : List PV) : PR :=
  match S, bytesP es with
  | .slice e, some t => match ty P e with
    | some E => (E.desc = .int .u8 ∧ es ≠ [] ∧ D = .string, .p (.str t))
    | none => bad
  | _, _ => bad
theorem bytesP_cells {fr : Nat → Nat} {w : World} {b : Nat} : ∀ {es : List PV} {t : List UInt8} {o : Nat}, bytesP es = some t → RepE fr w 1 b es o →
    ∃ ns : List Int, ns.length = es.length ∧ (∀ s : ByteArray, (ns.foldl (fun r n => r.push (UInt8.ofNat n.toNat)) s).data.toList = s.data.toList ++ t) ∧ ∀ (j : Nat) (v : Value), (ns.map (Value.int .u8))[j]? = some v → w.cell? ⟨b, o + j, none⟩ = some v
  | [], t, o, h, _ => by
    simp only [bytesP, Option.some.injEq] at h; subst h
    exact ⟨[], rfl, fun s => by simp, fun j v hj => by simp at hj⟩
  | e :: es, t, o, h, r => by
    cases e with
    | int k n =>
      cases k with
      | u8 =>
        simp only [bytesP, Option.map_eq_some_iff] at h
        obtain ⟨t', h, rfl⟩ := h
        simp only [RepE, RepP] at r
        obtain ⟨⟨v, rfl, _, h3⟩, h4⟩ := r
        obtain ⟨ns, k1, k2, k3⟩ := bytesP_cells h h4
        refine ⟨n :: ns, by simp [k1], fun s => ?_, fun j v hj => ?_⟩
        · rw [List.foldl_cons, k2]; simp
        · cases j with
          | zero =>
            simp at hj; subst hj
            exact (h3 0 _ rfl).2
          | succ j =>
            have := k3 j v (by simpa using hj)
            rwa [show o + 1 + j = o + (j + 1) from by omega] at this
      | _ => simp [bytesP] at h
    | _ => simp [bytesP] at h
theorem convB_sound {P : Program} {s d : TypeId} {S D : Ty} (hS : ty P s = some S) (hD : ty P d = some D) {es : List PV} {g : Gh} {w : World} {v : Value} (h : (convB P S.desc D.desc es).1) (r : RepP g.fr w (.sl 1 es) v) :
    ∃ u, (convert s d v).run P w = .ok u w ∧ RepA g w (convB P S.desc D.desc es).2 u := by
  unfold convB at h ⊢
  split at h
  · rename_i e t hs ht
    split at h
    · rename_i E hE
      obtain ⟨h1, h2, h3⟩ := h
      simp only [RepP] at r
      rcases r with ⟨e0, _⟩ | ⟨b, o, cap, rfl, _, _, he⟩
      · exact absurd e0 h2
      · obtain ⟨ns, k1, k2, k3⟩ := bytesP_cells ht he
        have hs' : P.underlying s = some S.desc := (ty_spec hS).choose_spec.2.1
        have hd' : P.underlying d = some D.desc := (ty_spec hD).choose_spec.2.1
        have he' : P.underlying e = some E.desc := (ty_spec hE).choose_spec.2.1
        rw [hs] at hs'; rw [h3] at hd'; rw [h1] at he'
        have hl : (loadCells ⟨b, o, none⟩ es.length).run P w = .ok (ns.map (Value.int .u8)).toArray w := by
          have := run_loadCells_list (P := P) w ⟨b, o, none⟩ (ns.map (Value.int .u8)) (fun j v hj => by rw [addr_add]; exact k3 j v hj)
          simpa [k1] using this
        refine ⟨_, (run_convert_bytes_string w s d e _ _ _ hs' he' hd').trans (run_bytesToString w _ _ _ ns hl), ?_⟩
        simp only [RepA, RepP]
        congr 1
        have := k2 ByteArray.empty
        apply ByteArray.ext
        apply Array.toList_inj.1
        simpa using this
    · exact h.elim
  · exact h.elim
def convA (P : Program) (s d : TypeId) (x : AV) : PR :=
  match ty P s, ty P d, x with
  | some _, some D, .p (.int _ n) => match isIntD D.desc with
    | some k => (True, .p (.int k (k.wrap n)))
    | none => bad
  | some _, some D, .p (.str t) => if isStrD D.desc then (True, .p (.str t)) else bad
  | some S, some D, .p (.sl 1 es) => convB P S.desc D.desc es
  | some S, some D, .os _ 1 es => convB P S.desc D.desc es
  | _, _, _ => bad
theorem convA_sound {P : Program} {s d : TypeId} {x : AV} {g : Gh} {w : World} {v : Value} (h : (convA P s d x).1) (r : RepA g w x v) :
    ∃ u, (convert s d v).run P w = .ok u w ∧ RepA g w (convA P s d x).2 u := by
  unfold convA at h ⊢
  split at h
  · rename_i S D k0 n hS hD
    have hs := ty_underlying w hS
    have hd := ty_underlying w hD
    simp only [RepA, RepP] at r; subst r
    cases hk : isIntD D.desc with
    | none => simp only [hk] at h; exact h.elim
    | some k =>
      simp only
      have hq : D.desc = .int k := by cases hq : D.desc <;> simp [hq, isIntD] at hk; rw [hk]
      rw [hq] at hd
      refine ⟨.int k (k.wrap n), ?_, by simp only [RepA, RepP]⟩
      unfold convert
      rw [Sem.run_bind, hs, Result.andThen_ok, Sem.run_bind, hd, Result.andThen_ok]
      cases S.desc <;> rfl
  · rename_i S D t hS hD
    have hs := ty_underlying w hS
    have hd := ty_underlying w hD
    simp only [RepA, RepP] at r; subst r
    split at h
    · rename_i hk
      simp only [hk, if_true]
      have hq : D.desc = .string := by cases hq : D.desc <;> simp [hq, isStrD] at hk; rfl
      rw [hq] at hd
      refine ⟨_, ?_, by simp only [RepA, RepP]; rfl⟩
      unfold convert
      rw [Sem.run_bind, hs, Result.andThen_ok, Sem.run_bind, hd, Result.andThen_ok]
      cases S.desc <;> rfl
    · exact h.elim
  · rename_i S D es hS hD
    simp only [RepA] at r
    exact convB_sound hS hD h r
  · rename_i S D t es hS hD
    simp only [RepA] at r
    exact convB_sound hS hD h r.1
  · exact h.elim

end Go.AM

/- A part of the proof of this seat's statements, by an abstract machine: what each operation does to values, proved over the model, whatever the program. No condition beyond those that stand. -/
import Derived.Test.YtlmejofikpnbpaaDoorAmC
import Derived.Laws.Strings
import Derived.Laws.StructEq
import Derived.Laws.Pointers
namespace Go.AM

structure Ty where
  desc : TypeDesc
  size : Nat
  bytes : Nat
  zero : Option (List PV)

def toPV : Value → PV
  | .int k n => .int k n
  | .bool b => .bool b
  | .string s => .str s.data.toList
  | v => .opq v
theorem RepP.toPV {fr : Nat → Nat} {w : World} (v : Value) : RepP fr w (toPV v) v := by
  cases v <;> simp [AM.toPV, RepP]

def ty (P : Program) (t : TypeId) : Option Ty :=
  match P.info? t, P.underlying t with
  | some i, some d => some ⟨d, i.size, i.bytes, i.zero.map fun v => v.cells.toList.map toPV⟩
  | _, _ => none

theorem ty_spec {P : Program} {t : TypeId} {T : Ty} (h : ty P t = some T) :
    ∃ i, P.info? t = some i ∧ P.underlying t = some T.desc ∧ i.size = T.size ∧ i.bytes = T.bytes ∧ i.zero.map (fun v => v.cells.toList.map toPV) = T.zero := by
  unfold ty at h
  split at h
  · rename_i i d h1 h2; simp at h; subst h; exact ⟨i, h1, h2, rfl, rfl, rfl⟩
  · cases h
section
variable {P : Program} {t : TypeId} {T : Ty} (w : World)
theorem ty_underlying (h : ty P t = some T) : (underlying t).run P w = .ok T.desc w := by
  obtain ⟨i, _, h2, _⟩ := ty_spec h; exact run_underlying h2 w
theorem ty_size (h : ty P t = some T) : (sizeOf t).run P w = .ok T.size w := by
  obtain ⟨i, h1, _, h3, _⟩ := ty_spec h; simp [sizeOf, typeInfo, h1, h3]
theorem ty_info (h : ty P t = some T) : ∃ i, (∀ w, (typeInfo t).run P w = .ok i w) ∧ i.bytes = T.bytes := by
  obtain ⟨i, h1, _, h3, h4, _⟩ := ty_spec h; exact ⟨i, fun w => by simp [typeInfo, h1], h4⟩
theorem ty_zero {cs : List PV} (h : ty P t = some T) (hz : T.zero = some cs) : ∃ v, (∀ w, (zeroValue t).run P w = .ok v w) ∧ v.cells.toList.map toPV = cs := by
  obtain ⟨i, h1, _, h3, h4, h5⟩ := ty_spec h
  rw [hz] at h5
  simp only [Option.map_eq_some_iff] at h5
  obtain ⟨v, hv, hc⟩ := h5
  exact ⟨v, fun w => by simp [zeroValue, typeInfo, h1, hv], hc⟩
end
def isAggD : TypeDesc → Bool
  | .struct _ => true
  | .array _ _ => true
  | _ => false
theorem ty_agg {P : Program} {t : TypeId} {T : Ty} (w : World) (h : ty P t = some T) : (isAgg t).run P w = .ok (isAggD T.desc) w := by
  unfold isAgg
  rw [Sem.run_bind, ty_underlying w h]
  cases T.desc <;> rfl

def St.ev (S : St) : Operand → AV
  | .tmp t => S.get t
  | .const v => .p (toPV v)
  | .func f => .p (.opq (.func (.func f) #[] #[]))
  | .global _ => .junk
theorem SR.ev [Gi] {E : Ent} {S : St} {g : Gh} {a : Act} {w : World} (h : SR E S g a w) (x : Operand) : RepA g w (S.ev x) (a.eval x) := by
  cases x with
  | tmp t => exact h.slots t
  | const v => simp only [St.ev, RepA, Act.eval]; exact RepP.toPV v
  | func f => simp only [St.ev, RepA, RepP, Act.eval]
  | global g => simp only [St.ev, RepA]

/-- A guarded value, and what it needs. -/
def unG : AV → Prop × AV
  | .gd c x => (c = true, x)
  | x => (True, x)
theorem unG_spec {g : Gh} {w : World} {x : AV} {v : Value} (h : (unG x).1) (r : RepA g w x v) : RepA g w (unG x).2 v := by
  cases x <;> simp only [unG] at h ⊢ <;> first | exact r | (simp only [RepA] at r; exact r.1 h)

abbrev PR := Prop × AV
def bad : PR := (False, .junk)

def intBin (op : BinOp) (k : IntKind) (a b : Int) : Prop × PV :=
  match op with
  | .add => (True, .int k (k.wrap (a + b)))
  | .sub => (True, .int k (k.wrap (a - b)))
  | .mul => (True, .int k (k.wrap (a * b)))
  | .quo => (b ≠ 0, .int k (k.wrap (a.tdiv b)))
  | .rem => (b ≠ 0, .int k (a.tmod b))
  | .and => (True, .int k (k.wrap (BitVec.ofInt k.bits a &&& BitVec.ofInt k.bits b).toNat))
  | .or => (True, .int k (k.wrap (BitVec.ofInt k.bits a ||| BitVec.ofInt k.bits b).toNat))
  | .xor => (True, .int k (k.wrap (BitVec.ofInt k.bits a ^^^ BitVec.ofInt k.bits b).toNat))
  | .andNot => (True, .int k (k.wrap (BitVec.ofInt k.bits a &&& ~~~ BitVec.ofInt k.bits b).toNat))
  | .eql => (True, .bool (decide (a = b)))
  | .neq => (True, .bool (!decide (a = b)))
  | .lss => (True, .bool (decide (a < b)))
  | .leq => (True, .bool (decide (a ≤ b)))
  | .gtr => (True, .bool (decide (b < a)))
  | .geq => (True, .bool (decide (b ≤ a)))
  | _ => (False, .bool false)
def strBin (op : BinOp) (a b : List UInt8) : Prop × PV :=
  match op with
  | .add => (((a.length + b.length : Nat) : Int) ≤ 9223372036854775807, .str (a ++ b))
  | .eql => (True, .bool (decide (a = b)))
  | .neq => (True, .bool (!decide (a = b)))
  | .lss => (True, .bool (Op.bytesLess a b))
  | .leq => (True, .bool (Op.bytesLess a b || decide (a = b)))
  | .gtr => (True, .bool !(Op.bytesLess a b || decide (a = b)))
  | .geq => (True, .bool !(Op.bytesLess a b))
  | _ => (False, .bool false)
/-- Is it an address (not nil)? -/
def isAddr : AV → Bool
  | .lp _ _ => true
  | .ip _ _ _ => true
  | _ => false
def isNilPtr : AV → Bool
  | .p (.opq (.pointer none)) => true
  | _ => false
def ptrEq (x y : AV) : Option Bool :=
  if isNilPtr x then (if isNilPtr y then some true else if isAddr y then some false else none)
  else if isAddr x && isNilPtr y then some false else none
def isPtrD : TypeDesc → Bool
  | .pointer _ => true
  | _ => false
def isBoolD : TypeDesc → Bool
  | .bool => true
  | _ => false
def binII (op : BinOp) (k : IntKind) (a : Int) (k' : IntKind) (b : Int) : PR :=
  match op with
  | .shl => (0 ≤ b, .p (.int k (k.wrap (a * 2 ^ (min b.toNat k.bits)))))
  | .shr => (0 ≤ b, .p (.int k (a.fdiv (2 ^ (min b.toNat k.bits)))))
  | op => if k = k' then ((intBin op k a b).1, .p (intBin op k a b).2) else bad
def binBB (P : Program) (op : BinOp) (t : TypeId) (a b : Bool) : PR :=
  match ty P t with
  | some T => if isBoolD T.desc then
      (match op with
      | .eql => (True, .p (.bool (a == b)))
      | .neq => (True, .p (.bool (a != b)))
      | _ => bad) else bad
  | none => bad
def ptrRes (op : BinOp) (c : Option Bool) : PR :=
  match c, op with
  | some c, .eql => (True, .p (.bool c))
  | some c, .neq => (True, .p (.bool (!c)))
  | _, _ => bad
def binPP (P : Program) (op : BinOp) (t : TypeId) (x y : AV) : PR :=
  match ty P t with
  | some T => if isPtrD T.desc then ptrRes op (ptrEq x y) else bad
  | none => bad
def binA (P : Program) (op : BinOp) (t : TypeId) (x y : AV) : PR :=
  match x, y with
  | .p (.int k a), .p (.int k' b) => binII op k a k' b
  | .p (.str a), .p (.str b) => ((strBin op a b).1, .p (strBin op a b).2)
  | .p (.bool a), .p (.bool b) => binBB P op t a b
  | x, y => binPP P op t x y

theorem intBin_sound {P : Program} {fr : Nat → Nat} {w : World} (op : BinOp) (t : TypeId) (k : IntKind) (a b : Int) (h1 : op ≠ .shl) (h2 : op ≠ .shr) (h : (intBin op k a b).1) :
    ∃ r, (binOp op t (.int k a) (.int k b)).run P w = .ok r w ∧ RepP fr w (intBin op k a b).2 r := by
  cases op <;> simp only [intBin] at h ⊢ <;> first
    | exact absurd rfl h1
    | exact absurd rfl h2
    | exact h.elim
    | (refine ⟨_, ?_, by simp only [RepP]; rfl⟩
       simp [binOp, Op.intArith, Op.intDiv, Op.intBits, Op.intCmp, h]; done)
    | (refine ⟨_, ?_, by simp only [RepP]; rfl⟩
       simp [binOp, Op.intCmp]
       by_cases e : a = b <;> simp [e])
theorem strBin_sound {P : Program} {fr : Nat → Nat} {w : World} (op : BinOp) (t : TypeId) (a b : List UInt8) (h : (strBin op a b).1) :
    ∃ r, (binOp op t (.string ⟨a.toArray⟩) (.string ⟨b.toArray⟩)).run P w = .ok r w ∧ RepP fr w (strBin op a b).2 r := by
  have hm : IntKind.i64.max = 9223372036854775807 := by decide
  have hsz : ∀ l : List UInt8, (⟨l.toArray⟩ : ByteArray).size = l.length := fun l => by simp [ByteArray.size]
  have hap : (⟨a.toArray⟩ : ByteArray) ++ ⟨b.toArray⟩ = ⟨(a ++ b).toArray⟩ := by
    apply ByteArray.ext; simp
  have hbeq : (a == b) = decide (a = b) := by by_cases e : a = b <;> simp [e]
  cases op <;> simp only [strBin] at h ⊢ <;> first
    | exact h.elim
    | (refine ⟨_, ?_, by simp only [RepP]; rfl⟩
       simp [binOp, Op.stringOp, hbeq]; done)
    | (refine ⟨_, ?_, by simp only [RepP]; rfl⟩
       simp only [binOp, Op.stringOp, hsz, hm]
       rw [if_neg (by omega), hap]; rfl)
theorem eqGuard_none {P : Program} {op : BinOp} {t : TypeId} {xo yo : Operand} {u v : Value} {w : World} (h1 : u ≠ .nilIface) (h2 : ∀ cs, u ≠ .agg cs) :
    (eqGuard op t xo yo u v).run P w = .ok () w := by
  cases op <;> first
    | rfl
    | (cases u <;> first | exact absurd rfl h1 | exact absurd rfl (h2 _) | (cases v <;> rfl))

theorem ptr_rep {g : Gh} {w : World} {x : AV} {v : Value} (h : isAddr x = true) (r : RepA g w x v) : ∃ a, v = .pointer (some a) := by
  cases x with
  | lp t o => simp only [RepA] at r; obtain ⟨b, _, e⟩ := r; exact ⟨_, e⟩
  | ip z e o => simp only [RepA] at r; obtain ⟨b, _, e, _⟩ := r; exact ⟨_, e⟩
  | _ => cases h
theorem nil_rep {g : Gh} {w : World} {x : AV} {v : Value} (h : isNilPtr x = true) (r : RepA g w x v) : v = .pointer none := by
  unfold isNilPtr at h
  split at h
  · simpa only [RepA, RepP] using r
  · cases h
section
variable {P : Program} {t : TypeId} (w : World)
theorem run_eq_bool (h : P.underlying t = some .bool) (a b : Bool) :
    (binOp .eql t (.bool a) (.bool b)).run P w = .ok (.bool (a == b)) w ∧ (binOp .neq t (.bool a) (.bool b)).run P w = .ok (.bool (a != b)) w := by
  have e : (Op.equal t (.bool a) (.bool b)).run P w = .ok (a == b) w := run_equalIn_bool' w 9999 t a b h
  have e1 : binOp .eql t (.bool a) (.bool b) = (do let c ← Op.equal t (.bool a) (.bool b); pure (.bool c)) := rfl
  have e2 : binOp .neq t (.bool a) (.bool b) = (do let c ← Op.equal t (.bool a) (.bool b); pure (.bool (!c))) := rfl
  rw [e1, e2, Sem.run_bind, Sem.run_bind, e]
  exact ⟨rfl, rfl⟩
theorem run_eq_ptr {el : TypeId} (h : P.underlying t = some (.pointer el)) (x y : Option Addr) (hn : x = none ∨ y = none) :
    (binOp .eql t (.pointer x) (.pointer y)).run P w = .ok (.bool (x.isNone && y.isNone)) w ∧ (binOp .neq t (.pointer x) (.pointer y)).run P w = .ok (.bool (!(x.isNone && y.isNone))) w := by
  have e0 : ∀ d, (Op.equalIn (d + 1) t (.pointer x) (.pointer y)).run P w = .ok (x.isNone && y.isNone) w := by
    intro d
    cases x with
    | none => cases y <;> simp [Op.equalIn, run_underlying h]
    | some a =>
      cases y with
      | none => simp [Op.equalIn, run_underlying h]
      | some b => simp at hn
  have e : (Op.equal t (.pointer x) (.pointer y)).run P w = .ok (x.isNone && y.isNone) w := e0 9999
  have e1 : binOp .eql t (.pointer x) (.pointer y) = (do let c ← Op.equal t (.pointer x) (.pointer y); pure (.bool c)) := by cases x <;> cases y <;> rfl
  have e2 : binOp .neq t (.pointer x) (.pointer y) = (do let c ← Op.equal t (.pointer x) (.pointer y); pure (.bool (!c))) := by cases x <;> cases y <;> rfl
  rw [e1, e2, Sem.run_bind, Sem.run_bind, e]
  exact ⟨rfl, rfl⟩
end
theorem binII_sound {P : Program} {g : Gh} {w : World} (op : BinOp) (t : TypeId) (k k' : IntKind) (a b : Int) (h : (binII op k a k' b).1) :
    ∃ r, (binOp op t (.int k a) (.int k' b)).run P w = .ok r w ∧ RepA g w (binII op k a k' b).2 r := by
  unfold binII at h ⊢
  split at h
  · refine ⟨_, ?_, by simp only [RepA, RepP]; rfl⟩
    have hb : ¬ b < 0 := by simp only [] at h; omega
    simp [binOp, Op.shift, hb]
  · refine ⟨_, ?_, by simp only [RepA, RepP]; rfl⟩
    have hb : ¬ b < 0 := by simp only [] at h; omega
    simp [binOp, Op.shift, hb]
  · rename_i h1 h2
    split at h
    · rename_i hk
      subst hk
      obtain ⟨r, hr, hR⟩ := intBin_sound (fr := g.fr) (w := w) (P := P) op t k a b h1 h2 h
      refine ⟨r, hr, ?_⟩
      simp only [if_true, RepA]
      exact hR
    · exact h.elim
theorem binBB_sound {P : Program} {g : Gh} {w : World} (op : BinOp) (t : TypeId) (a b : Bool) (h : (binBB P op t a b).1) :
    ∃ r, (binOp op t (.bool a) (.bool b)).run P w = .ok r w ∧ RepA g w (binBB P op t a b).2 r := by
  unfold binBB at h ⊢
  cases hT : ty P t with
  | none => simp only [hT] at h; exact h.elim
  | some T =>
    simp only [hT] at h ⊢
    by_cases hd : isBoolD T.desc = true
    · simp only [hd, if_true] at h ⊢
      have hdd : T.desc = .bool := by cases hq : T.desc <;> simp [hq, isBoolD] at hd; rfl
      obtain ⟨i, _, hu, _⟩ := ty_spec hT
      rw [hdd] at hu
      cases op <;> first
        | exact h.elim
        | exact ⟨_, (run_eq_bool w hu a b).1, by simp only [RepA, RepP]⟩
        | exact ⟨_, (run_eq_bool w hu a b).2, by simp only [RepA, RepP]⟩
    · simp only [hd] at h; exact h.elim
theorem ptrEq_sound {P : Program} {g : Gh} {w : World} {t el : TypeId} {x y : AV} {u v : Value} (hu : P.underlying t = some (.pointer el)) (hx : RepA g w x u) (hy : RepA g w y v)
    {c : Bool} (hc : ptrEq x y = some c) : (u ≠ .nilIface ∧ ∀ cs, u ≠ .agg cs) ∧ (binOp .eql t u v).run P w = .ok (.bool c) w ∧ (binOp .neq t u v).run P w = .ok (.bool !c) w := by
  unfold ptrEq at hc
  split at hc
  · rename_i hxn
    have := nil_rep hxn hx; subst this
    split at hc
    · rename_i hyn
      have := nil_rep hyn hy; subst this
      simp at hc; subst hc
      exact ⟨⟨by simp, by simp⟩, run_eq_ptr w hu none none (.inl rfl)⟩
    · split at hc
      · rename_i hya
        obtain ⟨a, rfl⟩ := ptr_rep hya hy
        simp at hc; subst hc
        exact ⟨⟨by simp, by simp⟩, run_eq_ptr w hu none (some a) (.inl rfl)⟩
      · cases hc
  · split at hc
    · rename_i hxy
      simp only [Bool.and_eq_true] at hxy
      obtain ⟨a, rfl⟩ := ptr_rep hxy.1 hx
      have := nil_rep hxy.2 hy; subst this
      simp at hc; subst hc
      exact ⟨⟨by simp, by simp⟩, run_eq_ptr w hu (some a) none (.inr rfl)⟩
    · cases hc
theorem binPP_sound {P : Program} {g : Gh} {w : World} {op : BinOp} {t : TypeId} {x y : AV} {u v : Value} (h : (binPP P op t x y).1) (hx : RepA g w x u) (hy : RepA g w y v) :
    (u ≠ .nilIface ∧ ∀ cs, u ≠ .agg cs) ∧ ∃ r, (binOp op t u v).run P w = .ok r w ∧ RepA g w (binPP P op t x y).2 r := by
  unfold binPP at h ⊢
  cases hT : ty P t with
  | none => simp only [hT] at h; exact h.elim
  | some T =>
    simp only [hT] at h ⊢
    by_cases hd : isPtrD T.desc = true
    · simp only [hd, if_true] at h ⊢
      have hdd : ∃ e, T.desc = .pointer e := by cases hq : T.desc <;> simp [hq, isPtrD] at hd; exact ⟨_, rfl⟩
      obtain ⟨e, hdd⟩ := hdd
      obtain ⟨i, _, hu, _⟩ := ty_spec hT
      rw [hdd] at hu
      cases hc : ptrEq x y with
      | none => simp only [hc, ptrRes] at h; cases op <;> exact h.elim
      | some c =>
        simp only [hc] at h ⊢
        obtain ⟨h1, h2, h3⟩ := ptrEq_sound (P := P) hu hx hy hc
        refine ⟨h1, ?_⟩
        cases op <;> simp only [ptrRes] at h ⊢ <;> first
          | exact h.elim
          | exact ⟨_, h2, by simp only [RepA, RepP]⟩
          | exact ⟨_, h3, by simp only [RepA, RepP]⟩
    · simp only [hd] at h; exact h.elim
theorem binA_sound {P : Program} {op : BinOp} {t : TypeId} {x y : AV} {g : Gh} {w : World} {u v : Value} (xo yo : Operand) (h : (binA P op t x y).1)
    (hx : RepA g w x u) (hy : RepA g w y v) :
    ∃ r, (do eqGuard op t xo yo u v; binOp op t u v : Sem Value).run P w = .ok r w ∧ RepA g w (binA P op t x y).2 r := by
  suffices H : (u ≠ .nilIface ∧ ∀ cs, u ≠ .agg cs) ∧ ∃ r, (binOp op t u v).run P w = .ok r w ∧ RepA g w (binA P op t x y).2 r by
    obtain ⟨⟨h1, h2⟩, r, hr, hR⟩ := H
    exact ⟨r, by rw [Sem.run_bind, eqGuard_none h1 h2]; exact hr, hR⟩
  unfold binA at h ⊢
  split at h
  · simp only [RepA, RepP] at hx hy
    subst hx; subst hy
    exact ⟨⟨by simp, by simp⟩, binII_sound op t _ _ _ _ h⟩
  · simp only [RepA, RepP] at hx hy
    subst hx; subst hy
    refine ⟨⟨by simp, by simp⟩, ?_⟩
    obtain ⟨r, hr, hR⟩ := strBin_sound (fr := g.fr) (w := w) (P := P) op t _ _ h
    exact ⟨r, hr, by simp only [RepA]; exact hR⟩
  · simp only [RepA, RepP] at hx hy
    subst hx; subst hy
    exact ⟨⟨by simp, by simp⟩, binBB_sound op t _ _ h⟩
  · exact binPP_sound h hx hy

end Go.AM

/- A part of the proof of this seat's statements, by an abstract machine: what each operation does to values, proved over the model, whatever the program. No condition beyond those that stand. -/
import Derived.Orders
import Derived.Laws.CopyRow
namespace Go.AM

abbrev Tok := List Nat

/-- Pure values: what a Go value means, without addresses. -/
inductive PV where
  | int (k : IntKind) (n : Int)
  | bool (b : Bool)
  | str (s : List UInt8)
  | opq (v : Value)
  | agg (cs : List PV)
  | sl (z : Nat) (es : List PV)
  | mp (ks xs : List PV)
  deriving Inhabited

/-- Values of a frame. -/
inductive AV where
  | p (x : PV)
  | os (t : Tok) (z : Nat) (es : List PV)
  | om (t : Tok) (ks xs : List PV)
  | ow (t : Tok) (z : Nat) (es : List PV)
  | lp (t : Tok) (o : Nat)
  | la (t : Tok) (z o n : Nat)
  | ip (z : Nat) (e : PV) (o : Nat)
  | gd (c : Bool) (x : AV)
  | ag (xs : List AV)
  | fn (f : FuncId) (xs : List AV)
  | bb (t : Tok) (T : TypeId) (l : List UInt8)
  | bz (t : Tok) (T : TypeId) (m : Nat)
  | tup (xs : List AV)
  | junk
  deriving Inhabited

inductive Kd where
  | prot
  | root (t : Tok)
  | tail (t : Tok)

structure Gh where
  fr : Nat → Nat
  K : Nat → Kd

/-- What stands in a map's block. -/
def mapAt (w : World) (b : Nat) : Option (Array MapEntry × Nat) := match w.heap[b]? with
  | some (.map es c) => some (es, c)
  | _ => none
mutual
def RepP (fr : Nat → Nat) (w : World) : PV → Value → Prop
  | .int k n, v => v = .int k n
  | .bool b, v => v = .bool b
  | .str s, v => v = .string ⟨s.toArray⟩
  | .opq u, v => v = u
  | .agg cs, v => ∃ vs : Array Value, v = .agg vs ∧ RepL fr w cs vs.toList
  | .sl z es, v => (es = [] ∧ ∃ a cap, v = .slice a 0 cap) ∨
      ∃ b o cap, v = .slice (some ⟨b, o, none⟩) es.length cap ∧ es.length ≤ cap ∧ o + es.length * z ≤ fr b ∧ RepE fr w z b es o
  | .mp ks xs, v => ∃ b arr c, v = .map (some b) ∧ 0 < fr b ∧ mapAt w b = some (arr, c) ∧ RepV fr w ks (arr.toList.map (·.key)) ∧ RepV fr w xs (arr.toList.map (·.val))
def RepL (fr : Nat → Nat) (w : World) : List PV → List Value → Prop
  | [], vs => vs = []
  | c :: cs, vs => ∃ v vs', vs = v :: vs' ∧ v.oneCell' = true ∧ RepP fr w c v ∧ RepL fr w cs vs'
def RepV (fr : Nat → Nat) (w : World) : List PV → List Value → Prop
  | [], vs => vs = []
  | c :: cs, vs => ∃ v vs', vs = v :: vs' ∧ RepP fr w c v ∧ RepV fr w cs vs'
def RepE (fr : Nat → Nat) (w : World) (z b : Nat) : List PV → Nat → Prop
  | [], _ => True
  | e :: es, o => (∃ v, RepP fr w e v ∧ v.cells.size = z ∧ ∀ j c, v.cells[j]? = some c → c.oneCell' = true ∧ w.cell? ⟨b, o + j, none⟩ = some c) ∧ RepE fr w z b es (o + z)
end

/-- Claimed cells stay claimed and as they were. -/
def Ext (fr : Nat → Nat) (w : World) (fr' : Nat → Nat) (w' : World) : Prop :=
  ∀ b o, o < fr b → o < fr' b ∧ w'.cell? ⟨b, o, none⟩ = w.cell? ⟨b, o, none⟩ ∧ mapAt w' b = mapAt w b

theorem Ext.refl (fr : Nat → Nat) (w : World) : Ext fr w fr w := fun _ _ h => ⟨h, rfl, rfl⟩
theorem Ext.trans {f1 f2 f3 : Nat → Nat} {w1 w2 w3 : World} (h : Ext f1 w1 f2 w2) (k : Ext f2 w2 f3 w3) : Ext f1 w1 f3 w3 :=
  fun b o ho => let ⟨a, e⟩ := h b o ho; let ⟨a', e'⟩ := k b o a; ⟨a', e'.1.trans e.1, e'.2.trans e.2⟩
theorem Ext.le {f1 f2 : Nat → Nat} {w1 w2 : World} (h : Ext f1 w1 f2 w2) (b : Nat) : f1 b ≤ f2 b := by
  rcases Nat.eq_zero_or_pos (f1 b) with h0 | h0
  · omega
  · have := (h b (f1 b - 1) (by omega)).1; omega

section
variable {f1 f2 : Nat → Nat} {w1 w2 : World}
mutual
theorem RepP.ext (h : Ext f1 w1 f2 w2) : ∀ (x : PV) (v : Value), RepP f1 w1 x v → RepP f2 w2 x v
  | .int _ _, _, r => r
  | .bool _, _, r => r
  | .str _, _, r => r
  | .opq _, _, r => r
  | .agg cs, v, r => by
    simp only [RepP] at r ⊢
    obtain ⟨vs, e, r⟩ := r
    exact ⟨vs, e, RepL.ext h cs _ r⟩
  | .sl z es, v, r => by
    simp only [RepP] at r ⊢
    rcases r with r | ⟨b, o, cap, e, hc, hf, r⟩
    · exact .inl r
    · exact .inr ⟨b, o, cap, e, hc, Nat.le_trans hf (h.le b), RepE.ext h z b es o hf r⟩
  | .mp ks xs, v, r => by
    simp only [RepP] at r ⊢
    obtain ⟨b, arr, c, e, hf, hm, r1, r2⟩ := r
    exact ⟨b, arr, c, e, (h b 0 hf).1, (h b 0 hf).2.2.trans hm, RepV.ext h ks _ r1, RepV.ext h xs _ r2⟩
theorem RepL.ext (h : Ext f1 w1 f2 w2) : ∀ (cs : List PV) (vs : List Value), RepL f1 w1 cs vs → RepL f2 w2 cs vs
  | [], _, r => by simpa only [RepL] using r
  | c :: cs, vs, r => by
    simp only [RepL] at r ⊢
    obtain ⟨v, vs', e, h1, h2, h3⟩ := r
    exact ⟨v, vs', e, h1, RepP.ext h c v h2, RepL.ext h cs vs' h3⟩
theorem RepV.ext (h : Ext f1 w1 f2 w2) : ∀ (cs : List PV) (vs : List Value), RepV f1 w1 cs vs → RepV f2 w2 cs vs
  | [], _, r => by simpa only [RepV] using r
  | c :: cs, vs, r => by
    simp only [RepV] at r ⊢
    obtain ⟨v, vs', e, h2, h3⟩ := r
    exact ⟨v, vs', e, RepP.ext h c v h2, RepV.ext h cs vs' h3⟩
theorem RepE.ext (h : Ext f1 w1 f2 w2) (z b : Nat) : ∀ (es : List PV) (o : Nat), o + es.length * z ≤ f1 b → RepE f1 w1 z b es o → RepE f2 w2 z b es o
  | [], _, _, _ => by simp only [RepE]
  | e :: es, o, hf, r => by
    simp only [RepE] at r ⊢
    have hl : (e :: es).length * z = es.length * z + z := by simp [Nat.add_mul]
    obtain ⟨⟨v, h1, h2, h3⟩, h4⟩ := r
    refine ⟨⟨v, RepP.ext h e v h1, h2, fun j c hj => ?_⟩, RepE.ext h z b es (o + z) (by omega) h4⟩
    have hj' : j < z := by rw [← h2]; exact (Array.getElem?_eq_some_iff.1 hj).1
    rw [(h b (o + j) (by omega)).2.1]
    exact h3 j c hj
end
end

theorem RepE.move {f1 f2 : Nat → Nat} {w1 w2 : World} (h : Ext f1 w1 f2 w2) {z b : Nat} (hb : ∀ o, w2.cell? ⟨b, o, none⟩ = w1.cell? ⟨b, o, none⟩) : ∀ (es : List PV) (o : Nat), RepE f1 w1 z b es o → RepE f2 w2 z b es o
  | [], _, _ => by simp only [RepE]
  | e :: es, o, r => by
    simp only [RepE] at r ⊢
    obtain ⟨⟨v, h1, h2, h3⟩, h4⟩ := r
    exact ⟨⟨v, RepP.ext h e v h1, h2, fun j c hj => by rw [hb]; exact h3 j c hj⟩, RepE.move h hb es (o + z) h4⟩
theorem RepE.get {fr : Nat → Nat} {w : World} {z b : Nat} : ∀ {es : List PV} {o : Nat}, RepE fr w z b es o → ∀ {i : Nat} {e : PV}, es[i]? = some e →
    ∃ v, RepP fr w e v ∧ v.cells.size = z ∧ ∀ j c, v.cells[j]? = some c → c.oneCell' = true ∧ w.cell? ⟨b, o + i * z + j, none⟩ = some c
  | [], _, _, _, _, he => by simp at he
  | x :: es, o, r, i, e, he => by
    simp only [RepE] at r
    cases i with
    | zero => simp at he; subst he; simpa using r.1
    | succ i =>
      have := RepE.get r.2 (i := i) (e := e) (by simpa using he)
      have e1 : o + z + i * z = o + (i + 1) * z := by rw [Nat.add_mul]; omega
      rwa [e1] at this

theorem RepE.append {fr : Nat → Nat} {w : World} {z b : Nat} : ∀ {es es' : List PV} {o : Nat}, RepE fr w z b es o → RepE fr w z b es' (o + es.length * z) → RepE fr w z b (es ++ es') o
  | [], es', o, _, r' => by simpa using r'
  | e :: es, es', o, r, r' => by
    simp only [List.cons_append, RepE] at r ⊢
    refine ⟨r.1, RepE.append r.2 ?_⟩
    have e1 : o + (e :: es).length * z = o + z + es.length * z := by simp [Nat.add_mul]; omega
    rwa [e1] at r'

theorem RepE.left {fr : Nat → Nat} {w : World} {z b : Nat} : ∀ {es es' : List PV} {o : Nat}, RepE fr w z b (es ++ es') o → RepE fr w z b es o ∧ RepE fr w z b es' (o + es.length * z)
  | [], es', o, r => by simpa [RepE] using r
  | e :: es, es', o, r => by
    simp only [List.cons_append, RepE] at r ⊢
    obtain ⟨h1, h2⟩ := RepE.left r.2
    refine ⟨⟨r.1, h1⟩, ?_⟩
    have e1 : o + (e :: es).length * z = o + z + es.length * z := by simp [Nat.add_mul]; omega
    rwa [e1]

/-- A block of cells that may be written, of at least so many cells. -/
inductive BN where
  | le (n : Nat)
  | eq (T : TypeId) (m : Nat)
def Blk (w : World) (b : Nat) : BN → Prop
  | .le n => ∃ arr T, w.heap[b]? = some (.cells arr T (0, 0)) ∧ n ≤ arr.size
  | .eq T m => ∃ arr, w.heap[b]? = some (.cells arr T (0, 0)) ∧ arr.size = m

/-- A block that may be written, of just so many cells. -/
def Whole (w : World) (b n : Nat) : Prop :=
  ∃ arr T, w.heap[b]? = some (.cells arr T (0, 0)) ∧ arr.size = n ∧ (∀ v ∈ arr.toList, v.oneCell' = true) ∧ n ≤ 9223372036854775807

mutual
def RepA (g : Gh) (w : World) : AV → Value → Prop
  | .p x, v => RepP g.fr w x v
  | .os t z es, v => RepP g.fr w (.sl z es) v ∧ ((∃ a len, v = .slice a len len) ∨
      ∃ b o len cap, v = .slice (some ⟨b, o, none⟩) len cap ∧ g.K b = .tail t ∧ g.fr b = o + len * z ∧ Blk w b (.le (o + cap * z)))
  | .om t ks xs, v => ∃ b arr c, v = .map (some b) ∧ g.K b = .tail t ∧ g.fr b = 0 ∧ mapAt w b = some (arr, c) ∧ RepV g.fr w ks (arr.toList.map (·.key)) ∧ RepV g.fr w xs (arr.toList.map (·.val))
  | .ow t z es, v => (es = [] ∧ ∃ a, v = .slice a 0 0) ∨
      ∃ b cap, v = .slice (some ⟨b, 0, none⟩) es.length cap ∧ es.length ≤ cap ∧ g.K b = .tail t ∧ g.fr b = 0 ∧ Whole w b (cap * z) ∧ RepE g.fr w z b es 0
  | .lp t o, v => ∃ b, g.K b = .root t ∧ v = .pointer (some ⟨b, o, none⟩)
  | .la t z o n, v => ∃ b o' cap, g.K b = .root t ∧ v = .slice (some ⟨b, o', none⟩) n cap ∧ n ≤ cap ∧ (n = 0 ∨ o' = o) ∧ Blk w b (.le (o' + cap * z))
  | .ip z e o, v => ∃ b base, v = .pointer (some ⟨b, base + o, none⟩) ∧ base + z ≤ g.fr b ∧ RepE g.fr w z b [e] base
  | .gd c x, v => (c = true → RepA g w x v) ∧ (c = false → v = undef)
  | .tup xs, v => ∃ vs : Array Value, v = .tuple vs ∧ RepAL g w xs vs.toList
  | .ag xs, v => ∃ vs : Array Value, v = .agg vs ∧ (∀ u ∈ vs.toList, u.oneCell' = true) ∧ RepAL g w xs vs.toList
  | .fn f xs, v => ∃ vs : Array Value, v = .func (.func f) #[] vs ∧ RepAL g w xs vs.toList
  | .bb t T l, v => (l = [] ∧ v = .slice none 0 0) ∨
      ∃ b cap arr, v = .slice (some ⟨b, 0, none⟩) l.length cap ∧ g.K b = .tail t ∧ g.fr b = 0 ∧ w.heap[b]? = some (.cells arr T (0, 0)) ∧ l.length ≤ cap ∧ cap ≤ 9223372036854775807 ∧ arr.size = cap ∧ (arr.toList.take l.length = l.map fun c => Value.int .u8 (c.toNat : Int)) ∧ l ≠ []
  | .bz t T m, v => ∃ b, g.K b = .root t ∧ Blk w b (.eq T m) ∧ (v = .pointer none ∨ v = .pointer (some ⟨b, 0, none⟩))
  | .junk, _ => True
def RepAL (g : Gh) (w : World) : List AV → List Value → Prop
  | [], vs => vs = []
  | x :: xs, vs => ∃ v vs', vs = v :: vs' ∧ RepA g w x v ∧ RepAL g w xs vs'
end

end Go.AM

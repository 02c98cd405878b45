/- A part of the proof of this seat's statements, by an abstract machine: what each operation does to values, proved over the model, whatever the program. No condition beyond those that stand. -/
import Derived.Test.YtlmejofikpnbpaaDoorAmA
import Derived.Laws.AppendOwn
namespace Go.AM

def look {α : Type} : List (Nat × α) → Nat → Option α
  | [], _ => none
  | (k, x) :: l, t => if k = t then some x else look l t
def lookT {α : Type} : List (Tok × α) → Tok → Option α
  | [], _ => none
  | (k, x) :: l, t => if k = t then some x else lookT l t
def putL {α : Type} : List (Nat × α) → Nat → α → List (Nat × α)
  | [], t, x => [(t, x)]
  | (k, y) :: l, t, x => if k = t then (t, x) :: l else (k, y) :: putL l t x
def putT {α : Type} : List (Tok × α) → Tok → α → List (Tok × α)
  | [], t, x => [(t, x)]
  | (k, y) :: l, t, x => if k = t then (t, x) :: l else (k, y) :: putT l t x

theorem look_putL {α : Type} (l : List (Nat × α)) (t : Nat) (x : α) (u : Nat) : look (putL l t x) u = if t = u then some x else look l u := by
  induction l with
  | nil => simp [putL, look]
  | cons y l ih =>
    obtain ⟨k, y⟩ := y
    simp only [putL]
    split
    · rename_i h; subst h; simp only [look]; split <;> rfl
    · rename_i h
      simp only [look, ih]
      split
      · rename_i h2; subst h2; rw [if_neg (fun e => h e.symm)]
      · rfl
theorem lookT_putT {α : Type} (l : List (Tok × α)) (t : Tok) (x : α) (u : Tok) : lookT (putT l t x) u = if t = u then some x else lookT l u := by
  induction l with
  | nil => simp [putT, lookT]
  | cons y l ih =>
    obtain ⟨k, y⟩ := y
    simp only [putT]
    split
    · rename_i h; subst h; simp only [lookT]; split <;> rfl
    · rename_i h
      simp only [lookT, ih]
      split
      · rename_i h2; subst h2; rw [if_neg (fun e => h e.symm)]
      · rfl

structure St where
  n : Nat
  nv : Nat
  vs : List (Nat × AV)
  ts : List (Nat × AV)
  rs : List (Tok × List AV)
  pin : List Tok := []
  ex : List Nat := []
  rm : List Nat := []
  bt : List TypeId := []

/-- A slot that is kept from region to region. -/
def St.kept (S : St) (t : Nat) : Bool := decide (t < S.nv) || S.ex.contains t
def orJunk : Option AV → AV
  | some x => x
  | none => .junk
def St.get (S : St) (t : Nat) : AV := if S.kept t then orJunk (look S.vs t) else orJunk (look S.ts t)
def St.set (S : St) (t : Nat) (x : AV) : St :=
  if S.kept t then { S with vs := putL S.vs t x } else { S with ts := (t, x) :: S.ts }
theorem St.set_n (S : St) (t : Nat) (x : AV) : (S.set t x).n = S.n := by unfold St.set; split <;> rfl
theorem St.set_pin (S : St) (t : Nat) (x : AV) : (S.set t x).pin = S.pin := by unfold St.set; split <;> rfl
theorem St.set_rs (S : St) (t : Nat) (x : AV) : (S.set t x).rs = S.rs := by unfold St.set; split <;> rfl
theorem St.set_kept (S : St) (t : Nat) (x : AV) (u : Nat) : (S.set t x).kept u = S.kept u := by unfold St.set; split <;> rfl
theorem St.get_set (S : St) (t : Nat) (x : AV) (u : Nat) : (S.set t x).get u = if t = u then x else S.get u := by
  have hk := S.set_kept t x u
  unfold St.get
  rw [hk]
  unfold St.set
  by_cases ht : S.kept t = true
  · simp only [ht, if_true, look_putL]
    by_cases e : t = u
    · subst e; simp [ht, orJunk]
    · simp [e]
  · have ht' : S.kept t = false := by simpa using ht
    simp only [ht', Bool.false_eq_true, if_false, look]
    by_cases e : t = u
    · subst e; simp [ht', orJunk]
    · simp [e]

def AV.upd (f : AV → AV) : AV → AV
  | .tup xs => .tup (xs.map f)
  | .gd c x => .gd c (f x)
  | x => f x
/-- Tokens that are given up: pointers into such roots go, slices with such tails are plain. -/
def fil1 (rt tt : Tok → Bool) : AV → AV
  | .lp t o => if rt t then .lp t o else .junk
  | .la t z o n => if rt t then .la t z o n else .junk
  | .os t z es => if tt t then .os t z es else .p (.sl z es)
  | .om t ks xs => if tt t then .om t ks xs else .junk
  | .ow t z es => if tt t then .ow t z es else .junk
  | .bb t T l => if tt t then .bb t T l else .junk
  | .bz t T m => if rt t then .bz t T m else .junk
  | .tup _ => .junk
  | .gd _ _ => .junk
  | .ag _ => .junk
  | .fn _ _ => .junk
  | x => x
def fil (rt tt : Tok → Bool) : AV → AV
  | .ag xs => .ag (xs.map (fil1 rt tt))
  | .fn f xs => .fn f (xs.map (fil1 rt tt))
  | x => fil1 rt tt x
def St.fil (rt tt : Tok → Bool) (S : St) : St :=
  { S with vs := S.vs.map fun x => (x.1, x.2.upd (AM.fil rt tt)), ts := S.ts.map fun x => (x.1, x.2.upd (AM.fil rt tt)),
           rs := S.rs.map fun x => (x.1, x.2.map (AV.upd (AM.fil rt tt))) }
theorem look_map {α : Type} (f : α → α) (l : List (Nat × α)) (t : Nat) : look (l.map fun x => (x.1, f x.2)) t = (look l t).map f := by
  induction l with
  | nil => rfl
  | cons y l ih => simp only [List.map_cons, look, ih]; split <;> rfl
theorem lookT_map {α : Type} (f : α → α) (l : List (Tok × α)) (t : Tok) : lookT (l.map fun x => (x.1, f x.2)) t = (lookT l t).map f := by
  induction l with
  | nil => rfl
  | cons y l ih => simp only [List.map_cons, lookT, ih]; split <;> rfl
theorem St.get_fil (rt tt : Tok → Bool) (S : St) (t : Nat) : (S.fil rt tt).get t = (S.get t).upd (AM.fil rt tt) := by
  have hk : (S.fil rt tt).kept t = S.kept t := rfl
  unfold St.get
  rw [hk]
  have h : ∀ l : List (Nat × AV), orJunk (look (l.map fun x => (x.1, x.2.upd (AM.fil rt tt))) t) = (orJunk (look l t)).upd (AM.fil rt tt) := fun l => by
    rw [look_map (AV.upd (AM.fil rt tt))]
    cases look l t <;> simp [orJunk, AV.upd, AM.fil, AM.fil1]
  split
  · exact h S.vs
  · exact h S.ts

/-- What the program's own variables hold, from the start to the end: a block's cells. -/
class Gi where
  val : Nat → Option (Array Value)
/-- They do, and nobody owns them. -/
def GlOK [Gi] (g : Gh) (w : World) : Prop := ∀ b arr, Gi.val b = some arr → g.K b = .prot ∧ ∃ T f, w.heap[b]? = some (.cells arr T f)
/-- How the call began. -/
structure Ent [Gi] where
  w0 : World
  g0 : Gh
  gl : GlOK g0 w0
def Ent.may [Gi] (E : Ent) (b : Nat) : Prop := E.w0.heap.size ≤ b ∨ E.g0.K b ≠ .prot

def RootOK (g : Gh) (w : World) (b : Nat) (cs : List AV) : Prop :=
  g.fr b = 0 ∧ ∃ arr T, w.heap[b]? = some (.cells arr T (0, 0)) ∧ cs.length ≤ arr.size ∧ ∀ (j : Nat) (x : AV), cs[j]? = some x → ∃ v, arr[j]? = some v ∧ v.oneCell' = true ∧ RepA g w x v

structure SR [Gi] (E : Ent) (S : St) (g : Gh) (a : Act) (w : World) : Prop where
  size : a.tmps.size = S.n
  defers : a.defers = []
  slots : ∀ t, RepA g w (S.get t) (a.tmps.getD t undef)
  roots : ∀ b t, g.K b = .root t → ∃ cs, lookT S.rs t = some cs ∧ RootOK g w b cs
  ur : ∀ b b' t, g.K b = .root t → g.K b' = .root t → b = b'
  ut : ∀ b b' t, g.K b = .tail t → g.K b' = .tail t → b = b'
  own : ∀ b, g.K b ≠ .prot → b < w.heap.size ∧ E.may b
  frame : ∀ b, ¬ E.may b → w.heap[b]? = E.w0.heap[b]? ∧ g.fr b = E.g0.fr b
  ext : Ext E.g0.fr E.w0 g.fr w
  out : w.os = E.w0.os ∧ w.tape = E.w0.tape ∧ w.output = E.w0.output
  mono : E.w0.heap.size ≤ w.heap.size
  frb : ∀ b, w.heap.size ≤ b → g.fr b = 0
  pins : ∀ b t, E.g0.K b = .root t → t ∈ S.pin → g.K b = .root t ∧ ∀ n, Blk E.w0 b n → Blk w b n

theorem SR.gl [Gi] {E : Ent} {S : St} {g : Gh} {a : Act} {w : World} (h : SR E S g a w) : GlOK g w := fun b arr e => by
  obtain ⟨hk, T, f, hb⟩ := E.gl b arr e
  have hlt : b < E.w0.heap.size := (Array.getElem?_eq_some_iff.1 hb).1
  have hmay : ¬ E.may b := fun m => m.elim (fun k => by omega) (fun k => k hk)
  exact ⟨Classical.byContradiction fun hn => hmay (h.own b hn).2, T, f, (h.frame b hmay).1.trans hb⟩
theorem cell_of_heap {w w' : World} {b o : Nat} (h : w'.heap[b]? = w.heap[b]?) : w'.cell? ⟨b, o, none⟩ = w.cell? ⟨b, o, none⟩ :=
  World.cell?_of_block (a := ⟨b, o, none⟩) h
theorem Blk.of_heap {w w' : World} {b : Nat} {n : BN} (h : w'.heap[b]? = w.heap[b]?) (k : Blk w b n) : Blk w' b n := by
  cases n with
  | le n =>
    obtain ⟨arr, T, e, l⟩ := k
    exact ⟨arr, T, h.trans e, l⟩
  | eq T m =>
    obtain ⟨arr, e, l⟩ := k
    exact ⟨arr, h.trans e, l⟩
theorem Blk.le {w : World} {b n m : Nat} (k : Blk w b (.le n)) (h : m ≤ n) : Blk w b (.le m) := by
  obtain ⟨arr, T, e, l⟩ := k
  exact ⟨arr, T, e, by omega⟩
theorem Whole.of_heap {w w' : World} {b n : Nat} (h : w'.heap[b]? = w.heap[b]?) (k : Whole w b n) : Whole w' b n := by
  obtain ⟨arr, T, e, l⟩ := k
  exact ⟨arr, T, h.trans e, l⟩
theorem mapAt_of_heap {w w' : World} {b : Nat} (h : w'.heap[b]? = w.heap[b]?) : mapAt w' b = mapAt w b := by unfold mapAt; rw [h]
/-- One representation carried to another ghost and world. -/
structure Keep (g : Gh) (w : World) (g' : Gh) (w' : World) (rt tt : Tok → Bool) : Prop where
  ext : Ext g.fr w g'.fr w'
  kr : ∀ b t, rt t = true → g.K b = .root t → g'.K b = .root t ∧ ∀ n, Blk w b n → Blk w' b n
  kt : ∀ b t, tt t = true → g.K b = .tail t → g'.K b = .tail t ∧ g'.fr b = g.fr b ∧ w'.heap[b]? = w.heap[b]?

theorem RepA.flat1 {g g' : Gh} {w w' : World} {rt tt : Tok → Bool} (k : Keep g w g' w' rt tt) : ∀ (x : AV) (v : Value), RepA g w x v → RepA g' w' (fil1 rt tt x) v
  | .p x, v, r => by simp only [fil1, RepA] at r ⊢; exact r.ext k.ext
  | .os t z es, v, r => by
    simp only [RepA] at r
    obtain ⟨h1, h2⟩ := r
    simp only [fil1]
    split
    · rename_i ht
      simp only [RepA]
      refine ⟨h1.ext k.ext, h2.imp id ?_⟩
      rintro ⟨b, o, len, cap, e, hk, hf, hb⟩
      obtain ⟨a1, a2, a3⟩ := k.kt b t ht hk
      exact ⟨b, o, len, cap, e, a1, a2.trans hf, Blk.of_heap a3 hb⟩
    · simp only [RepA]; exact h1.ext k.ext
  | .om t ks xs, v, r => by
    simp only [fil1]
    split
    · rename_i ht
      simp only [RepA] at r ⊢
      obtain ⟨b, arr, c, e, hk, hf, hm, r1, r2⟩ := r
      obtain ⟨a1, a2, a3⟩ := k.kt b t ht hk
      exact ⟨b, arr, c, e, a1, a2.trans hf, (mapAt_of_heap a3).trans hm, r1.ext k.ext, r2.ext k.ext⟩
    · simp only [RepA]
  | .ow t z es, v, r => by
    simp only [fil1]
    split
    · rename_i ht
      simp only [RepA] at r ⊢
      refine r.imp id ?_
      rintro ⟨b, cap, e, hc, hk, hf, hw, he⟩
      obtain ⟨a1, a2, a3⟩ := k.kt b t ht hk
      exact ⟨b, cap, e, hc, a1, a2.trans hf, Whole.of_heap a3 hw, RepE.move k.ext (fun o => cell_of_heap a3) es 0 he⟩
    · simp only [RepA]
  | .lp t o, v, r => by
    simp only [fil1]
    split
    · rename_i ht
      simp only [RepA] at r ⊢
      obtain ⟨b, hk, e⟩ := r
      exact ⟨b, (k.kr b t ht hk).1, e⟩
    · simp only [RepA]
  | .la t z o n, v, r => by
    simp only [fil1]
    split
    · rename_i ht
      simp only [RepA] at r ⊢
      obtain ⟨b, o', cap, hk, e, hn⟩ := r
      exact ⟨b, o', cap, (k.kr b t ht hk).1, e, hn.1, hn.2.1, (k.kr b t ht hk).2 _ hn.2.2⟩
    · simp only [RepA]
  | .ip z e o, v, r => by
    simp only [fil1, RepA] at r ⊢
    obtain ⟨b, base, ev, hf, he⟩ := r
    exact ⟨b, base, ev, Nat.le_trans hf (k.ext.le b), RepE.ext k.ext z b [e] base (by simpa using hf) he⟩
  | .gd c x, v, r => by simp only [fil1, RepA]
  | .tup xs, v, r => by simp only [fil1, RepA]
  | .ag xs, v, r => by simp only [fil1, RepA]
  | .fn f xs, v, r => by simp only [fil1, RepA]
  | .bz t T m, v, r => by
    simp only [fil1]
    split
    · rename_i ht
      simp only [RepA] at r ⊢
      obtain ⟨b, hk, hb, e⟩ := r
      exact ⟨b, (k.kr b t ht hk).1, (k.kr b t ht hk).2 _ hb, e⟩
    · simp only [RepA]
  | .bb t T l, v, r => by
    simp only [fil1]
    split
    · rename_i ht
      simp only [RepA] at r ⊢
      refine r.imp id ?_
      rintro ⟨b, cap, arr, e, hk, hf, hb, rest⟩
      obtain ⟨a1, a2, a3⟩ := k.kt b t ht hk
      exact ⟨b, cap, arr, e, a1, a2.trans hf, a3.trans hb, rest⟩
    · simp only [RepA]
  | .junk, v, r => by simp only [fil1, RepA]
theorem RepAL.map {g g' : Gh} {w w' : World} (f : AV → AV) (h : ∀ x v, RepA g w x v → RepA g' w' (f x) v) : ∀ (xs : List AV) (vs : List Value), RepAL g w xs vs → RepAL g' w' (xs.map f) vs
  | [], vs, r => by simpa only [RepAL, List.map_nil] using r
  | x :: xs, vs, r => by
    simp only [RepAL, List.map_cons] at r ⊢
    obtain ⟨v, vs', e, h1, h2⟩ := r
    exact ⟨v, vs', e, h x v h1, RepAL.map f h xs vs' h2⟩
theorem RepA.flat {g g' : Gh} {w w' : World} {rt tt : Tok → Bool} (k : Keep g w g' w' rt tt) (x : AV) (v : Value) (r : RepA g w x v) : RepA g' w' (fil rt tt x) v := by
  cases x with
  | ag xs =>
    simp only [fil, RepA] at r ⊢
    obtain ⟨vs, e, h1, r⟩ := r
    exact ⟨vs, e, h1, RepAL.map _ (RepA.flat1 k) xs _ r⟩
  | fn f xs =>
    simp only [fil, RepA] at r ⊢
    obtain ⟨vs, e, r⟩ := r
    exact ⟨vs, e, RepAL.map _ (RepA.flat1 k) xs _ r⟩
  | _ => exact RepA.flat1 k _ v r
theorem RepAL.flat {g g' : Gh} {w w' : World} {rt tt : Tok → Bool} (k : Keep g w g' w' rt tt) : ∀ (xs : List AV) (vs : List Value), RepAL g w xs vs → RepAL g' w' (xs.map (fil rt tt)) vs :=
  RepAL.map _ (RepA.flat k)
theorem RepA.upd {g g' : Gh} {w w' : World} {rt tt : Tok → Bool} (k : Keep g w g' w' rt tt) (x : AV) (v : Value) (r : RepA g w x v) : RepA g' w' (x.upd (fil rt tt)) v := by
  cases x with
  | tup xs =>
    simp only [AV.upd, RepA] at r ⊢
    obtain ⟨vs, e, r⟩ := r
    exact ⟨vs, e, RepAL.flat k xs _ r⟩
  | gd c x =>
    simp only [AV.upd, RepA] at r ⊢
    exact ⟨fun hc => RepA.flat k x v (r.1 hc), r.2⟩
  | _ => exact RepA.flat k _ v r

def ftt : Tok → Bool := fun _ => true
mutual
theorem RepA.all {g g' : Gh} {w w' : World} (k : Keep g w g' w' ftt ftt) : ∀ (x : AV) (v : Value), RepA g w x v → RepA g' w' x v
  | .gd c x, v, r => by simp only [RepA] at r ⊢; exact ⟨fun hc => RepA.all k x v (r.1 hc), r.2⟩
  | .tup xs, v, r => by simp only [RepA] at r ⊢; obtain ⟨vs, e, r⟩ := r; exact ⟨vs, e, RepAL.all k xs _ r⟩
  | .ag xs, v, r => by simp only [RepA] at r ⊢; obtain ⟨vs, e, h1, r⟩ := r; exact ⟨vs, e, h1, RepAL.all k xs _ r⟩
  | .fn f xs, v, r => by simp only [RepA] at r ⊢; obtain ⟨vs, e, r⟩ := r; exact ⟨vs, e, RepAL.all k xs _ r⟩
  | .p x, v, r => by have := RepA.flat k _ v r; simpa only [fil, fil1] using this
  | .os t z es, v, r => by have := RepA.flat k _ v r; simpa [fil, fil1, ftt] using this
  | .om t ks xs, v, r => by have := RepA.flat k _ v r; simpa [fil, fil1, ftt] using this
  | .ow t z es, v, r => by have := RepA.flat k _ v r; simpa [fil, fil1, ftt] using this
  | .bb t T l, v, r => by have := RepA.flat k _ v r; simpa [fil, fil1, ftt] using this
  | .bz t T m, v, r => by have := RepA.flat k _ v r; simpa [fil, fil1, ftt] using this
  | .lp t o, v, r => by have := RepA.flat k _ v r; simpa [fil, fil1, ftt] using this
  | .la t z o n, v, r => by have := RepA.flat k _ v r; simpa [fil, fil1, ftt] using this
  | .ip z e o, v, r => by have := RepA.flat k _ v r; simpa only [fil, fil1] using this
  | .junk, v, r => by simp only [RepA]
theorem RepAL.all {g g' : Gh} {w w' : World} (k : Keep g w g' w' ftt ftt) : ∀ (xs : List AV) (vs : List Value), RepAL g w xs vs → RepAL g' w' xs vs
  | [], vs, r => by simpa only [RepAL] using r
  | x :: xs, vs, r => by simp only [RepAL] at r ⊢; obtain ⟨v, vs', e, h1, h2⟩ := r; exact ⟨v, vs', e, RepA.all k x v h1, RepAL.all k xs vs' h2⟩
end

end Go.AM

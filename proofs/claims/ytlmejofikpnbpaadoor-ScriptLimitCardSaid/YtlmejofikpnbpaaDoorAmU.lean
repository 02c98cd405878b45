/- A part of the proof of this seat's statements, by an abstract machine: what each operation does to values, proved over the model, whatever the program. No condition beyond those that stand. -/
import Derived.Test.YtlmejofikpnbpaaDoorAmT
import Derived.ProofKit
import Derived.Deep.Slices
namespace Go.AM
open Go.ChangeShapes Go.WideShapes
/-! ### What is handed in, as values -/
/-- How far a block's cells go. -/
def frW (w : World) (b : Nat) : Nat := match w.heap[b]? with
  | some (.cells c _ _) => c.size
  | _ => 0
theorem frW_lt {w : World} {a : Addr} {v : Value} (h : w.cell? a = some v) : a.spot = none ∧ a.off < frW w a.block := by
  unfold World.cell? at h
  unfold frW
  split at h
  · rename_i c _ _ hb
    rw [hb]
    split at h
    · cases h
    · rename_i hs
      refine ⟨by cases hq : a.spot with
        | none => rfl
        | some _ => rw [hq] at hs; simp at hs, (Array.getElem?_eq_some_iff.1 h).1⟩
  · cases h
section
variable {H : Type} {enc : TypeId × Value → H} {P : Program} {w : World} {base : Nat} {spare : Nat → Bool} {held : Bool}
/-- A reading gives cells with this form. -/
def Opens (enc : TypeId × Value → H) (P : Program) (w : World) (base : Nat) (spare : Nat → Bool) (held : Bool) (t : TypeId) (Q : List PV → Prop) : Prop :=
  ∀ (fuel : Nat) (cs : List Value) (x : DataW H × List MemPlace), DataW.trod enc P w base spare held fuel t cs = some x → ∃ xs, Q xs ∧ RepL (frW w) w xs cs
theorem opens_int {t : TypeId} {k : IntKind} (ht : P.underlying t = some (.int k)) : Opens enc P w base spare held t fun xs => ∃ n, xs = [.int k n] ∧ (Lit.int k n).wf = true := by
  intro fuel cs x h
  cases fuel with
  | zero => simp [DataW.trod] at h
  | succ n =>
    unfold DataW.trod at h
    rw [ht] at h
    split at h <;> simp_all
    exact ⟨[.int _ _], ⟨_, rfl, h.1.2⟩, ⟨_, [], rfl, rfl, rfl, rfl⟩⟩
theorem RepE.mk {fr : Nat → Nat} {w : World} {z b : Nat} : ∀ {es : List PV} {o : Nat}, (∀ (i : Nat) (e : PV), es[i]? = some e → ∃ v, RepP fr w e v ∧ v.cells.size = z ∧ ∀ j c, v.cells[j]? = some c → c.oneCell' = true ∧ w.cell? ⟨b, o + i * z + j, none⟩ = some c) → RepE fr w z b es o
  | [], o, h => by simp only [RepE]
  | x :: es, o, h => by
    simp only [RepE]
    refine ⟨by simpa using h 0 x rfl, RepE.mk fun i e he => ?_⟩
    have := h (i + 1) e (by simpa using he)
    rwa [show o + (i + 1) * z = o + z + i * z from by rw [Nat.add_mul]; omega] at this
theorem choose_list {R : Nat → PV → Prop} : ∀ {n : Nat}, (∀ i, i < n → ∃ el, R i el) → ∃ es : List PV, es.length = n ∧ ∀ i el, es[i]? = some el → R i el
  | 0, _ => ⟨[], rfl, by simp⟩
  | n + 1, h => by
    obtain ⟨es, h1, h2⟩ := choose_list (n := n) fun i hi => h i (by omega)
    obtain ⟨el, hr⟩ := h n (by omega)
    refine ⟨es ++ [el], by simp [h1], fun i x hx => ?_⟩
    rw [List.getElem?_append] at hx
    split at hx
    · exact h2 i x hx
    · rename_i hi
      have hl := (List.getElem?_eq_some_iff.1 hx).1
      simp at hl
      have : i = n := by omega
      subst this
      simp [h1] at hx
      subst hx
      exact hr
theorem opens_slice {t e : TypeId} {QE : PV → Prop} (ht : P.underlying t = some (.slice e)) (hz : 0 < P.cellsOf e)
    (hel : ∀ (fuel : Nat) (cs : List Value) (x : DataW H × List MemPlace), DataW.trod enc P w base spare held fuel e cs = some x → ∃ el v, QE el ∧ RepP (frW w) w el v ∧ v.cells.toList = cs ∧ ∀ c ∈ cs, c.oneCell' = true) :
    Opens enc P w base spare held t fun xs => ∃ es, xs = [.sl (P.cellsOf e) es] ∧ ∀ el ∈ es, QE el := by
  intro fuel cs x h
  rcases Go.Deep.open_slice ht h with ⟨rfl, _⟩ | ⟨a, len, cap, m, n, D, Pl, rfl, hb, hlc, _, hm, _, hi⟩
  · exact ⟨_, ⟨[], rfl, by simp⟩, by simp only [RepL, RepP]; exact ⟨_, [], rfl, rfl, .inl ⟨trivial, _, _, rfl⟩, rfl⟩⟩
  · have hlm : len ≤ m := by rw [hm]; split <;> omega
    have each : ∀ i, i < len → ∃ el v, QE el ∧ RepP (frW w) w el v ∧ v.cells.size = P.cellsOf e ∧ ∀ j c, v.cells[j]? = some c → c.oneCell' = true ∧ w.cell? ((a.add (i * P.cellsOf e)).add j) = some c := by
      intro i hil
      obtain ⟨cs', h1, h2⟩ := hi i (by omega)
      obtain ⟨el, v, q, r, hv, hone⟩ := hel _ _ _ h2
      obtain ⟨k1, k2, k3⟩ := World.cells?_some h1
      refine ⟨el, v, q, r, by have : v.cells.toList.length = cs'.length := by rw [hv]
                              simpa [k2] using this, fun j c hj => ?_⟩
      have hj' : cs'[j]? = some c := by rw [← hv]; simpa using hj
      have hjl : j < P.cellsOf e := by have := (List.getElem?_eq_some_iff.1 hj').1; omega
      exact ⟨hone c (List.mem_of_getElem? hj'), (k3 j hjl).trans hj'⟩
    obtain ⟨es, hlen, hes⟩ := choose_list each
    subst hlen
    refine ⟨_, ⟨es, rfl, fun el hel' => ?_⟩, ?_⟩
    · obtain ⟨i, hi'⟩ := List.mem_iff_getElem?.1 hel'
      obtain ⟨v, q, _⟩ := hes i el hi'
      exact q
    · simp only [RepL, RepP]
      refine ⟨_, [], rfl, rfl, ?_, rfl⟩
      by_cases h0 : es.length = 0
      · exact .inl ⟨List.eq_nil_of_length_eq_zero h0, _, _, by rw [h0]⟩
      · right
        have cell : ∀ i j, i < es.length → j < P.cellsOf e → ∃ c, w.cell? ((a.add (i * P.cellsOf e)).add j) = some c := fun i j hi' hj => by
          obtain ⟨el, v, _, _, hs, hc⟩ := each i hi'
          have : j < v.cells.size := by omega
          exact ⟨_, (hc j _ (Array.getElem?_eq_getElem this)).2⟩
        obtain ⟨c0, hc0⟩ := cell 0 0 (by omega) hz
        simp only [Nat.zero_mul, Addr.add, if_true] at hc0
        have hsp := (frW_lt hc0).1
        obtain ⟨b, o, sp⟩ := a
        simp only at hsp
        subst hsp
        refine ⟨b, o, cap, rfl, hlc, ?_, RepE.mk fun i el hi' => ?_⟩
        · obtain ⟨c1, hc1⟩ := cell (es.length - 1) (P.cellsOf e - 1) (by omega) (by omega)
          rw [addr_add, addr_add] at hc1
          have := (frW_lt hc1).2
          simp only at this
          have e1 : es.length * P.cellsOf e = (es.length - 1) * P.cellsOf e + P.cellsOf e := by
            obtain ⟨k, hk⟩ : ∃ k, es.length = k + 1 := ⟨es.length - 1, by omega⟩
            rw [hk, Nat.add_mul]; simp
          omega
        · obtain ⟨v, _, r, hs, hc⟩ := hes i el hi'
          refine ⟨v, r, hs, fun j c hj => ?_⟩
          have := hc j c hj
          rw [addr_add, addr_add] at this
          exact this
theorem opens_bool {t : TypeId} (ht : P.underlying t = some .bool) : Opens enc P w base spare held t fun xs => ∃ b, xs = [.bool b] := by
  intro fuel cs x h
  cases fuel with
  | zero => simp [DataW.trod] at h
  | succ n =>
    unfold DataW.trod at h
    rw [ht] at h
    split at h <;> simp_all
    rename_i b
    cases b
    · exact .inl ⟨_, [], rfl, rfl, by simp only [RepP], rfl⟩
    · exact .inr ⟨_, [], rfl, rfl, by simp only [RepP], rfl⟩
theorem opens_string {t : TypeId} (ht : P.underlying t = some .string) : Opens enc P w base spare held t fun xs => ∃ s, xs = [.str s] := by
  intro fuel cs x h
  cases fuel with
  | zero => simp [DataW.trod] at h
  | succ n =>
    unfold DataW.trod at h
    rw [ht] at h
    split at h <;> simp_all
    rename_i s
    exact ⟨[.str s.data.toList], ⟨_, rfl⟩, ⟨_, [], rfl, rfl, by simp only [RepP], rfl⟩⟩
def PartsQ : List (List PV → Prop) → List PV → Prop
  | [], xs => xs = []
  | Q :: Qs, xs => ∃ a b, xs = a ++ b ∧ Q a ∧ PartsQ Qs b
def laid (P : Program) : List Field → Nat → Nat → Bool
  | [], o, n => o == n
  | f :: fs, o, n => f.offset == o && laid P fs (o + P.cellsOf f.type) n
/-- Each field's reading. -/
def AllO (enc : TypeId × Value → H) (P : Program) (w : World) (base : Nat) (spare : Nat → Bool) (held : Bool) : List Field → List (List PV → Prop) → Prop
  | [], [] => True
  | f :: fs, Q :: Qs => Opens enc P w base spare held f.type Q ∧ AllO enc P w base spare held fs Qs
  | _, _ => False
theorem opens_parts {cs : List Value} {m : Nat} : ∀ {fs : List Field} {Qs : List (List PV → Prop)} {o : Nat}, AllO enc P w base spare held fs Qs → laid P fs o cs.length = true →
    (∀ f ∈ fs, ∃ y, DataW.trod enc P w base spare held m f.type ((cs.drop f.offset).take (P.cellsOf f.type)) = some y) → ∃ xs, PartsQ Qs xs ∧ RepL (frW w) w xs (cs.drop o)
  | [], [], o, _, hl, _ => by
    simp only [laid, beq_iff_eq] at hl
    exact ⟨[], rfl, by simp [RepL, hl]⟩
  | [], _ :: _, _, h, _, _ => h.elim
  | _ :: _, [], _, h, _, _ => h.elim
  | f :: fs, Q :: Qs, o, h, hl, hy => by
    simp only [laid, Bool.and_eq_true, beq_iff_eq] at hl
    obtain ⟨y, e⟩ := hy f (by simp)
    obtain ⟨a, qa, ra⟩ := h.1 _ _ _ e
    obtain ⟨b, qb, rb⟩ := opens_parts h.2 hl.2 (fun g hg => hy g (by simp [hg]))
    refine ⟨a ++ b, ⟨a, b, rfl, qa, qb⟩, ?_⟩
    rw [hl.1] at ra
    rw [← List.take_append_drop (P.cellsOf f.type) (cs.drop o), List.drop_drop]
    exact RepL.append ra rb
theorem opens_struct {t : TypeId} {fs : Array Field} {Qs : List (List PV → Prop)} (ht : P.underlying t = some (.struct fs)) (hl : laid P fs.toList 0 (P.cellsOf t) = true) (hQ : AllO enc P w base spare held fs.toList Qs) :
    Opens enc P w base spare held t (PartsQ Qs) := by
  intro fuel cs x h
  obtain ⟨xs, n, _, _, hc, hlen, hf⟩ := DataW.trod_struct ht h
  rw [← hc] at hl
  obtain ⟨ys, q, r⟩ := opens_parts (cs := cs) (m := n) hQ hl (fun f hm => by
    obtain ⟨i, hi⟩ := List.mem_iff_getElem?.1 hm
    have hi' : fs[i]? = some f := by simpa using hi
    have hx := hf i f hi'
    have : i < xs.length := by rw [hlen]; exact (Array.getElem?_eq_some_iff.1 hi').1
    exact ⟨xs[i], by rw [hx]; simp [this]⟩)
  exact ⟨ys, q, by simpa using r⟩
/-- An element that is one cell. -/
theorem el_one {e : TypeId} {Q : PV → Prop} (h : Opens enc P w base spare held e fun xs => ∃ x, xs = [x] ∧ Q x) :
    ∀ (fuel : Nat) (cs : List Value) (x : DataW H × List MemPlace), DataW.trod enc P w base spare held fuel e cs = some x → ∃ el v, Q el ∧ RepP (frW w) w el v ∧ v.cells.toList = cs ∧ ∀ c ∈ cs, c.oneCell' = true := by
  intro fuel cs x hx
  obtain ⟨xs, ⟨y, rfl, q⟩, r⟩ := h _ _ _ hx
  simp only [RepL] at r
  obtain ⟨v, vs', rfl, h1, h2, rfl⟩ := r
  refine ⟨y, v, q, h2, ?_, by simpa using h1⟩
  cases v <;> simp_all [Value.oneCell', Value.cells]
theorem RepL.ones {fr : Nat → Nat} {w : World} : ∀ {xs : List PV} {cs : List Value}, RepL fr w xs cs → ∀ c ∈ cs, c.oneCell' = true
  | [], cs, h => by simp only [RepL] at h; subst h; simp
  | x :: xs, cs, h => by
    simp only [RepL] at h
    obtain ⟨y, ys, rfl, h1, _, h3⟩ := h
    intro c hc
    rcases List.mem_cons.1 hc with rfl | hc
    · exact h1
    · exact RepL.ones h3 c hc
/-- An element that is a struct. -/
theorem el_agg {e : TypeId} {Q : List PV → Prop} (h : Opens enc P w base spare held e Q) :
    ∀ (fuel : Nat) (cs : List Value) (x : DataW H × List MemPlace), DataW.trod enc P w base spare held fuel e cs = some x → ∃ el v, (∃ xs, el = .agg xs ∧ Q xs) ∧ RepP (frW w) w el v ∧ v.cells.toList = cs ∧ ∀ c ∈ cs, c.oneCell' = true := by
  intro fuel cs x hx
  obtain ⟨xs, q, r⟩ := h _ _ _ hx
  exact ⟨.agg xs, .agg cs.toArray, ⟨xs, rfl, q⟩, by simp only [RepP]; exact ⟨_, rfl, r⟩, by simp [Value.cells], RepL.ones r⟩
end
end Go.AM

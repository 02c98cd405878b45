/- A part of the proof of this seat's statements, by an abstract machine: what each operation does to values, proved over the model, whatever the program. No condition beyond those that stand. -/
import Derived.Test.YtlmejofikpnbpaaDoorAmDl
namespace Go.AM
/-! ### Regions of few orders: each is walked -/
inductive OT where
  | mk (l : List (Nat × OT))
mutual
def opsT [Gi] (P : Program) (ops : Array Oper) (K : St → Prop) : OT → St → Prop
  | .mk [], S => K S
  | .mk (x :: l), S => opsTL P ops K (x :: l) S
def opsTL [Gi] (P : Program) (ops : Array Oper) (K : St → Prop) : List (Nat × OT) → St → Prop
  | [], _ => True
  | (i, t) :: l, S => (match ops[i]? with
    | some o => match guardA ops S o with
      | some c => stepA P S o c (opsT P ops K t)
      | none => False
    | none => False) ∧ opsTL P ops K l S
end
def okT (ops : Array Oper) : Nat → Array Bool → OT → Bool
  | 0, listed, .mk l => l.isEmpty && (Region.ready .any ops listed).isEmpty
  | f + 1, listed, .mk l => (l.map (·.1) == Region.ready .any ops listed) && l.all fun x => okT ops f (listed.setIfInBounds x.1 true) x.2
theorem opsTL_get [Gi] {P : Program} {ops : Array Oper} {K : St → Prop} {S : St} : ∀ {l : List (Nat × OT)} {i : Nat} {t : OT}, opsTL P ops K l S → (i, t) ∈ l →
    ∃ o c, ops[i]? = some o ∧ guardA ops S o = some c ∧ stepA P S o c (opsT P ops K t)
  | (j, u) :: l, i, t, h, hm => by
    simp only [opsTL] at h
    rcases List.mem_cons.1 hm with e | hm
    · injection e with e1 e2; subst e1; subst e2
      have h1 := h.1
      cases ho : ops[i]? with
      | none => rw [ho] at h1; exact h1.elim
      | some o =>
        rw [ho] at h1
        simp only at h1
        cases hg : guardA ops S o with
        | none => rw [hg] at h1; exact h1.elim
        | some c => rw [hg] at h1; exact ⟨o, c, rfl, hg, h1⟩
    · exact opsTL_get h.2 hm
theorem opsT_any [Gi] {P : Program} {ops : Array Oper} {Q : Exit → Act → World → Prop} {E : Ent} {K : St → Prop} (hQ : ∀ S' g' a' w', K S' → SR E S' g' a' w' → Q .normal a' w') :
    ∀ (f : Nat) (listed : Array Bool) (t : OT) {S : St} {g : Gh} {a : Act} {w : World}, okT ops f listed t = true → opsT P ops K t S → SR E S g a w → wpAny P .any ops Q f listed a w
  | 0, listed, .mk l, S, g, a, w, hok, h, hS => by
    simp only [okT, Bool.and_eq_true, List.isEmpty_iff] at hok
    obtain ⟨rfl, hr⟩ := hok
    exact ⟨hr, hQ S g a w (by simpa only [opsT] using h) hS⟩
  | f + 1, listed, .mk l, S, g, a, w, hok, h, hS => by
    simp only [okT, Bool.and_eq_true, beq_iff_eq, List.all_eq_true] at hok
    obtain ⟨hr, hall⟩ := hok
    refine ⟨fun hn => ?_, fun i hi => ?_⟩
    · have hl : l = [] := by rw [hn] at hr; simpa using hr
      subst hl
      exact hQ S g a w (by simpa only [opsT] using h) hS
    · rw [← hr, List.mem_map] at hi
      obtain ⟨⟨j, t⟩, hm, rfl⟩ := hi
      have h' : opsTL P ops K l S := by
        cases l with
        | nil => cases hm
        | cons x l => simpa only [opsT] using h
      obtain ⟨o, c, ho, hg, hst⟩ := opsTL_get h' hm
      have := step_sound (P := P) hS hg hst (next := fun a' w' => wpAny P .any ops Q f (listed.setIfInBounds j true) a' w') (Q := Q) (fun S' g' a' w' hk hs => opsT_any hQ f _ t (hall _ hm) hk hs)
      unfold wpOp
      simp only [ho]
      split
      · rename_i hw
        rw [if_pos hw] at this
        exact .inl this
      · rename_i hw
        rw [if_neg hw] at this
        exact this
theorem regionT_sound [Gi] {P : Program} {id : Nat} {ops : Array Oper} (hm : P.follows .mixedOrders = true) {Q : Exit → Act → World → Prop} {E : Ent} {K : St → Prop}
    (hQ : ∀ S' g' a' w', K S' → SR E S' g' a' w' → Q .normal a' w') {S : St} {g : Gh} {a : Act} {w : World} (h : ∃ t, okT ops ops.size (Array.replicate ops.size false) t = true ∧ opsT P ops K t S) (hS : SR E S g a w) : (Code.region id ops true).wp P Q a w := by
  obtain ⟨t, hok, h⟩ := h
  have hw1 : SR E S g a { w with drawn := w.drawn + 1 } := hS.drew
  exact wp_region_any hm (opsT_any hQ _ _ t hok h hw1)
end Go.AM

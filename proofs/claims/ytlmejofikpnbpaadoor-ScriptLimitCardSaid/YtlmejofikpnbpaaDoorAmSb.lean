/- A part of the proof of this seat's statements, by an abstract machine: what each operation does to values, proved over the model, whatever the program. No condition beyond those that stand. -/
import Derived.Test.YtlmejofikpnbpaaDoorAmMu
import Derived.Lib.ConvBytes
import Derived.Laws.AppendOwn
namespace Go.AM

/-! ### A text's bytes, as a slice of their own -/
def isBytesD (P : Program) (d : TypeId) : Option TypeId :=
  match ty P d with
  | some ⟨.slice e, _, _, _⟩ => match ty P e with
    | some ⟨.int .u8, _, _, _⟩ => some e
    | _ => none
  | _ => none
def byteVs (l : List UInt8) : List PV := l.map fun c => .int .u8 (c.toNat : Int)
def sbD (P : Program) (S : St) (d : Nat) (s t : TypeId) (x : AV) : Prop × St :=
  match x with
  | .p (.str l) => ((∃ e z b u, isBytesD P t = some e ∧ ty P s = some ⟨.string, z, b, u⟩) ∧ d < S.n, S.set d (.p (.sl 1 (byteVs l))))
  | _ => (False, S)
theorem sb_sound [Gi] {P : Program} {E : Ent} {S : St} {g : Gh} {a : Act} {w : World} (hS : SR E S g a w) {d : Nat} {s t : TypeId} {x : AV} {v : Value} (h : (sbD P S d s t x).1) (hr : RepA g w x v) :
    ∃ r w' g', (convert s t v).run P w = .ok r w' ∧ SR E (sbD P S d s t x).2 g' (a.put (some d) r) w' := by
  unfold sbD at h ⊢
  split at h
  · rename_i l
    obtain ⟨⟨e, z, b, u, h1, h2⟩, hd⟩ := h
    simp only [RepA, RepP] at hr
    subst hr
    unfold isBytesD at h1
    split at h1
    · rename_i e' _ _ _ hT
      split at h1
      · rename_i _ _ _ hE
        injection h1 with h1; subst h1
        have u1 : P.underlying s = some .string := by obtain ⟨_, _, hu, _⟩ := ty_spec h2; exact hu
        have u2 : P.underlying t = some (.slice e') := by obtain ⟨_, _, hu, _⟩ := ty_spec hT; exact hu
        have u3 : P.underlying e' = some (.int .u8) := by obtain ⟨_, _, hu, _⟩ := ty_spec hE; exact hu
        have hb := Lib.bytesWorld_size w e' ⟨l.toArray⟩
        have hsz : (⟨l.toArray⟩ : ByteArray).size = l.length := by simp [ByteArray.size]
        have key : SR E S ⟨updN g.fr w.heap.size l.length, g.K⟩ a (Lib.bytesWorld w e' ⟨l.toArray⟩) := by
          refine hS.extend (fun c hc => ⟨Lib.bytesWorld_at_old w e' _ c hc, updN_ne _ _ _ (by omega)⟩) ⟨rfl, rfl, rfl⟩ (by omega) (fun c hc => ?_)
          rw [updN_ne _ _ _ (by omega)]
          exact hS.frb c (by omega)
        refine ⟨_, _, _, Lib.run_convert_string_bytes w s t e' ⟨l.toArray⟩ u1 u2 u3, key.put (x := .p (.sl 1 (byteVs l))) ?_ hd⟩
        simp only [RepA, RepP]
        refine .inr ⟨w.heap.size, 0, grownCap w (⟨l.toArray⟩ : ByteArray).size 0 e', by rw [hsz]; simp [byteVs], ?_, ?_, ?_⟩
        · have := grownCap_ge w (⟨l.toArray⟩ : ByteArray).size 0 e'
          rw [hsz] at this ⊢
          simpa [byteVs] using this
        · show 0 + (byteVs l).length * 1 ≤ updN g.fr w.heap.size l.length w.heap.size
          rw [updN_same]; simp [byteVs]
        · refine RepE_bytes fun j u hu => ?_
          have hj : j < l.length := by
            have := (List.getElem?_eq_some_iff.1 hu).1
            simpa using this
          have hc := Lib.bytesWorld_cell w e' ⟨l.toArray⟩ j (by rw [hsz]; exact hj)
          rw [Nat.zero_add, hc]
          simp only [List.getElem?_map, List.getElem?_eq_getElem hj, Option.map_some, Option.some.injEq] at hu
          rw [← hu]
          simp [List.getD, hj]
      · cases h1
    · cases h1
  · exact h.elim
end Go.AM

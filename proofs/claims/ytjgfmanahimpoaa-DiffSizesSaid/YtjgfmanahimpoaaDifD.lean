/- What the document's Put makes of a row. Conditions: as each law says. -/
import Derived.Test.YtjgfmanahimpoaaDifC
namespace Go.Proofs.Ytjgfmanahimpoaa
open Go.AM
/-- A glyph, put into a row. -/
def putR (l : Row) (c : Nat) (x : Cl) : Row := (if x.w = 2 then (looseR (looseR l c) (c + 1)).set (c + 1) ⟨[], 0⟩ else looseR l c).set c x
def putB (C R : Nat) (r c : Int) (x : Cl) : Bool := decide (0 ≤ r) && decide (r < R) && decide (0 ≤ c) && decide (c < C) && (decide (x.w = 1) || decide (x.w = 2)) && (!decide (x.w = 2) || decide (c + 1 < C))
def putI (C R : Nat) (r c : Int) (x : Cl) (i : Nat) (l : Row) : Row := if putB C R r c x then if r = (i : Int) then putR l c.toNat x else l else l
theorem loose_c (l : Row) (c C : Nat) (hC : l.length = C) (hc : c < l.length) (hl : C ≤ 1000) (ho : OkR l) : CR Try.prog 61 [[0]] [.la [0] 2 0 C, .p (.int .i64 c)] (rowRoot l) (fun x rs' => x = .tup [] ∧ rs' = rowRoot (looseR l c)) := by
  subst hC
  exact loose_cr l c hc hl ho
theorem putR_len (l : Row) (c : Nat) (x : Cl) : (putR l c x).length = l.length := by
  unfold putR
  split <;> simp [looseR_len]
theorem putI_len (C R : Nat) (r c : Int) (x : Cl) (i : Nat) (l : Row) : (putI C R r c x i l).length = l.length := by
  unfold putI
  split
  · split
    · exact putR_len _ _ _
    · rfl
  · rfl
theorem putI_ok (C R : Nat) (r c : Int) (x : Cl) (i : Nat) (l : Row) (hl : l.length = C) (h : OkR l) : OkR (putI C R r c x i l) := by
  unfold putI
  split
  · rename_i hb
    split
    · have hb' : ((((0 ≤ r ∧ r < R) ∧ 0 ≤ c) ∧ c < C) ∧ (x.w = 1 ∨ x.w = 2)) ∧ (¬ x.w = 2 ∨ c + 1 < C) := by simpa [putB] using hb
      obtain ⟨⟨⟨⟨_, h0⟩, h1⟩, h2⟩, h3⟩ := hb'
      unfold putR
      by_cases hw : x.w = 2
      · rw [if_pos hw]
        refine (((h.looseR _).looseR _).set _ _ (fun _ => by omega) (fun e => by simp at e)).set _ _ (fun e => by omega) (fun _ => ?_)
        rw [List.length_set, looseR_len, looseR_len, hl]
        have := h3.resolve_left (by simpa using hw)
        omega
      · rw [if_neg hw]
        exact (h.looseR _).set _ _ (fun e => by omega) (fun e => absurd e hw)
    · exact h
  · exact h
end Go.Proofs.Ytjgfmanahimpoaa

/- What the document's Erase makes of a row. Conditions: as each law says. -/
import Derived.Test.YtjgfmanahimpoaaDifD
namespace Go.Proofs.Ytjgfmanahimpoaa
open Go.AM
/-- So many cells of a row, made blank from a place on. -/
def eraseP (l : Row) (c : Nat) : Nat → Row
  | 0 => l
  | j + 1 => looseR (eraseP l c j) (c + j)
theorem eraseP_len (l : Row) (c j : Nat) : (eraseP l c j).length = l.length := by
  induction j with
  | zero => rfl
  | succ j ih => rw [eraseP, looseR_len, ih]
theorem eraseP_ok (l : Row) (c j : Nat) (h : OkR l) : OkR (eraseP l c j) := by
  induction j with
  | zero => exact h
  | succ j ih => exact ih.looseR _
def eraseI (C R : Nat) (r c : Int) (i : Nat) (l : Row) : Row := if (0 ≤ r ∧ r < R) ∧ 0 ≤ c then if r = (i : Int) then eraseP l c.toNat (C - c.toNat) else l else l
theorem eraseI_len (C R : Nat) (r c : Int) (i : Nat) (l : Row) : (eraseI C R r c i l).length = l.length := by
  unfold eraseI
  split
  · split
    · exact eraseP_len _ _ _
    · rfl
  · rfl
theorem eraseI_ok (C R : Nat) (r c : Int) (i : Nat) (l : Row) (h : OkR l) : OkR (eraseI C R r c i l) := by
  unfold eraseI
  split
  · split
    · exact eraseP_ok _ _ _ h
    · exact h
  · exact h
end Go.Proofs.Ytjgfmanahimpoaa

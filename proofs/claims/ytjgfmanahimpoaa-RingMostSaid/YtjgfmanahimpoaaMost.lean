/- RingMost returns true for every input, and leaves what it was given as it was. Conditions: none beyond the row's own. -/
import Derived.Test.YtjgfmanahimpoaaRows
import Derived.Test.YtjgfmanahimpoaaMostC
import Derived.Test.YtjgfmanahimpoaaAmV
namespace Go.Proofs.Ytjgfmanahimpoaa
open Go.ChangeShapes Go.WideShapes Go.ChangeAt Go.RowKit Go.AM
set_option maxRecDepth 100000
theorem Try.own : ownKnob Try.prog.godebug = none := by kernel_rfl
theorem Try.laidOut : laidOutB Try.prog = true := by kernel_rfl
section
variable {H : Type} {enc : TypeId × Value → H} {W : World}
theorem opens_i : Opens enc Try.prog W 0 (fun _ => true) true 3 fun xs => ∃ x, xs = [x] ∧ ∃ n, x = .int .i64 n := by
  intro fuel cs x h
  obtain ⟨xs, ⟨n, rfl, _⟩, r⟩ := opens_int (k := .i64) (by kernel_rfl) _ _ _ h
  exact ⟨_, ⟨_, rfl, n, rfl⟩, r⟩
end
theorem most_lifted (os : Os) (started : os.Started) (H : Type) (enc : TypeId × Value → H) :
    ReturnsInHanded {} Try.checked os 9 .any (Rows.ringMostSpec.pre6 enc Try.prog Try.f9 Rows.ringMostRow.domain false) (Rows.ringMostSpec.post enc Try.prog Try.f9 false true false false) := by
  refine returnsInHanded_of_change (C := Try.checked) Try.own started (by kernel_rfl) Try.func9
    (ChangeSpec.witness6 (enc := enc) (C := Try.checked) false ⟨#[], #[.int .i64 0], []⟩ 8 (by kernel_rfl) (by kernel_rfl) (by kernel_rfl) (by kernel_rfl)) ?_
  intro W base args ds gs before hval hW _ _
  refine contract_of (C := Try.checked) (Qs := [fun x => ∃ n, x = .int .i64 n]) (tb := 4) Try.laidOut rfl (by kernel_rfl) rfl (by kernel_rfl) ?_ ?_ ?_ W base args ds gs before hval hW
  · intro ds h
    match ds, h with
    | [_], _ => rfl
  · exact ⟨arg_one (by kernel_rfl) fun W => opens_i, trivial⟩
  · intro xs q
    match xs, q with
    | [_], ⟨⟨n, rfl⟩, _⟩ => exact most_cr n
theorem most_holds : Rows.RingMostSaid :=
  OpenClaim.holds_of_wide 9 Try.f9 rfl rfl rfl rfl rfl rfl rfl ⟨rfl, rfl, rfl, rfl, rfl⟩ rfl rfl rfl rfl rfl (by kernel_rfl) Try.func9 (by kernel_rfl)
    (of_decide_eq_true (by kernel_rfl)) (by unfold Func.isWrapper; first | (rw [if_pos (by decide +kernel)]; kernel_rfl) | (rw [if_neg (by decide +kernel)]; exact ⟨rfl, rfl⟩))
    (fun os started H enc _ => most_lifted os started H enc)
end Go.Proofs.Ytjgfmanahimpoaa

/- GapAsks returns true for every input, and leaves what it was given as it was. Conditions: none beyond the row's own. -/
import Derived.Test.YtklhmamefbehjaaPlays
import Derived.Test.YtklhmamefbehjaaGapJ
namespace Go.Proofs.Ytklhmamefbehjaa
open Go.ChangeShapes Go.WideShapes Go.ChangeAt Go.RowKit Go.AM
set_option maxRecDepth 100000
theorem asks_lifted (os : Os) (started : os.Started) (H : Type) (enc : TypeId × Value → H) :
    ReturnsInHanded {} Try.checked os 4 .any (Rows.gapAsksSpec.pre6 enc Try.prog Try.f4 Rows.gapAsksRow.domain false) (Rows.gapAsksSpec.post enc Try.prog Try.f4 false true false false) := by
  refine returnsInHanded_of_change (C := Try.checked) Try.own started (by kernel_rfl) Try.func4
    (ChangeSpec.witness6 (enc := enc) (C := Try.checked) false ⟨#[], #[.slice none 0 0, .slice none 0 0, .int .i64 0, .int .i64 0], []⟩ 8 (by kernel_rfl) (by kernel_rfl) (by kernel_rfl) (by kernel_rfl)) ?_
  intro W base args ds gs before hval hW _ _
  refine contract_of (C := Try.checked) (Qs := [fun x => ∃ l, x = ints l, fun x => ∃ l, x = deeds l, fun x => ∃ n, x = .int .i64 n, fun x => ∃ n, x = .int .i64 n]) (tb := 4) Try.laidOut rfl (by kernel_rfl) rfl (by kernel_rfl) ?_ ?_ ?_ W base args ds gs before hval hW
  · intro ds h
    match ds, h with
    | [_, _, _, _], _ => rfl
  · exact ⟨arg_one (by kernel_rfl) fun W => opens_ints, arg_one (by kernel_rfl) fun W => opens_deeds, arg_one (by kernel_rfl) fun W => opens_i, arg_one (by kernel_rfl) fun W => opens_i, trivial⟩
  · intro xs q
    match xs, q with
    | [_, _, _, _], ⟨⟨l, rfl⟩, ⟨ds, rfl⟩, ⟨a, rfl⟩, ⟨b, rfl⟩, _⟩ => exact asks_cr l ds a b
theorem asks_holds : Rows.GapAsksSaid :=
  OpenClaim.holds_of_wide 4 Try.f4 rfl rfl rfl rfl rfl rfl rfl ⟨rfl, rfl, rfl, rfl, rfl⟩ rfl rfl rfl rfl rfl (by kernel_rfl) Try.func4 (by kernel_rfl)
    (of_decide_eq_true (by kernel_rfl)) (by unfold Func.isWrapper; first | (rw [if_pos (by decide +kernel)]; kernel_rfl) | (rw [if_neg (by decide +kernel)]; exact ⟨rfl, rfl⟩))
    (fun os started H enc _ => asks_lifted os started H enc)
end Go.Proofs.Ytklhmamefbehjaa

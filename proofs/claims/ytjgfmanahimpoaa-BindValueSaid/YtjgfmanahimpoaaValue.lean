/- BindValue returns true for every input, and leaves what it was given as it was. Conditions: none beyond the row's own. -/
import Derived.Test.YtjgfmanahimpoaaLooks
import Derived.Test.YtjgfmanahimpoaaBindG
namespace Go.Proofs.Ytjgfmanahimpoaa
open Go.ChangeShapes Go.WideShapes Go.ChangeAt Go.RowKit Go.AM
set_option maxRecDepth 100000
theorem arg_own {H : Type} {enc : TypeId × Value → H} : ArgIs enc Try.prog 38 fun x => ∃ o : Stroke × Int, o.1.ok ∧ x = ownP o := by
  intro W base v d p ho ht
  obtain ⟨x, ⟨xs, rfl, q⟩, r⟩ := arg_agg (by kernel_rfl) (fun W => opens_own) W base v d p ho ht
  obtain ⟨o, hs, e⟩ := own_spec q
  exact ⟨_, ⟨o, hs, e⟩, r⟩
theorem value_lifted (os : Os) (started : os.Started) (H : Type) (enc : TypeId × Value → H) :
    ReturnsInHanded {} Try.checked os 5 .any (Rows.bindValueSpec.pre6 enc Try.prog Try.f5 Rows.bindValueRow.domain false) (Rows.bindValueSpec.post enc Try.prog Try.f5 false true false false) := by
  refine returnsInHanded_of_change (C := Try.checked) Try.own started (by kernel_rfl) Try.func5
    (ChangeSpec.witness6 (enc := enc) (C := Try.checked) false ⟨#[], #[.slice none 0 0, .agg #[.bool false, .int .i64 0, .int .i32 0, .bool false, .int .i64 0]], []⟩ 8 (by kernel_rfl) (by kernel_rfl) (by kernel_rfl) (by kernel_rfl)) ?_
  intro W base args ds gs before hval hW _ _
  refine contract_of (C := Try.checked) (Qs := [fun x => ∃ l : Tbl, x = owns l ∧ ∀ o ∈ l, o.1.ok, fun x => ∃ o : Stroke × Int, o.1.ok ∧ x = ownP o]) (tb := 4) Try.laidOut rfl (by kernel_rfl) rfl (by kernel_rfl) ?_ ?_ ?_ W base args ds gs before hval hW
  · intro ds h
    match ds, h with
    | [_, _], _ => rfl
  · exact ⟨arg_one (by kernel_rfl) fun W => opens_owns, arg_own, trivial⟩
  · intro xs q
    rcases xs with _ | ⟨x, _ | ⟨y, _ | ⟨z, xs⟩⟩⟩
    · exact q.elim
    · exact q.2.elim
    · have h1 := q.1
      have h2 := q.2.1
      obtain ⟨l, hx, hl⟩ := h1
      obtain ⟨o, ho, hy⟩ := h2
      subst hx
      subst hy
      exact values_cr l o hl ho
    · exact q.2.2.elim
theorem value_holds : Rows.BindValueSaid :=
  OpenClaim.holds_of_wide 5 Try.f5 rfl rfl rfl rfl rfl rfl rfl ⟨rfl, rfl, rfl, rfl, rfl⟩ rfl rfl rfl rfl rfl (by kernel_rfl) Try.func5 (by kernel_rfl)
    (of_decide_eq_true (by kernel_rfl)) (by unfold Func.isWrapper; first | (rw [if_pos (by decide +kernel)]; kernel_rfl) | (rw [if_neg (by decide +kernel)]; exact ⟨rfl, rfl⟩))
    (fun os started H enc _ => value_lifted os started H enc)
end Go.Proofs.Ytjgfmanahimpoaa

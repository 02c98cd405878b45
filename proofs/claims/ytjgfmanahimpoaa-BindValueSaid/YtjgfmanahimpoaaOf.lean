/- BindOf returns true for every input, and leaves what it was given as it was. Conditions: none beyond the row's own. -/
import Derived.Test.YtjgfmanahimpoaaRows
import Derived.Test.YtjgfmanahimpoaaBindB
import Derived.Test.YtjgfmanahimpoaaAmV
namespace Go.Proofs.Ytjgfmanahimpoaa
open Go.ChangeShapes Go.WideShapes Go.ChangeAt Go.RowKit Go.AM
set_option maxRecDepth 100000
theorem Try.own : ownKnob Try.prog.godebug = none := by kernel_rfl
theorem Try.laidOut : laidOutB Try.prog = true := by kernel_rfl
section
variable {H : Type} {enc : TypeId × Value → H} {W : World}
theorem opens_i : Opens enc Try.prog W 0 (fun _ => true) true 3 fun xs => ∃ x, xs = [x] ∧ ∃ n, x = .int .i64 n := by
  intro fuel cs x h
  obtain ⟨xs, ⟨n, rfl, _⟩, r⟩ := opens_int (k := .i64) (by kernel_rfl) _ _ _ h
  exact ⟨_, ⟨_, rfl, n, rfl⟩, r⟩
theorem opens_r : Opens enc Try.prog W 0 (fun _ => true) true 21 fun xs => ∃ x, xs = [x] ∧ ∃ n, x = .int .i32 n := by
  intro fuel cs x h
  obtain ⟨xs, ⟨n, rfl, _⟩, r⟩ := opens_int (k := .i32) (by kernel_rfl) _ _ _ h
  exact ⟨_, ⟨_, rfl, n, rfl⟩, r⟩
theorem opens_b : Opens enc Try.prog W 0 (fun _ => true) true 4 fun xs => ∃ x, xs = [x] ∧ ∃ n, x = .bool n := by
  intro fuel cs x h
  obtain ⟨xs, ⟨n, rfl⟩, r⟩ := opens_bool (by kernel_rfl) _ _ _ h
  exact ⟨_, ⟨_, rfl, n, rfl⟩, r⟩
theorem opens_rs : Opens enc Try.prog W 0 (fun _ => true) true 22 fun xs => ∃ x, xs = [x] ∧ ∃ es, x = .sl 1 es := by
  intro fuel cs x h
  obtain ⟨xs, ⟨es, rfl, he⟩, r⟩ := opens_slice (e := 21) (QE := fun el => ∃ n, el = .int .i32 n) (by kernel_rfl) (of_decide_eq_true (by kernel_rfl)) (el_one opens_r) _ _ _ h
  exact ⟨_, ⟨_, rfl, es, rfl⟩, r⟩
theorem opens_key : Opens enc Try.prog W 0 (fun _ => true) true 24 (PartsQ [fun xs => ∃ x, xs = [x] ∧ ∃ n, x = .int .i64 n, fun xs => ∃ x, xs = [x] ∧ ∃ n, x = .int .i32 n, fun xs => ∃ x, xs = [x] ∧ ∃ n, x = .bool n, fun xs => ∃ x, xs = [x] ∧ ∃ es, x = .sl 1 es]) :=
  opens_struct Try.underlying24 (by kernel_rfl) ⟨opens_i, opens_r, opens_b, opens_rs, trivial⟩
end
theorem of_lifted (os : Os) (started : os.Started) (H : Type) (enc : TypeId × Value → H) :
    ReturnsInHanded {} Try.checked os 3 .any (Rows.bindOfSpec.pre6 enc Try.prog Try.f3 Rows.bindOfRow.domain false) (Rows.bindOfSpec.post enc Try.prog Try.f3 false true false false) := by
  refine returnsInHanded_of_change (C := Try.checked) Try.own started (by kernel_rfl) Try.func3
    (ChangeSpec.witness6 (enc := enc) (C := Try.checked) false ⟨#[], #[.bool false, .agg #[.int .i64 0, .int .i32 0, .bool false, .slice none 0 0]], []⟩ 8 (by kernel_rfl) (by kernel_rfl) (by kernel_rfl) (by kernel_rfl)) ?_
  intro W base args ds gs before hval hW _ _
  refine contract_of (C := Try.checked) (Qs := [fun x => ∃ n, x = .bool n, fun x => ∃ k r m es, x = .agg [.int .i64 k, .int .i32 r, .bool m, .sl 1 es]]) (tb := 4) Try.laidOut rfl (by kernel_rfl) rfl (by kernel_rfl) ?_ ?_ ?_ W base args ds gs before hval hW
  · intro ds h
    match ds, h with
    | [_, _], _ => rfl
  · refine ⟨arg_one (by kernel_rfl) fun W => opens_b, ?_, trivial⟩
    intro W base v d p ho ht
    obtain ⟨x, ⟨xs, rfl, q⟩, r⟩ := arg_agg (by kernel_rfl) (fun W => opens_key) W base v d p ho ht
    obtain ⟨a, b, rfl, ⟨_, rfl, k, rfl⟩, c, d, rfl, ⟨_, rfl, r1, rfl⟩, e, f, rfl, ⟨_, rfl, m, rfl⟩, g, h, rfl, ⟨_, rfl, es, rfl⟩, rfl⟩ := q
    exact ⟨_, ⟨k, r1, m, es, rfl⟩, r⟩
  · intro xs q
    match xs, q with
    | [_, _], ⟨⟨p, rfl⟩, ⟨k, r, m, es, rfl⟩, _⟩ => exact bindof_cr p k r m (.sl 1 es) rfl rfl
theorem of_holds : Rows.BindOfSaid :=
  OpenClaim.holds_of_wide 3 Try.f3 rfl rfl rfl rfl rfl rfl rfl ⟨rfl, rfl, rfl, rfl, rfl⟩ rfl rfl rfl rfl rfl (by kernel_rfl) Try.func3 (by kernel_rfl)
    (of_decide_eq_true (by kernel_rfl)) (by unfold Func.isWrapper; first | (rw [if_pos (by decide +kernel)]; kernel_rfl) | (rw [if_neg (by decide +kernel)]; exact ⟨rfl, rfl⟩))
    (fun os started H enc _ => of_lifted os started H enc)
end Go.Proofs.Ytjgfmanahimpoaa

/- GapPlays returns true for every input, and leaves what it was given as it was. Conditions: none beyond the row's own. -/
import Derived.Test.YtklhmamefbehjaaRows
import Derived.Test.YtklhmamefbehjaaGapH
import Derived.Test.YtklhmamefbehjaaAmV
namespace Go.Proofs.Ytklhmamefbehjaa
open Go.ChangeShapes Go.WideShapes Go.ChangeAt Go.RowKit Go.AM
set_option maxRecDepth 100000
theorem Try.own : ownKnob Try.prog.godebug = none := by kernel_rfl
theorem Try.laidOut : laidOutB Try.prog = true := by kernel_rfl
theorem of_all {α : Type} {f : α → PV} : ∀ {es : List PV}, (∀ el ∈ es, ∃ a, el = f a) → ∃ l : List α, es = l.map f
  | [], _ => ⟨[], rfl⟩
  | x :: xs, h => by
    obtain ⟨a, rfl⟩ := h x (by simp)
    obtain ⟨l, rfl⟩ := of_all (es := xs) fun el hel => h el (by simp [hel])
    exact ⟨a :: l, rfl⟩
section
variable {H : Type} {enc : TypeId × Value → H} {W : World}
theorem opens_i : Opens enc Try.prog W 0 (fun _ => true) true 3 fun xs => ∃ x, xs = [x] ∧ ∃ n, x = .int .i64 n := by
  intro fuel cs x h
  obtain ⟨xs, ⟨n, rfl, _⟩, r⟩ := opens_int (k := .i64) (by kernel_rfl) _ _ _ h
  exact ⟨_, ⟨_, rfl, n, rfl⟩, r⟩
theorem opens_ints : Opens enc Try.prog W 0 (fun _ => true) true 22 fun xs => ∃ x, xs = [x] ∧ ∃ l, x = ints l := by
  intro fuel cs x h
  obtain ⟨xs, ⟨es, rfl, he⟩, r⟩ := opens_slice (e := 3) (QE := fun el => ∃ n, el = .int .i64 n) (by kernel_rfl) (of_decide_eq_true (by kernel_rfl)) (el_one opens_i) _ _ _ h
  obtain ⟨l, rfl⟩ := of_all he
  exact ⟨_, ⟨_, rfl, l, rfl⟩, r⟩
theorem opens_deed : Opens enc Try.prog W 0 (fun _ => true) true 27 (PartsQ [fun xs => ∃ x, xs = [x] ∧ ∃ n, x = .int .i64 n, fun xs => ∃ x, xs = [x] ∧ ∃ n, x = .int .i64 n, fun xs => ∃ x, xs = [x] ∧ ∃ l, x = ints l]) :=
  opens_struct Try.underlying27 (by kernel_rfl) ⟨opens_i, opens_i, opens_ints, trivial⟩
theorem opens_deeds : Opens enc Try.prog W 0 (fun _ => true) true 23 fun xs => ∃ x, xs = [x] ∧ ∃ l, x = deeds l := by
  intro fuel cs x h
  obtain ⟨xs, ⟨es, rfl, he⟩, r⟩ := opens_slice (e := 27) (QE := fun el => ∃ d, el = deedP d) (by kernel_rfl) (of_decide_eq_true (by kernel_rfl)) (fun fuel cs x h => by
    obtain ⟨el, v, ⟨xs, rfl, q⟩, r⟩ := el_agg opens_deed _ _ _ h
    obtain ⟨a, b, rfl, ⟨_, rfl, n, rfl⟩, c, d, rfl, ⟨_, rfl, m, rfl⟩, e, f, rfl, ⟨_, rfl, l, rfl⟩, rfl⟩ := q
    exact ⟨_, v, ⟨⟨n, m, l⟩, rfl⟩, r⟩) _ _ _ h
  obtain ⟨l, rfl⟩ := of_all he
  exact ⟨_, ⟨_, rfl, l, rfl⟩, r⟩
end
theorem plays_lifted (os : Os) (started : os.Started) (H : Type) (enc : TypeId × Value → H) :
    ReturnsInHanded {} Try.checked os 3 .any (Rows.gapPlaysSpec.pre6 enc Try.prog Try.f3 Rows.gapPlaysRow.domain false) (Rows.gapPlaysSpec.post enc Try.prog Try.f3 false true false false) := by
  refine returnsInHanded_of_change (C := Try.checked) Try.own started (by kernel_rfl) Try.func3
    (ChangeSpec.witness6 (enc := enc) (C := Try.checked) false ⟨#[], #[.slice none 0 0, .slice none 0 0], []⟩ 8 (by kernel_rfl) (by kernel_rfl) (by kernel_rfl) (by kernel_rfl)) ?_
  intro W base args ds gs before hval hW _ _
  refine contract_of (C := Try.checked) (Qs := [fun x => ∃ l, x = ints l, fun x => ∃ l, x = deeds l]) (tb := 4) Try.laidOut rfl (by kernel_rfl) rfl (by kernel_rfl) ?_ ?_ ?_ W base args ds gs before hval hW
  · intro ds h
    match ds, h with
    | [_, _], _ => rfl
  · exact ⟨arg_one (by kernel_rfl) fun W => opens_ints, arg_one (by kernel_rfl) fun W => opens_deeds, trivial⟩
  · intro xs q
    match xs, q with
    | [_, _], ⟨⟨l, rfl⟩, ⟨ds, rfl⟩, _⟩ => exact plays_cr l ds
theorem plays_holds : Rows.GapPlaysSaid :=
  OpenClaim.holds_of_wide 3 Try.f3 rfl rfl rfl rfl rfl rfl rfl ⟨rfl, rfl, rfl, rfl, rfl⟩ rfl rfl rfl rfl rfl (by kernel_rfl) Try.func3 (by kernel_rfl)
    (of_decide_eq_true (by kernel_rfl)) (by unfold Func.isWrapper; first | (rw [if_pos (by decide +kernel)]; kernel_rfl) | (rw [if_neg (by decide +kernel)]; exact ⟨rfl, rfl⟩))
    (fun os started H enc _ => plays_lifted os started H enc)
end Go.Proofs.Ytklhmamefbehjaa

/- DiffSizes returns true for every input, and leaves what it was given as it was. Conditions: none beyond the row's own. -/
import Derived.Test.YtjgfmanahimpoaaRows
import Derived.Test.YtjgfmanahimpoaaSizA
import Derived.Test.YtjgfmanahimpoaaAmV
namespace Go.Proofs.Ytjgfmanahimpoaa
open Go.ChangeShapes Go.WideShapes Go.ChangeAt Go.RowKit Go.AM
set_option maxRecDepth 100000
theorem Try.own : ownKnob Try.prog.godebug = none := by kernel_rfl
theorem Try.laidOut : laidOutB Try.prog = true := by kernel_rfl
theorem of_all {α : Type} {f : α → PV} : ∀ {es : List PV}, (∀ el ∈ es, ∃ a, el = f a) → ∃ l : List α, es = l.map f
  | [], _ => ⟨[], rfl⟩
  | x :: xs, h => by
    obtain ⟨a, rfl⟩ := h x (by simp)
    obtain ⟨l, rfl⟩ := of_all (es := xs) fun el hel => h el (by simp [hel])
    exact ⟨a :: l, rfl⟩
section
variable {H : Type} {enc : TypeId × Value → H} {W : World}
abbrev QI : List PV → Prop := fun xs => ∃ x, xs = [x] ∧ ∃ n, x = .int .i64 n
abbrev QT : List PV → Prop := fun xs => ∃ x, xs = [x] ∧ ∃ s, x = .str s
theorem opens_i : Opens enc Try.prog W 0 (fun _ => true) true 3 QI := by
  intro fuel cs x h
  obtain ⟨xs, ⟨n, rfl, _⟩, r⟩ := opens_int (k := .i64) (by kernel_rfl) _ _ _ h
  exact ⟨_, ⟨_, rfl, n, rfl⟩, r⟩
theorem opens_s : Opens enc Try.prog W 0 (fun _ => true) true 9 QT := by
  intro fuel cs x h
  obtain ⟨xs, ⟨s, rfl⟩, r⟩ := opens_string (by kernel_rfl) _ _ _ h
  exact ⟨_, ⟨_, rfl, s, rfl⟩, r⟩
theorem opens_x : Opens enc Try.prog W 0 (fun _ => true) true 80 (PartsQ [QT, QI]) :=
  opens_struct Try.underlying80 (by kernel_rfl) ⟨opens_s, opens_i, trivial⟩
theorem opens_deed : Opens enc Try.prog W 0 (fun _ => true) true 82 (PartsQ [QI, QI, QI, PartsQ [QT, QI]]) :=
  opens_struct Try.underlying82 (by kernel_rfl) ⟨opens_i, opens_i, opens_i, opens_x, trivial⟩
theorem deed_spec {xs : List PV} (h : PartsQ [QI, QI, QI, PartsQ [QT, QI]] xs) : ∃ d : GDeed, PV.agg xs = gdeedP d := by
  obtain ⟨a, b, rfl, ⟨_, rfl, k, rfl⟩, c, d, rfl, ⟨_, rfl, r, rfl⟩, e, f, rfl, ⟨_, rfl, cc, rfl⟩, g, h, rfl, ⟨i, j, rfl, ⟨_, rfl, t, rfl⟩, l, m, rfl, ⟨_, rfl, w, rfl⟩, rfl⟩, rfl⟩ := h
  exact ⟨⟨k, r, cc, ⟨t, w⟩⟩, rfl⟩
theorem opens_deeds : Opens enc Try.prog W 0 (fun _ => true) true 43 fun xs => ∃ x, xs = [x] ∧ ∃ ds : List GDeed, x = .sl 5 (ds.map gdeedP) := by
  intro fuel cs x h
  obtain ⟨xs, ⟨es, rfl, he⟩, r⟩ := opens_slice (e := 82) (QE := fun el => ∃ d, el = gdeedP d) (by kernel_rfl) (of_decide_eq_true (by kernel_rfl)) (fun fuel cs x h => by
    obtain ⟨el, v, ⟨xs, rfl, q⟩, r⟩ := el_agg opens_deed _ _ _ h
    exact ⟨_, v, deed_spec q, r⟩) _ _ _ h
  obtain ⟨l, rfl⟩ := of_all he
  exact ⟨_, ⟨_, rfl, l, rfl⟩, r⟩
end
theorem sizes_lifted (os : Os) (started : os.Started) (H : Type) (enc : TypeId × Value → H) :
    ReturnsInHanded {} Try.checked os 6 .any (Rows.diffSizesSpec.pre6 enc Try.prog Try.f6 Rows.diffSizesRow.domain false) (Rows.diffSizesSpec.post enc Try.prog Try.f6 false true false false) := by
  refine returnsInHanded_of_change (C := Try.checked) Try.own started (by kernel_rfl) Try.func6
    (ChangeSpec.witness6 (enc := enc) (C := Try.checked) false ⟨#[], #[.int .i64 0, .int .i64 0, .int .i64 0, .int .i64 0, .slice none 0 0], []⟩ 8 (by kernel_rfl) (by kernel_rfl) (by kernel_rfl) (by kernel_rfl)) ?_
  intro W base args ds gs before hval hW _ _
  refine contract_of (C := Try.checked) (Qs := [fun x => ∃ n, x = .int .i64 n, fun x => ∃ n, x = .int .i64 n, fun x => ∃ n, x = .int .i64 n, fun x => ∃ n, x = .int .i64 n, fun x => ∃ ds : List GDeed, x = .sl 5 (ds.map gdeedP)]) (tb := 4) Try.laidOut rfl (by kernel_rfl) rfl (by kernel_rfl) ?_ ?_ ?_ W base args ds gs before hval hW
  · intro ds h
    match ds, h with
    | [_, _, _, _, _], _ => rfl
  · exact ⟨arg_one (by kernel_rfl) fun W => opens_i, arg_one (by kernel_rfl) fun W => opens_i, arg_one (by kernel_rfl) fun W => opens_i, arg_one (by kernel_rfl) fun W => opens_i, arg_one (by kernel_rfl) fun W => opens_deeds, trivial⟩
  · intro xs q
    match xs, q with
    | [_, _, _, _, _], ⟨⟨a, rfl⟩, ⟨b, rfl⟩, ⟨n, rfl⟩, ⟨m, rfl⟩, ⟨ds, rfl⟩, _⟩ => exact sizes_cr a b n m ds
theorem sizes_holds : Rows.DiffSizesSaid :=
  OpenClaim.holds_of_wide 6 Try.f6 rfl rfl rfl rfl rfl rfl rfl ⟨rfl, rfl, rfl, rfl, rfl⟩ rfl rfl rfl rfl rfl (by kernel_rfl) Try.func6 (by kernel_rfl)
    (of_decide_eq_true (by kernel_rfl)) (by unfold Func.isWrapper; first | (rw [if_pos (by decide +kernel)]; kernel_rfl) | (rw [if_neg (by decide +kernel)]; exact ⟨rfl, rfl⟩))
    (fun os started H enc _ => sizes_lifted os started H enc)
end Go.Proofs.Ytjgfmanahimpoaa

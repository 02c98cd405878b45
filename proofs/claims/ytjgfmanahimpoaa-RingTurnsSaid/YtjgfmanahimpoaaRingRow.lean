/- How lists of deeds are read from what the statements are given. Conditions: as each law says. -/
import Derived.Test.YtjgfmanahimpoaaRows
import Derived.Test.YtjgfmanahimpoaaRingI
import Derived.Test.YtjgfmanahimpoaaAmV
namespace Go.Proofs.Ytjgfmanahimpoaa
open Go.ChangeShapes Go.WideShapes Go.ChangeAt Go.RowKit Go.AM
set_option maxRecDepth 100000
theorem Try.own : ownKnob Try.prog.godebug = none := by kernel_rfl
theorem Try.laidOut : laidOutB Try.prog = true := by kernel_rfl
theorem of_all {α : Type} {f : α → PV} : ∀ {es : List PV}, (∀ el ∈ es, ∃ a, el = f a) → ∃ l : List α, es = l.map f
  | [], _ => ⟨[], rfl⟩
  | x :: xs, h => by
    obtain ⟨a, rfl⟩ := h x (by simp)
    obtain ⟨l, rfl⟩ := of_all (es := xs) fun el hel => h el (by simp [hel])
    exact ⟨a :: l, rfl⟩
section
variable {H : Type} {enc : TypeId × Value → H} {W : World}
theorem opens_i : Opens enc Try.prog W 0 (fun _ => true) true 3 fun xs => ∃ x, xs = [x] ∧ ∃ n, x = .int .i64 n := by
  intro fuel cs x h
  obtain ⟨xs, ⟨n, rfl, _⟩, r⟩ := opens_int (k := .i64) (by kernel_rfl) _ _ _ h
  exact ⟨_, ⟨_, rfl, n, rfl⟩, r⟩
theorem opens_r : Opens enc Try.prog W 0 (fun _ => true) true 21 fun xs => ∃ x, xs = [x] ∧ ∃ n, x = rn n := by
  intro fuel cs x h
  obtain ⟨xs, ⟨n, rfl, _⟩, r⟩ := opens_int (k := .i32) (by kernel_rfl) _ _ _ h
  exact ⟨_, ⟨_, rfl, n, rfl⟩, r⟩
theorem opens_txt : Opens enc Try.prog W 0 (fun _ => true) true 22 fun xs => ∃ x, xs = [x] ∧ ∃ s, x = txt s := by
  intro fuel cs x h
  obtain ⟨xs, ⟨es, rfl, he⟩, r⟩ := opens_slice (e := 21) (QE := fun el => ∃ n, el = rn n) (by kernel_rfl) (of_decide_eq_true (by kernel_rfl)) (el_one opens_r) _ _ _ h
  obtain ⟨l, rfl⟩ := of_all he
  exact ⟨_, ⟨_, rfl, l, rfl⟩, r⟩
theorem opens_deed : Opens enc Try.prog W 0 (fun _ => true) true 59 (PartsQ [fun xs => ∃ x, xs = [x] ∧ ∃ n, x = .int .i64 n, fun xs => ∃ x, xs = [x] ∧ ∃ s, x = txt s]) :=
  opens_struct Try.underlying59 (by kernel_rfl) ⟨opens_i, opens_txt, trivial⟩
theorem opens_deeds : Opens enc Try.prog W 0 (fun _ => true) true 52 fun xs => ∃ x, xs = [x] ∧ ∃ ds : List Deed, x = .sl 2 (ds.map deedP) := by
  intro fuel cs x h
  obtain ⟨xs, ⟨es, rfl, he⟩, r⟩ := opens_slice (e := 59) (QE := fun el => ∃ d, el = deedP d) (by kernel_rfl) (of_decide_eq_true (by kernel_rfl)) (fun fuel cs x h => by
    obtain ⟨el, v, ⟨xs, rfl, q⟩, r⟩ := el_agg opens_deed _ _ _ h
    obtain ⟨a, b, rfl, ⟨_, rfl, n, rfl⟩, c, d, rfl, ⟨_, rfl, s, rfl⟩, rfl⟩ := q
    exact ⟨_, v, ⟨⟨n, s⟩, rfl⟩, r⟩) _ _ _ h
  obtain ⟨l, rfl⟩ := of_all he
  exact ⟨_, ⟨_, rfl, l, rfl⟩, r⟩
end
end Go.Proofs.Ytjgfmanahimpoaa

/- How this seat's rows hand in texts, numbers and events: read as plain values. Conditions: none beyond the rows' own. -/
import Derived.Test.YtlmejofikpnbpaaDoorM
import Derived.Test.YtlmejofikpnbpaaDoorO1
namespace Go.Proofs.YtlmejofikpnbpaaDoor
open Go.ChangeShapes Go.WideShapes Go.ChangeAt Go.RowKit Go.AM
set_option maxRecDepth 100000
theorem of_all {α : Type} {f : α → PV} {Q : α → Prop} : ∀ {es : List PV}, (∀ el ∈ es, ∃ a, Q a ∧ el = f a) → ∃ l : List α, (∀ a ∈ l, Q a) ∧ es = l.map f
  | [], _ => ⟨[], by simp, rfl⟩
  | x :: xs, h => by
    obtain ⟨a, q, rfl⟩ := h x (by simp)
    obtain ⟨l, ql, rfl⟩ := of_all (es := xs) fun el hel => h el (by simp [hel])
    exact ⟨a :: l, by simpa using ⟨q, ql⟩, rfl⟩
section
variable {H : Type} {enc : TypeId × Value → H} {W : World}
abbrev QI : List PV → Prop := fun xs => ∃ x, xs = [x] ∧ ∃ n, x = .int .i64 n ∧ -9223372036854775808 ≤ n ∧ n ≤ 9223372036854775807
abbrev QB : List PV → Prop := fun xs => ∃ x, xs = [x] ∧ ∃ n, x = .int .u8 n ∧ 0 ≤ n ∧ n ≤ 255
theorem opens_i : Opens enc Tryd.prog W 0 (fun _ => true) true 3 QI := by
  intro fuel cs x h
  obtain ⟨xs, ⟨n, rfl, hw⟩, r⟩ := opens_int (k := .i64) (by kernel_rfl) _ _ _ h
  simp [Lit.wf, IntKind.min, IntKind.max, IntKind.signed, IntKind.bits] at hw
  exact ⟨_, ⟨_, rfl, n, rfl, by omega⟩, r⟩
def okInt (n : Int) : Prop := -9223372036854775808 ≤ n ∧ n ≤ 9223372036854775807
theorem opens_n : Opens enc Tryd.prog W 0 (fun _ => true) true 3 fun xs => ∃ x, xs = [x] ∧ ∃ n, x = .int .i64 n ∧ okInt n := opens_i
theorem opens_b : Opens enc Tryd.prog W 0 (fun _ => true) true 5 QB := by
  intro fuel cs x h
  obtain ⟨xs, ⟨n, rfl, hw⟩, r⟩ := opens_int (k := .u8) (by kernel_rfl) _ _ _ h
  simp [Lit.wf, IntKind.min, IntKind.max, IntKind.signed, IntKind.bits] at hw
  exact ⟨_, ⟨_, rfl, n, rfl, by omega⟩, r⟩
theorem opens_st : Opens enc Tryd.prog W 0 (fun _ => true) true 9 fun xs => ∃ x, xs = [x] ∧ ∃ s, x = .str s := by
  intro fuel cs x h
  obtain ⟨xs, ⟨s, rfl⟩, r⟩ := opens_string (by kernel_rfl) _ _ _ h
  exact ⟨_, ⟨_, rfl, s, rfl⟩, r⟩
theorem opens_ev : Opens enc Tryd.prog W 0 (fun _ => true) true 33 (PartsQ [QI, QB, QI, QI]) :=
  opens_struct Tryd.underlying33 (by kernel_rfl) ⟨opens_i, opens_b, opens_i, opens_i, trivial⟩
theorem ev_spec {xs : List PV} (h : PartsQ [QI, QB, QI, QI] xs) : ∃ o : Ev, o.ok ∧ PV.agg xs = evP o := by
  obtain ⟨a, b, rfl, ⟨_, rfl, k, rfl, h0⟩, c, d, rfl, ⟨_, rfl, r, rfl, h1⟩, e, f, rfl, ⟨_, rfl, cc, rfl, h2⟩, i, j, rfl, ⟨_, rfl, t, rfl, h3⟩, rfl⟩ := h
  exact ⟨⟨k, r, cc, t⟩, ⟨h1, h0, h2, h3⟩, rfl⟩
theorem opens_evs : Opens enc Tryd.prog W 0 (fun _ => true) true 22 fun xs => ∃ x, xs = [x] ∧ ∃ l : List Ev, (∀ o ∈ l, o.ok) ∧ x = evsP l := by
  intro fuel cs x h
  obtain ⟨xs, ⟨es, rfl, he⟩, r⟩ := opens_slice (e := 33) (QE := fun el => ∃ o : Ev, o.ok ∧ el = evP o) (by kernel_rfl) (of_decide_eq_true (by kernel_rfl)) (fun fuel cs x h => by
    obtain ⟨el, v, ⟨xs, rfl, q⟩, r⟩ := el_agg opens_ev _ _ _ h
    exact ⟨_, v, ev_spec q, r⟩) _ _ _ h
  obtain ⟨l, ql, rfl⟩ := of_all he
  exact ⟨_, ⟨_, rfl, l, ql, rfl⟩, r⟩
end
end Go.Proofs.YtlmejofikpnbpaaDoor

/- BindLooks returns true for every input, and leaves what it was given as it was. Conditions: none beyond the row's own. -/
import Derived.Test.YtjgfmanahimpoaaOf
import Derived.Test.YtjgfmanahimpoaaBindF
namespace Go.Proofs.Ytjgfmanahimpoaa
open Go.ChangeShapes Go.WideShapes Go.ChangeAt Go.RowKit Go.AM
set_option maxRecDepth 100000
theorem of_all {α : Type} {f : α → PV} {p : α → Prop} : ∀ {es : List PV}, (∀ el ∈ es, ∃ a, p a ∧ el = f a) → ∃ l : List α, es = l.map f ∧ ∀ a ∈ l, p a
  | [], _ => ⟨[], rfl, by simp⟩
  | x :: xs, h => by
    obtain ⟨a, ha, rfl⟩ := h x (by simp)
    obtain ⟨l, rfl, hl⟩ := of_all (es := xs) fun el hel => h el (by simp [hel])
    exact ⟨a :: l, rfl, by simpa using ⟨ha, hl⟩⟩
section
variable {H : Type} {enc : TypeId × Value → H} {W : World}
theorem opens_ro : Opens enc Try.prog W 0 (fun _ => true) true 21 fun xs => ∃ x, xs = [x] ∧ ∃ n, x = .int .i32 n ∧ -2147483648 ≤ n ∧ n ≤ 2147483647 := by
  intro fuel cs x h
  obtain ⟨xs, ⟨n, rfl, hw⟩, r⟩ := opens_int (k := .i32) (by kernel_rfl) _ _ _ h
  have hb : -2147483648 ≤ n ∧ n ≤ 2147483647 := by
    simp [Lit.wf, IntKind.min, IntKind.max, IntKind.signed, IntKind.bits] at hw
    omega
  exact ⟨_, ⟨_, rfl, n, rfl, hb⟩, r⟩
abbrev QS : List PV → Prop := PartsQ [fun xs => ∃ x, xs = [x] ∧ ∃ n, x = .bool n, fun xs => ∃ x, xs = [x] ∧ ∃ n, x = .int .i64 n, fun xs => ∃ x, xs = [x] ∧ ∃ n, x = .int .i32 n ∧ -2147483648 ≤ n ∧ n ≤ 2147483647, fun xs => ∃ x, xs = [x] ∧ ∃ n, x = .bool n]
theorem QS_spec {xs : List PV} (h : QS xs) : ∃ s : Stroke, s.ok ∧ xs = [.bool s.p, .int .i64 s.k, .int .i32 s.r, .bool s.m] := by
  obtain ⟨a, b, rfl, ⟨_, rfl, p, rfl⟩, c, d, rfl, ⟨_, rfl, k, rfl⟩, e, f, rfl, ⟨_, rfl, r, rfl, hr⟩, g, h, rfl, ⟨_, rfl, m, rfl⟩, rfl⟩ := h
  exact ⟨⟨p, k, r, m⟩, hr, rfl⟩
theorem opens_stroke : Opens enc Try.prog W 0 (fun _ => true) true 31 QS :=
  opens_struct Try.underlying31 (by kernel_rfl) ⟨opens_b, opens_i, opens_ro, opens_b, trivial⟩
theorem opens_own : Opens enc Try.prog W 0 (fun _ => true) true 38 (PartsQ [QS, fun xs => ∃ x, xs = [x] ∧ ∃ n, x = .int .i64 n]) :=
  opens_struct Try.underlying38 (by kernel_rfl) ⟨opens_stroke, opens_i, trivial⟩
theorem own_spec {xs : List PV} (h : PartsQ [QS, fun xs => ∃ x, xs = [x] ∧ ∃ n, x = PV.int .i64 n] xs) : ∃ o : Stroke × Int, o.1.ok ∧ PV.agg xs = ownP o := by
  obtain ⟨a, b, rfl, hs, c, d, rfl, ⟨_, rfl, n, rfl⟩, rfl⟩ := h
  obtain ⟨s, ho, rfl⟩ := QS_spec hs
  exact ⟨(s, n), ho, rfl⟩
theorem opens_owns : Opens enc Try.prog W 0 (fun _ => true) true 30 fun xs => ∃ x, xs = [x] ∧ ∃ l : Tbl, x = owns l ∧ ∀ o ∈ l, o.1.ok := by
  intro fuel cs x h
  obtain ⟨xs, ⟨es, rfl, he⟩, r⟩ := opens_slice (e := 38) (QE := fun el => ∃ o : Stroke × Int, o.1.ok ∧ el = ownP o) (by kernel_rfl) (of_decide_eq_true (by kernel_rfl)) (fun fuel cs x h => by
    obtain ⟨el, v, ⟨xs, rfl, q⟩, r⟩ := el_agg opens_own _ _ _ h
    exact ⟨_, v, own_spec q, r⟩) _ _ _ h
  obtain ⟨l, rfl, hl⟩ := of_all he
  exact ⟨_, ⟨_, rfl, l, rfl, hl⟩, r⟩
end
theorem arg_stroke {H : Type} {enc : TypeId × Value → H} : ArgIs enc Try.prog 31 fun x => ∃ s : Stroke, s.ok ∧ x = strokeP s := by
  intro W base v d p ho ht
  obtain ⟨x, ⟨xs, rfl, q⟩, r⟩ := arg_agg (by kernel_rfl) (fun W => opens_stroke) W base v d p ho ht
  obtain ⟨s, hs, rfl⟩ := QS_spec q
  exact ⟨_, ⟨s, hs, rfl⟩, r⟩
theorem looks_lifted (os : Os) (started : os.Started) (H : Type) (enc : TypeId × Value → H) :
    ReturnsInHanded {} Try.checked os 4 .any (Rows.bindLooksSpec.pre6 enc Try.prog Try.f4 Rows.bindLooksRow.domain false) (Rows.bindLooksSpec.post enc Try.prog Try.f4 false true false false) := by
  refine returnsInHanded_of_change (C := Try.checked) Try.own started (by kernel_rfl) Try.func4
    (ChangeSpec.witness6 (enc := enc) (C := Try.checked) false ⟨#[], #[.slice none 0 0, .agg #[.bool false, .int .i64 0, .int .i32 0, .bool false]], []⟩ 8 (by kernel_rfl) (by kernel_rfl) (by kernel_rfl) (by kernel_rfl)) ?_
  intro W base args ds gs before hval hW _ _
  refine contract_of (C := Try.checked) (Qs := [fun x => ∃ l : Tbl, x = owns l ∧ ∀ o ∈ l, o.1.ok, fun x => ∃ s : Stroke, s.ok ∧ x = strokeP s]) (tb := 4) Try.laidOut rfl (by kernel_rfl) rfl (by kernel_rfl) ?_ ?_ ?_ W base args ds gs before hval hW
  · intro ds h
    match ds, h with
    | [_, _], _ => rfl
  · exact ⟨arg_one (by kernel_rfl) fun W => opens_owns, arg_stroke, trivial⟩
  · intro xs q
    rcases xs with _ | ⟨x, _ | ⟨y, _ | ⟨z, xs⟩⟩⟩
    · exact q.elim
    · exact q.2.elim
    · have h1 := q.1
      have h2 := q.2.1
      obtain ⟨l, hx, hl⟩ := h1
      obtain ⟨s, hs, hy⟩ := h2
      subst hx
      subst hy
      exact looks_cr l s hl hs
    · exact q.2.2.elim
theorem looks_holds : Rows.BindLooksSaid :=
  OpenClaim.holds_of_wide 4 Try.f4 rfl rfl rfl rfl rfl rfl rfl ⟨rfl, rfl, rfl, rfl, rfl⟩ rfl rfl rfl rfl rfl (by kernel_rfl) Try.func4 (by kernel_rfl)
    (of_decide_eq_true (by kernel_rfl)) (by unfold Func.isWrapper; first | (rw [if_pos (by decide +kernel)]; kernel_rfl) | (rw [if_neg (by decide +kernel)]; exact ⟨rfl, rfl⟩))
    (fun os started H enc _ => looks_lifted os started H enc)
end Go.Proofs.Ytjgfmanahimpoaa

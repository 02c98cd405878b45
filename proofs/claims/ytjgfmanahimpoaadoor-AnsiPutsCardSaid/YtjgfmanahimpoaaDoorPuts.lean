/- AnsiPuts returns true for every input, and leaves what it was given as it was. Conditions: none beyond the row's own. -/
import Derived.Test.YtjgfmanahimpoaaDoorRows
import Derived.Test.YtjgfmanahimpoaaDoorCards
import Derived.Test.YtjgfmanahimpoaaDoorTie
import Derived.Test.YtjgfmanahimpoaaDoorK
import Derived.Test.YtjgfmanahimpoaaDoorL
import Derived.Test.YtjgfmanahimpoaaDoorAmV
import Derived.SevenTiedAt
namespace Go.Proofs.YtjgfmanahimpoaaDoor
open Go.ChangeShapes Go.WideShapes Go.ChangeAt Go.RowKit Go.AM
set_option maxRecDepth 100000
theorem of_all {α : Type} {f : α → PV} {Q : α → Prop} : ∀ {es : List PV}, (∀ el ∈ es, ∃ a, Q a ∧ el = f a) → ∃ l : List α, (∀ a ∈ l, Q a) ∧ es = l.map f
  | [], _ => ⟨[], by simp, rfl⟩
  | x :: xs, h => by
    obtain ⟨a, q, rfl⟩ := h x (by simp)
    obtain ⟨l, ql, rfl⟩ := of_all (es := xs) fun el hel => h el (by simp [hel])
    exact ⟨a :: l, by simpa using ⟨q, ql⟩, rfl⟩
section
variable {H : Type} {enc : TypeId × Value → H} {W : World}
abbrev QI : List PV → Prop := fun xs => ∃ x, xs = [x] ∧ ∃ n, x = .int .i64 n ∧ -9223372036854775808 ≤ n
abbrev QT : List PV → Prop := fun xs => ∃ x, xs = [x] ∧ ∃ s, x = .str s
theorem opens_i : Opens enc Tryd.prog W 0 (fun _ => true) true 3 QI := by
  intro fuel cs x h
  obtain ⟨xs, ⟨n, rfl, hw⟩, r⟩ := opens_int (k := .i64) (by kernel_rfl) _ _ _ h
  simp [Lit.wf, IntKind.min, IntKind.max, IntKind.signed, IntKind.bits] at hw
  exact ⟨_, ⟨_, rfl, n, rfl, by omega⟩, r⟩
theorem opens_s : Opens enc Tryd.prog W 0 (fun _ => true) true 9 QT := by
  intro fuel cs x h
  obtain ⟨xs, ⟨s, rfl⟩, r⟩ := opens_string (by kernel_rfl) _ _ _ h
  exact ⟨_, ⟨_, rfl, s, rfl⟩, r⟩
theorem opens_op : Opens enc Tryd.prog W 0 (fun _ => true) true 25 (PartsQ [QI, QI, QI, QT]) :=
  opens_struct Tryd.underlying25 (by kernel_rfl) ⟨opens_i, opens_i, opens_i, opens_s, trivial⟩
theorem op_spec {xs : List PV} (h : PartsQ [QI, QI, QI, QT] xs) : ∃ o : AOp, o.ok ∧ PV.agg xs = opP o := by
  obtain ⟨a, b, rfl, ⟨_, rfl, k, rfl, _⟩, c, d, rfl, ⟨_, rfl, r, rfl, h1⟩, e, f, rfl, ⟨_, rfl, cc, rfl, h2⟩, i, j, rfl, ⟨_, rfl, t, rfl⟩, rfl⟩ := h
  exact ⟨⟨k, r, cc, t⟩, ⟨h1, h2⟩, rfl⟩
theorem opens_ops : Opens enc Tryd.prog W 0 (fun _ => true) true 22 fun xs => ∃ x, xs = [x] ∧ ∃ l : List AOp, (∀ o ∈ l, o.ok) ∧ x = opsP l := by
  intro fuel cs x h
  obtain ⟨xs, ⟨es, rfl, he⟩, r⟩ := opens_slice (e := 25) (QE := fun el => ∃ o : AOp, o.ok ∧ el = opP o) (by kernel_rfl) (of_decide_eq_true (by kernel_rfl)) (fun fuel cs x h => by
    obtain ⟨el, v, ⟨xs, rfl, q⟩, r⟩ := el_agg opens_op _ _ _ h
    exact ⟨_, v, op_spec q, r⟩) _ _ _ h
  obtain ⟨l, ql, rfl⟩ := of_all he
  exact ⟨_, ⟨_, rfl, l, ql, rfl⟩, r⟩
end
theorem puts_lifted (os : Os) (started : os.Started) (H : Type) (enc : TypeId × Value → H) :
    ReturnsInHanded {} Tryd.checked os 3 .any (fun w args => (Rows.ansiPutsSpec.pre enc Tryd.prog Tryd.f3 [] false w args ∧ laidMetH Tryd.prog laid3 w) ∧ sizedMet enc Tryd.prog Tryd.f3 (OpenSpec.ofChange Rows.ansiPutsSpec) false w args)
      (Rows.ansiPutsSpec.post enc Tryd.prog Tryd.f3 false true false false) := by
  refine returnsInHanded_of_change_and (C := Tryd.checked) (X := fun w _ => laidMetH Tryd.prog laid3 w) (fun _ _ _ hh h => h.of_heap hh) Tryd.own started (by kernel_rfl) Tryd.func3
    (ChangeSpec.witness_shaped (enc := enc) (C := Tryd.checked) (os := os) (X := fun w _ => laidMetH Tryd.prog laid3 w) false (World.doorLaid Tryd.prog 2000 os) #[.slice none 0 0] 8 rfl (World.shaped_of_RefB (by kernel_rfl) (by kernel_rfl)) (by kernel_rfl) (by kernel_rfl) (by kernel_rfl) (door_met os _)) ?_
  intro W base args ds gs before hval hW _ _ hL _
  refine contract_of (C := Tryd.checked) (Qs := [fun x => ∃ l : List AOp, (∀ o ∈ l, o.ok) ∧ x = opsP l]) (tb := 4) Tryd.laidOut rfl (by kernel_rfl) rfl (by kernel_rfl) ?_ ?_ ?_ W base args ds gs before hval hW (gl_of_laid hL)
  · intro ds h
    match ds, h with
    | [_], _ => rfl
  · exact ⟨arg_one (by kernel_rfl) fun W => opens_ops, trivial⟩
  · intro xs q
    match xs, q with
    | [_], ⟨⟨l, ql, rfl⟩, _⟩ => exact puts_cr l ql
theorem puts_row : Rows.AnsiPutsSaid :=
  OpenClaim.holds_of_wide 3 Tryd.f3 rfl rfl rfl rfl rfl rfl rfl ⟨rfl, rfl, rfl, rfl, rfl⟩ rfl rfl rfl rfl rfl (by kernel_rfl) Tryd.func3 (by kernel_rfl)
    (of_decide_eq_true (by kernel_rfl)) (by unfold Func.isWrapper; first | (rw [if_pos (by decide +kernel)]; kernel_rfl) | (rw [if_neg (by decide +kernel)]; exact ⟨rfl, rfl⟩))
    (fun os started H enc _ => puts_lifted os started H enc)
theorem puts_holds : Rows.AnsiPutsCardSaid :=
  Claim7.holds_tied_plain_at .later [] [.data, .data, .data] true (true, "2972f24e63be11ff40e2bccc972430b859bc690050b236464687c53368ed9346") false
    puts_row (fun _ h => by cases h) (by kernel_rfl) (fun _ h => by cases h) ansiPuts_row_tie rfl ⟨rfl, rfl⟩ (by kernel_rfl) rfl
    (fun f fn hf hfn => by
      obtain rfl : f = 3 := Option.some.inj ((show Tryd.prog.funcNamed "typebar/typebarlaw30.AnsiPuts" = some 3 by kernel_rfl).symm.trans hf) |>.symm
      obtain rfl : fn = Tryd.f3 := (Option.some.inj (Tryd.func3.symm.trans hfn)).symm
      exact ⟨by kernel_rfl, fun j t ht => by
        have hp : Tryd.f3.params = #[22] := rfl
        rw [hp] at ht
        have hm : t ∈ [22] := by simpa using Array.mem_of_getElem? ht
        have hall : ([22].all fun u => !Tryd.prog.wantsStandIn u) = true := by kernel_rfl
        exact (show Tryd.prog.wantsStandIn t = false by simpa using List.all_eq_true.1 hall t hm)⟩)
    (by kernel_rfl)
end Go.Proofs.YtjgfmanahimpoaaDoor

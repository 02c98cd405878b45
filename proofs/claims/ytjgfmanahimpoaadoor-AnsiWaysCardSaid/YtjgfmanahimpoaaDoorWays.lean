/- AnsiWays returns true for every input, and leaves what it was given as it was. Conditions: none beyond the row's own. -/
import Derived.Test.YtjgfmanahimpoaaDoorRows
import Derived.Test.YtjgfmanahimpoaaDoorCards
import Derived.Test.YtjgfmanahimpoaaDoorTie
import Derived.Test.YtjgfmanahimpoaaDoorN
import Derived.Test.YtjgfmanahimpoaaDoorL
import Derived.Test.YtjgfmanahimpoaaDoorAmV
import Derived.SevenTiedAt
namespace Go.Proofs.YtjgfmanahimpoaaDoor
open Go.ChangeShapes Go.WideShapes Go.ChangeAt Go.RowKit Go.AM
set_option maxRecDepth 100000
section
variable {H : Type} {enc : TypeId × Value → H} {W : World}
abbrev QI : List PV → Prop := fun xs => ∃ x, xs = [x] ∧ ∃ n, x = .int .i64 n
theorem opens_i : Opens enc Tryd.prog W 0 (fun _ => true) true 3 QI := by
  intro fuel cs x h
  obtain ⟨xs, ⟨n, rfl, _⟩, r⟩ := opens_int (k := .i64) (by kernel_rfl) _ _ _ h
  exact ⟨_, ⟨_, rfl, n, rfl⟩, r⟩
end
theorem ways_lifted (os : Os) (started : os.Started) (H : Type) (enc : TypeId × Value → H) :
    ReturnsInHanded {} Tryd.checked os 4 .any (fun w args => (Rows.ansiWaysSpec.pre enc Tryd.prog Tryd.f4 [] false w args ∧ laidMetH Tryd.prog laid3 w) ∧ sizedMet enc Tryd.prog Tryd.f4 (OpenSpec.ofChange Rows.ansiWaysSpec) false w args)
      (Rows.ansiWaysSpec.post enc Tryd.prog Tryd.f4 false true false false) := by
  refine returnsInHanded_of_change_and (C := Tryd.checked) (X := fun w _ => laidMetH Tryd.prog laid3 w) (fun _ _ _ hh h => h.of_heap hh) Tryd.own started (by kernel_rfl) Tryd.func4
    (ChangeSpec.witness_shaped (enc := enc) (C := Tryd.checked) (os := os) (X := fun w _ => laidMetH Tryd.prog laid3 w) false (World.doorLaid Tryd.prog 2000 os) #[.int .i64 0, .int .i64 0, .int .i64 0, .int .i64 0] 8 rfl (World.shaped_of_RefB (by kernel_rfl) (by kernel_rfl)) (by kernel_rfl) (by kernel_rfl) (by kernel_rfl) (door_met os _)) ?_
  intro W base args ds gs before hval hW _ _ hL _
  refine contract_of (C := Tryd.checked) (Qs := [fun x => ∃ n, x = .int .i64 n, fun x => ∃ n, x = .int .i64 n, fun x => ∃ n, x = .int .i64 n, fun x => ∃ n, x = .int .i64 n]) (tb := 4) Tryd.laidOut rfl (by kernel_rfl) rfl (by kernel_rfl) ?_ ?_ ?_ W base args ds gs before hval hW (gl_of_laid hL)
  · intro ds h
    match ds, h with
    | [_, _, _, _], _ => rfl
  · exact ⟨arg_one (by kernel_rfl) fun W => opens_i, arg_one (by kernel_rfl) fun W => opens_i, arg_one (by kernel_rfl) fun W => opens_i, arg_one (by kernel_rfl) fun W => opens_i, trivial⟩
  · intro xs q
    match xs, q with
    | [_, _, _, _], ⟨⟨a, rfl⟩, ⟨b, rfl⟩, ⟨c, rfl⟩, ⟨d, rfl⟩, _⟩ => exact ways_cr a b c d
theorem ways_row : Rows.AnsiWaysSaid :=
  OpenClaim.holds_of_wide 4 Tryd.f4 rfl rfl rfl rfl rfl rfl rfl ⟨rfl, rfl, rfl, rfl, rfl⟩ rfl rfl rfl rfl rfl (by kernel_rfl) Tryd.func4 (by kernel_rfl)
    (of_decide_eq_true (by kernel_rfl)) (by unfold Func.isWrapper; first | (rw [if_pos (by decide +kernel)]; kernel_rfl) | (rw [if_neg (by decide +kernel)]; exact ⟨rfl, rfl⟩))
    (fun os started H enc _ => ways_lifted os started H enc)
theorem ways_holds : Rows.AnsiWaysCardSaid :=
  Claim7.holds_tied_plain_at .later [] [.data, .data, .data] true (true, "2972f24e63be11ff40e2bccc972430b859bc690050b236464687c53368ed9346") false
    ways_row (fun _ h => by cases h) (by kernel_rfl) (fun _ h => by cases h) ansiWays_row_tie rfl ⟨rfl, rfl⟩ (by kernel_rfl) rfl
    (fun f fn hf hfn => by
      obtain rfl : f = 4 := Option.some.inj ((show Tryd.prog.funcNamed "typebar/typebarlaw30.AnsiWays" = some 4 by kernel_rfl).symm.trans hf) |>.symm
      obtain rfl : fn = Tryd.f4 := (Option.some.inj (Tryd.func4.symm.trans hfn)).symm
      exact ⟨by kernel_rfl, fun j t ht => by
        have hp : Tryd.f4.params = #[3, 3, 3, 3] := rfl
        rw [hp] at ht
        have hm : t ∈ [3, 3, 3, 3] := by simpa using Array.mem_of_getElem? ht
        have hall : ([3, 3, 3, 3].all fun u => !Tryd.prog.wantsStandIn u) = true := by kernel_rfl
        exact (show Tryd.prog.wantsStandIn t = false by simpa using List.all_eq_true.1 hall t hm)⟩)
    (by kernel_rfl)
end Go.Proofs.YtjgfmanahimpoaaDoor

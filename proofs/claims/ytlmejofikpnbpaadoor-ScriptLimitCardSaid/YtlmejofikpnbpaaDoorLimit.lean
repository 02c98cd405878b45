/- ScriptLimit returns true for every input, and leaves what it was given as it was. Conditions: none beyond the row's own. -/
import Derived.Test.YtlmejofikpnbpaaDoorRows
import Derived.Test.YtlmejofikpnbpaaDoorCards
import Derived.Test.YtlmejofikpnbpaaDoorTie
import Derived.Test.YtlmejofikpnbpaaDoorS1
import Derived.Test.YtlmejofikpnbpaaDoorV
import Derived.SevenTiedAt
namespace Go.Proofs.YtlmejofikpnbpaaDoor
open Go.ChangeShapes Go.WideShapes Go.ChangeAt Go.RowKit Go.AM
set_option maxRecDepth 100000
theorem slimit_lifted (os : Os) (started : os.Started) (H : Type) (enc : TypeId × Value → H) :
    ReturnsInHanded {} Tryd.checked os 7 .any (fun w args => (Rows.scriptLimitSpec.pre enc Tryd.prog Tryd.f7 [] false w args ∧ laidMetH Tryd.prog laid7 w) ∧ sizedMet enc Tryd.prog Tryd.f7 (OpenSpec.ofChange Rows.scriptLimitSpec) false w args)
      (Rows.scriptLimitSpec.post enc Tryd.prog Tryd.f7 false true false false) := by
  refine returnsInHanded_of_change_and (C := Tryd.checked) (X := fun w _ => laidMetH Tryd.prog laid7 w) (fun _ _ _ hh h => h.of_heap hh) Tryd.own started (by kernel_rfl) Tryd.func7
    (ChangeSpec.witness_shaped (enc := enc) (C := Tryd.checked) (os := os) (X := fun w _ => laidMetH Tryd.prog laid7 w) false (World.laidAll Tryd.prog os laid7) #[.int .i64 0] 8 (World.laidAll_os _ _ _) (World.shaped_of_ZipB (by kernel_rfl) (by kernel_rfl)) (by kernel_rfl) (by kernel_rfl) (by kernel_rfl) (door_met os _)) ?_
  intro W base args ds gs before hval hW _ hwt hL _
  obtain ⟨E, hgl⟩ := gl_of_laid hL
  refine contract_of (C := Tryd.checked) (Qs := [fun x => ∃ n, x = .int .i64 n ∧ okInt n]) (tb := 4) Tryd.laidOut rfl (by kernel_rfl) rfl (by kernel_rfl) ?_ ?_ ?_ W base args ds gs before hval hW hgl
  · intro ds h
    match ds, h with
    | [_], _ => rfl
  · exact ⟨arg_one (by kernel_rfl) fun W => opens_n, trivial⟩
  · intro xs q
    rcases xs with _ | ⟨x1, _ | ⟨x2, xs⟩⟩
    · exact q.elim
    · obtain ⟨n, rfl, h⟩ := q.1
      exact slimit_cr n h
    · exact q.2.elim
theorem slimit_row : Rows.ScriptLimitSaid :=
  OpenClaim.holds_of_wide 7 Tryd.f7 rfl rfl rfl rfl rfl rfl rfl ⟨rfl, rfl, rfl, rfl, rfl⟩ rfl rfl rfl rfl rfl (by kernel_rfl) Tryd.func7 (by kernel_rfl)
    (of_decide_eq_true (by kernel_rfl)) (by unfold Func.isWrapper; first | (rw [if_pos (by decide +kernel)]; kernel_rfl) | (rw [if_neg (by decide +kernel)]; exact ⟨rfl, rfl⟩))
    (fun os started H enc _ => slimit_lifted os started H enc)
theorem slimit_holds : Rows.ScriptLimitCardSaid :=
  Claim7.holds_tied_plain_at .later [] [.data, .data, .data, .data, .sentinel, .sentinel, .pinned] true (true, "5e159ab45576ce19212803dc21e9cd4f13e0e6f880ad0850d65b7c09a2de668a") true
    slimit_row (fun _ h => by cases h) (by kernel_rfl) (fun _ h => by cases h) scriptLimit_row_tie rfl ⟨rfl, rfl⟩ (by kernel_rfl) rfl
    (fun f fn hf hfn => by
      obtain rfl : f = 7 := Option.some.inj ((show Tryd.prog.funcNamed "typebar/typebarlaw37.ScriptLimit" = some 7 by kernel_rfl).symm.trans hf) |>.symm
      obtain rfl : fn = Tryd.f7 := (Option.some.inj (Tryd.func7.symm.trans hfn)).symm
      exact ⟨by kernel_rfl, fun j t ht => by
        have hp : Tryd.f7.params = #[3] := rfl
        rw [hp] at ht
        have hm : t ∈ [3] := by simpa using Array.mem_of_getElem? ht
        have hall : ([3].all fun u => !Tryd.prog.wantsStandIn u) = true := by kernel_rfl
        exact (show Tryd.prog.wantsStandIn t = false by simpa using List.all_eq_true.1 hall t hm)⟩)
    (by kernel_rfl)
end Go.Proofs.YtlmejofikpnbpaaDoor

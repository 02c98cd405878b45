/- What every row of this seat tells at the start: the tables and the library's two errors are as the program's text lays them. No condition beyond the rows' own. -/
import Derived.Test.YtlmejofikpnbpaaDoorRows
import Derived.Test.YtlmejofikpnbpaaDoorA
import Derived.Test.YtlmejofikpnbpaaDoorAmV
import Derived.ProofKit
import Derived.LaidMore
import Derived.Lay
import Derived.OpenShut
import Derived.Stop.Joined
import Derived.Stop.LaidErr
import Derived.Lib.LaidU8
namespace Go.Proofs.YtlmejofikpnbpaaDoor
open Go.ChangeShapes Go.WideShapes Go.ChangeAt Go.RowKit Go.AM
set_option maxRecDepth 100000
theorem Tryd.own : ownKnob Tryd.prog.godebug = none := by kernel_rfl
theorem Tryd.laidOut : laidOutB Tryd.prog = true := by kernel_rfl
abbrev laid7 : List (String × DataW Unit) := Rows.scriptParsesRow.laid
theorem globE1 : Tryd.prog.globalNamed "strconv.ErrSyntax" = some 3 := by kernel_rfl
theorem globE2 : Tryd.prog.globalNamed "strconv.ErrRange" = some 4 := by kernel_rfl
theorem gtype5 : (Tryd.prog.globals[5]?).map (·.type) = some 110 := by kernel_rfl
theorem var_block {P : Program} {W : World} {n : String} {g : Nat} {cs : Array Value} (hg : P.globalNamed n = some g) (hv : W.var? P n = some cs) : ∃ T f, W.heap[g]? = some (.cells cs T f) := by
  unfold World.var? at hv
  rw [hg] at hv
  simp only [Option.bind_some] at hv
  split at hv
  · rename_i cs' T f hh
    injection hv with hv
    subst hv
    exact ⟨T, f, hh⟩
  · cases hv
theorem err_block {W : World} {n : String} {nm : String} {d : DataW Unit} {g T : Nat} {ms : Array (String × TypeId)} (hT : Tryd.prog.underlying T = some (.interface ms)) (hg : Tryd.prog.globalNamed n = some g) (ht : (Tryd.prog.globals[g]?).map (·.type) = some T) (h : Lib.VarReads Tryd.prog W n (.iface nm d)) :
    ∃ te pe, W.var? Tryd.prog n = some #[.iface te pe] := by
  obtain ⟨g', t, cs, fuel, p, hg', ht', hv, hd⟩ := h
  obtain rfl := Option.some.inj (hg.symm.trans hg')
  obtain rfl := Option.some.inj (ht.symm.trans ht')
  obtain ⟨_, u, v, e, _⟩ := iface_of_trod hT hd
  exact ⟨u, v, by rw [hv]; congr 1; exact Array.toList_inj.1 e⟩
theorem gl_of_laid {W : World} (h : laidMetH Tryd.prog laid7 W) : ∃ E : Evs, @GlOK (@scriptGi E) ⟨frW W, fun _ => .prot⟩ W := by
  rw [MakeChecks.laidMetH_plain _ _ _ (by kernel_rfl)] at h
  obtain ⟨g, t, cs, fuel, p, hg, ht, hv, hd⟩ := Lib.laidMet.reads h (n := "internal/strconv.uint64pow10") (d := Rows.laid_internal_strconv_uint64pow10) (by simp [laid7, Rows.scriptParsesRow])
  obtain rfl := Option.some.inj (glob5.symm.trans hg)
  obtain rfl := Option.some.inj (gtype5.symm.trans ht)
  have e := Lib.cells_of_tab (k := .u64) (zs := Lib.pow10Tab) (n := 20) (e := 95) (by kernel_rfl) (by kernel_rfl) (by kernel_rfl) (by kernel_rfl) hd
  obtain ⟨te1, pe1, h1⟩ := err_block (W := W) (n := "strconv.ErrSyntax") (T := 69) Tryd.underlying69 globE1 (by kernel_rfl) (Lib.laidMet.reads h (d := Rows.laid_strconv_ErrSyntax) (by simp [laid7, Rows.scriptParsesRow]))
  obtain ⟨te2, pe2, h2⟩ := err_block (W := W) (n := "strconv.ErrRange") (T := 69) Tryd.underlying69 globE2 (by kernel_rfl) (Lib.laidMet.reads h (d := Rows.laid_strconv_ErrRange) (by simp [laid7, Rows.scriptParsesRow]))
  refine ⟨⟨.iface te1 pe1, .iface te2 pe2, .inr ⟨_, _, rfl⟩, .inr ⟨_, _, rfl⟩⟩, ?_⟩
  intro b arr hb
  refine ⟨rfl, ?_⟩
  by_cases h5 : b = 5
  · subst h5
    obtain rfl : powArr = arr := Option.some.inj hb
    have : cs = powArr := by rw [powArr, ← e]
    subst this
    exact var_block glob5 hv
  · by_cases h3 : b = 3
    · subst h3
      obtain rfl := Option.some.inj (show some #[Value.iface te1 pe1] = some arr from hb)
      exact var_block globE1 h1
    · by_cases h4 : b = 4
      · subst h4
        obtain rfl := Option.some.inj (show some #[Value.iface te2 pe2] = some arr from hb)
        exact var_block globE2 h2
      · simp [Gi.val, h5, h3, h4] at hb
theorem door_met (os : Os) (args : Array Value) : laidMetH Tryd.prog laid7 ((World.laidAll Tryd.prog os laid7).forCall (fun _ _ => 0) ⟨#[], args, []⟩).memory := by
  rw [MakeChecks.laidMetH_plain _ _ _ (by kernel_rfl)]
  exact laidMet_laidAll _ (by kernel_rfl) (by kernel_rfl)
end Go.Proofs.YtlmejofikpnbpaaDoor

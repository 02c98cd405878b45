/- What every row of this seat tells at the start: the table of the powers of ten is as the program's text lays it. No condition beyond the rows' own. -/
import Derived.Test.YtjgfmanahimpoaaDoorRows
import Derived.Test.YtjgfmanahimpoaaDoorA
import Derived.Test.YtjgfmanahimpoaaDoorAmV
import Derived.ProofKit
import Derived.LaidMore
import Derived.OpenShut
import Derived.Stop.Joined
import Derived.Lib.LaidU8
namespace Go.Proofs.YtjgfmanahimpoaaDoor
open Go.ChangeShapes Go.WideShapes Go.ChangeAt Go.RowKit Go.AM
set_option maxRecDepth 100000
theorem Tryd.own : ownKnob Tryd.prog.godebug = none := by kernel_rfl
theorem Tryd.laidOut : laidOutB Tryd.prog = true := by kernel_rfl
abbrev laid3 : List (String × DataW Unit) := [("math/bits.deBruijn32tab", Rows.laid_math_bits_deBruijn32tab), ("math/bits.deBruijn64tab", Rows.laid_math_bits_deBruijn64tab), ("internal/strconv.uint64pow10", Rows.laid_internal_strconv_uint64pow10)]
theorem gtype0 : (Tryd.prog.globals[0]?).map (·.type) = some 116 := by kernel_rfl
theorem gl_of_laid {W : World} (h : laidMetH Tryd.prog laid3 W) : GlOK ⟨frW W, fun _ => .prot⟩ W := by
  rw [MakeChecks.laidMetH_plain _ _ _ (by kernel_rfl)] at h
  obtain ⟨g, t, cs, fuel, p, hg, ht, hv, hd⟩ := Lib.laidMet.reads h (n := "internal/strconv.uint64pow10") (d := Rows.laid_internal_strconv_uint64pow10) (by simp)
  obtain rfl := Option.some.inj (glob0.symm.trans hg)
  obtain rfl := Option.some.inj (gtype0.symm.trans ht)
  have e := Lib.cells_of_tab (k := .u64) (zs := Lib.pow10Tab) (n := 20) (e := 110) (by kernel_rfl) (by kernel_rfl) (by kernel_rfl) (by kernel_rfl) hd
  intro b arr hb
  have hb0 : b = 0 ∧ powArr = arr := by
    by_cases h0 : b = 0
    · subst h0; exact ⟨rfl, Option.some.inj hb⟩
    · simp [Gi.val, h0] at hb
  obtain ⟨rfl, rfl⟩ := hb0
  refine ⟨rfl, ?_⟩
  unfold World.var? at hv
  rw [glob0] at hv
  simp only [Option.bind_some] at hv
  split at hv
  · rename_i cs' T f hh
    injection hv with hv
    subst hv
    have : cs' = powArr := by rw [powArr, ← e]
    subst this
    exact ⟨T, f, hh⟩
  · cases hv
theorem door_met (os : Os) (args : Array Value) : laidMetH Tryd.prog laid3 ((World.doorLaid Tryd.prog 2000 os).forCall (fun _ _ => 0) ⟨#[], args, []⟩).memory :=
  laidMetH_of_parts3 (fuel := 8) (laidMet_of_run' 8 (by kernel_rfl) (by kernel_rfl)) (by kernel_rfl) (by kernel_rfl)
end Go.Proofs.YtjgfmanahimpoaaDoor

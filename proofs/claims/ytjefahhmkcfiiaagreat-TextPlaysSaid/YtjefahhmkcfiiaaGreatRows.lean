/-
  No cell of these rows narrows 'for every input' (looked for: loops, veiled, ifaces, maps, wideKeys, modest, calm, conditions, laid).
  DERIVED. THE GIVEN ROWS OF THIS SEAT. 12 by the template 'for every input the law returns true; each argument reads behind the call as it read before'; 0 by the template 'total and deterministic' (their statements: YtjefahhmkcfiiaaGreatTotals.lean).
  GIVEN WITH THE SEED: the statements are not yours to turn. If you find one false, say at which input.
  Laid BY PROGRAM, IN A SANDBOX (cutbox-rows.mjs): the forced cells as the released guide's own fill.sh prints them over the translation d473d4b4ad517ba6… (all of the seat's roots in one cut). By AI agents, Wed Nov 11 2026. No macro, syntax, notation, axiom, sorry.
-/
import Derived.Test.YtjefahhmkcfiiaaGreatChecked
import GoSem.Claim
import GoSem.ClaimJoined
import GoSem.ClaimMapViews
import Derived.JoinedTies
import Derived.KernelRfl
namespace Go.Proofs.YtjefahhmkcfiiaaGreat
/- THE CELL 'sum', in the pinned program and in every row, IS THE sha256 OF THE DUMP (.gsa) THAT YtjefahhmkcfiiaaGreatProg.lean LOADS. Nothing in Lean hashes anything: it is a label: what it is worth is what the hold of that sum in a sandbox is worth. -/
noncomputable def Tryz.pinned : Pinned := { name := "ytjefahhmkcfiiaagreat", sum := "d473d4b4ad517ba6a95749256755a8f6e0e5a807b480f93864268fcdc12794f9", checked := Tryz.checked }
namespace Rows
def none {H : Type} : Left H := { results := [], args := [] }

/-- 'typebarlaw35.ModelPuts': WHATEVER THE INPUT: true; the input reads as it did. -/
def modelPutsSpec : ChangeSpec := { name := "modelPuts", fn := fun _ => fun
  | [d1, d2] => { results := [.lit (.bool true)], args := [d1, d2] }
  | _ => none }
def modelPutsRow : OpenClaim := { program := "ytjefahhmkcfiiaagreat", sum := "d473d4b4ad517ba6a95749256755a8f6e0e5a807b480f93864268fcdc12794f9", func := "typebar/typebarlaw35.ModelPuts", spec := "modelPuts", unfollowed := true, recurses := true, plainKeys := false, apart := false }
def ModelPutsSaid : Prop := modelPutsRow.holds Tryz.pinned (OpenSpec.ofChange modelPutsSpec)

/-- ITS FALSE NEIGHBOUR: 'it returns false'. Refute it at one input. -/
def modelPutsWrong : ChangeSpec := { name := "modelPuts", fn := fun _ => fun
  | [d1, d2] => { results := [.lit (.bool false)], args := [d1, d2] }
  | _ => none }
def ModelPutsWrongFalsely : Prop := modelPutsRow.holds Tryz.pinned (OpenSpec.ofChange modelPutsWrong)

/-- 'typebarlaw35.ModelGoes': WHATEVER THE INPUT: true; the input reads as it did. -/
def modelGoesSpec : ChangeSpec := { name := "modelGoes", fn := fun _ => fun
  | [d1, d2, d3, d4] => { results := [.lit (.bool true)], args := [d1, d2, d3, d4] }
  | _ => none }
def modelGoesRow : OpenClaim := { program := "ytjefahhmkcfiiaagreat", sum := "d473d4b4ad517ba6a95749256755a8f6e0e5a807b480f93864268fcdc12794f9", func := "typebar/typebarlaw35.ModelGoes", spec := "modelGoes", unfollowed := true, recurses := true, plainKeys := false, apart := false }
def ModelGoesSaid : Prop := modelGoesRow.holds Tryz.pinned (OpenSpec.ofChange modelGoesSpec)

/-- ITS FALSE NEIGHBOUR: 'it returns false'. Refute it at one input. -/
def modelGoesWrong : ChangeSpec := { name := "modelGoes", fn := fun _ => fun
  | [d1, d2, d3, d4] => { results := [.lit (.bool false)], args := [d1, d2, d3, d4] }
  | _ => none }
def ModelGoesWrongFalsely : Prop := modelGoesRow.holds Tryz.pinned (OpenSpec.ofChange modelGoesWrong)

/-- 'typebarlaw24.MotionMoves': WHATEVER THE INPUT: true; the input reads as it did. -/
def motionMovesSpec : ChangeSpec := { name := "motionMoves", fn := fun _ => fun
  | [d1, d2, d3, d4] => { results := [.lit (.bool true)], args := [d1, d2, d3, d4] }
  | _ => none }
def motionMovesRow : OpenClaim := { program := "ytjefahhmkcfiiaagreat", sum := "d473d4b4ad517ba6a95749256755a8f6e0e5a807b480f93864268fcdc12794f9", func := "typebar/typebarlaw24.MotionMoves", spec := "motionMoves", unfollowed := true, recurses := true, plainKeys := false, apart := false }
def MotionMovesSaid : Prop := motionMovesRow.holds Tryz.pinned (OpenSpec.ofChange motionMovesSpec)

/-- ITS FALSE NEIGHBOUR: 'it returns false'. Refute it at one input. -/
def motionMovesWrong : ChangeSpec := { name := "motionMoves", fn := fun _ => fun
  | [d1, d2, d3, d4] => { results := [.lit (.bool false)], args := [d1, d2, d3, d4] }
  | _ => none }
def MotionMovesWrongFalsely : Prop := motionMovesRow.holds Tryz.pinned (OpenSpec.ofChange motionMovesWrong)

/-- 'typebarlaw24.MotionTakes': WHATEVER THE INPUT: true; the input reads as it did. -/
def motionTakesSpec : ChangeSpec := { name := "motionTakes", fn := fun _ => fun
  | [d1, d2, d3, d4, d5] => { results := [.lit (.bool true)], args := [d1, d2, d3, d4, d5] }
  | _ => none }
def motionTakesRow : OpenClaim := { program := "ytjefahhmkcfiiaagreat", sum := "d473d4b4ad517ba6a95749256755a8f6e0e5a807b480f93864268fcdc12794f9", func := "typebar/typebarlaw24.MotionTakes", spec := "motionTakes", unfollowed := true, recurses := true, plainKeys := false, apart := false }
def MotionTakesSaid : Prop := motionTakesRow.holds Tryz.pinned (OpenSpec.ofChange motionTakesSpec)

/-- ITS FALSE NEIGHBOUR: 'it returns false'. Refute it at one input. -/
def motionTakesWrong : ChangeSpec := { name := "motionTakes", fn := fun _ => fun
  | [d1, d2, d3, d4, d5] => { results := [.lit (.bool false)], args := [d1, d2, d3, d4, d5] }
  | _ => none }
def MotionTakesWrongFalsely : Prop := motionTakesRow.holds Tryz.pinned (OpenSpec.ofChange motionTakesWrong)

/-- 'typebarlaw24.MotionSwaps': WHATEVER THE INPUT: true; the input reads as it did. -/
def motionSwapsSpec : ChangeSpec := { name := "motionSwaps", fn := fun _ => fun
  | [d1, d2] => { results := [.lit (.bool true)], args := [d1, d2] }
  | _ => none }
def motionSwapsRow : OpenClaim := { program := "ytjefahhmkcfiiaagreat", sum := "d473d4b4ad517ba6a95749256755a8f6e0e5a807b480f93864268fcdc12794f9", func := "typebar/typebarlaw24.MotionSwaps", spec := "motionSwaps", unfollowed := true, recurses := true, plainKeys := false, apart := false }
def MotionSwapsSaid : Prop := motionSwapsRow.holds Tryz.pinned (OpenSpec.ofChange motionSwapsSpec)

/-- ITS FALSE NEIGHBOUR: 'it returns false'. Refute it at one input. -/
def motionSwapsWrong : ChangeSpec := { name := "motionSwaps", fn := fun _ => fun
  | [d1, d2] => { results := [.lit (.bool false)], args := [d1, d2] }
  | _ => none }
def MotionSwapsWrongFalsely : Prop := motionSwapsRow.holds Tryz.pinned (OpenSpec.ofChange motionSwapsWrong)

/-- 'typebarlaw24.MotionBack': WHATEVER THE INPUT: true; the input reads as it did. -/
def motionBackSpec : ChangeSpec := { name := "motionBack", fn := fun _ => fun
  | [d1, d2, d3] => { results := [.lit (.bool true)], args := [d1, d2, d3] }
  | _ => none }
def motionBackRow : OpenClaim := { program := "ytjefahhmkcfiiaagreat", sum := "d473d4b4ad517ba6a95749256755a8f6e0e5a807b480f93864268fcdc12794f9", func := "typebar/typebarlaw24.MotionBack", spec := "motionBack", unfollowed := true, recurses := true, plainKeys := false, apart := false }
def MotionBackSaid : Prop := motionBackRow.holds Tryz.pinned (OpenSpec.ofChange motionBackSpec)

/-- ITS FALSE NEIGHBOUR: 'it returns false'. Refute it at one input. -/
def motionBackWrong : ChangeSpec := { name := "motionBack", fn := fun _ => fun
  | [d1, d2, d3] => { results := [.lit (.bool false)], args := [d1, d2, d3] }
  | _ => none }
def MotionBackWrongFalsely : Prop := motionBackRow.holds Tryz.pinned (OpenSpec.ofChange motionBackWrong)

/-- 'typebarlaw17.TextFull': WHATEVER THE INPUT: true; the input reads as it did. -/
def textFullSpec : ChangeSpec := { name := "textFull", fn := fun _ => fun
  | [d1, d2] => { results := [.lit (.bool true)], args := [d1, d2] }
  | _ => none }
def textFullRow : OpenClaim := { program := "ytjefahhmkcfiiaagreat", sum := "d473d4b4ad517ba6a95749256755a8f6e0e5a807b480f93864268fcdc12794f9", func := "typebar/typebarlaw17.TextFull", spec := "textFull", unfollowed := true, recurses := true, plainKeys := false, apart := false }
def TextFullSaid : Prop := textFullRow.holds Tryz.pinned (OpenSpec.ofChange textFullSpec)

/-- ITS FALSE NEIGHBOUR: 'it returns false'. Refute it at one input. -/
def textFullWrong : ChangeSpec := { name := "textFull", fn := fun _ => fun
  | [d1, d2] => { results := [.lit (.bool false)], args := [d1, d2] }
  | _ => none }
def TextFullWrongFalsely : Prop := textFullRow.holds Tryz.pinned (OpenSpec.ofChange textFullWrong)

/-- 'typebarlaw17.TextPlays': WHATEVER THE INPUT: true; the input reads as it did. -/
def textPlaysSpec : ChangeSpec := { name := "textPlays", fn := fun _ => fun
  | [d1, d2] => { results := [.lit (.bool true)], args := [d1, d2] }
  | _ => none }
def textPlaysRow : OpenClaim := { program := "ytjefahhmkcfiiaagreat", sum := "d473d4b4ad517ba6a95749256755a8f6e0e5a807b480f93864268fcdc12794f9", func := "typebar/typebarlaw17.TextPlays", spec := "textPlays", unfollowed := true, recurses := true, plainKeys := false, apart := false }
def TextPlaysSaid : Prop := textPlaysRow.holds Tryz.pinned (OpenSpec.ofChange textPlaysSpec)

/-- ITS FALSE NEIGHBOUR: 'it returns false'. Refute it at one input. -/
def textPlaysWrong : ChangeSpec := { name := "textPlays", fn := fun _ => fun
  | [d1, d2] => { results := [.lit (.bool false)], args := [d1, d2] }
  | _ => none }
def TextPlaysWrongFalsely : Prop := textPlaysRow.holds Tryz.pinned (OpenSpec.ofChange textPlaysWrong)

/-- 'typebarlaw17.TextWhole': WHATEVER THE INPUT: true; the input reads as it did. -/
def textWholeSpec : ChangeSpec := { name := "textWhole", fn := fun _ => fun
  | [d1, d2] => { results := [.lit (.bool true)], args := [d1, d2] }
  | _ => none }
def textWholeRow : OpenClaim := { program := "ytjefahhmkcfiiaagreat", sum := "d473d4b4ad517ba6a95749256755a8f6e0e5a807b480f93864268fcdc12794f9", func := "typebar/typebarlaw17.TextWhole", spec := "textWhole", unfollowed := true, recurses := true, plainKeys := false, apart := false }
def TextWholeSaid : Prop := textWholeRow.holds Tryz.pinned (OpenSpec.ofChange textWholeSpec)

/-- ITS FALSE NEIGHBOUR: 'it returns false'. Refute it at one input. -/
def textWholeWrong : ChangeSpec := { name := "textWhole", fn := fun _ => fun
  | [d1, d2] => { results := [.lit (.bool false)], args := [d1, d2] }
  | _ => none }
def TextWholeWrongFalsely : Prop := textWholeRow.holds Tryz.pinned (OpenSpec.ofChange textWholeWrong)

/-- 'typebarlaw24.MotionMatches': WHATEVER THE INPUT: true; the input reads as it did. -/
def motionMatchesSpec : ChangeSpec := { name := "motionMatches", fn := fun _ => fun
  | [d1, d2] => { results := [.lit (.bool true)], args := [d1, d2] }
  | _ => none }
def motionMatchesRow : OpenClaim := { program := "ytjefahhmkcfiiaagreat", sum := "d473d4b4ad517ba6a95749256755a8f6e0e5a807b480f93864268fcdc12794f9", func := "typebar/typebarlaw24.MotionMatches", spec := "motionMatches", unfollowed := true, recurses := true, plainKeys := false, apart := false }
def MotionMatchesSaid : Prop := motionMatchesRow.holds Tryz.pinned (OpenSpec.ofChange motionMatchesSpec)

/-- ITS FALSE NEIGHBOUR: 'it returns false'. Refute it at one input. -/
def motionMatchesWrong : ChangeSpec := { name := "motionMatches", fn := fun _ => fun
  | [d1, d2] => { results := [.lit (.bool false)], args := [d1, d2] }
  | _ => none }
def MotionMatchesWrongFalsely : Prop := motionMatchesRow.holds Tryz.pinned (OpenSpec.ofChange motionMatchesWrong)

/-- 'typebarlaw35.ModelMotion': WHATEVER THE INPUT: true; the input reads as it did. -/
def modelMotionSpec : ChangeSpec := { name := "modelMotion", fn := fun _ => fun
  | [d1, d2, d3, d4] => { results := [.lit (.bool true)], args := [d1, d2, d3, d4] }
  | _ => none }
def modelMotionRow : OpenClaim := { program := "ytjefahhmkcfiiaagreat", sum := "d473d4b4ad517ba6a95749256755a8f6e0e5a807b480f93864268fcdc12794f9", func := "typebar/typebarlaw35.ModelMotion", spec := "modelMotion", unfollowed := true, recurses := true, plainKeys := false, apart := false }
def ModelMotionSaid : Prop := modelMotionRow.holds Tryz.pinned (OpenSpec.ofChange modelMotionSpec)

/-- ITS FALSE NEIGHBOUR: 'it returns false'. Refute it at one input. -/
def modelMotionWrong : ChangeSpec := { name := "modelMotion", fn := fun _ => fun
  | [d1, d2, d3, d4] => { results := [.lit (.bool false)], args := [d1, d2, d3, d4] }
  | _ => none }
def ModelMotionWrongFalsely : Prop := modelMotionRow.holds Tryz.pinned (OpenSpec.ofChange modelMotionWrong)

/-- 'typebarlaw35.ModelText': WHATEVER THE INPUT: true; the input reads as it did. -/
def modelTextSpec : ChangeSpec := { name := "modelText", fn := fun _ => fun
  | [d1, d2] => { results := [.lit (.bool true)], args := [d1, d2] }
  | _ => none }
def modelTextRow : OpenClaim := { program := "ytjefahhmkcfiiaagreat", sum := "d473d4b4ad517ba6a95749256755a8f6e0e5a807b480f93864268fcdc12794f9", func := "typebar/typebarlaw35.ModelText", spec := "modelText", unfollowed := true, recurses := true, plainKeys := false, apart := false }
def ModelTextSaid : Prop := modelTextRow.holds Tryz.pinned (OpenSpec.ofChange modelTextSpec)

/-- ITS FALSE NEIGHBOUR: 'it returns false'. Refute it at one input. -/
def modelTextWrong : ChangeSpec := { name := "modelText", fn := fun _ => fun
  | [d1, d2] => { results := [.lit (.bool false)], args := [d1, d2] }
  | _ => none }
def ModelTextWrongFalsely : Prop := modelTextRow.holds Tryz.pinned (OpenSpec.ofChange modelTextWrong)

/- THE SECOND FORM. 'bulk': how many values and letters a reading holds, each counted each time it is reached (what is shared counts as often as it is met; a slice's spare places count too). A statement '..UptoSaid' is the law's where the arguments, and the package variables that the reading takes, are together of bulk at most 1048576: NARROWER than '..Said'. Prove '..Said' where nothing that the law and all that it calls make is longer than what came in: it says more and counts as full. Else prove '..UptoSaid'. A law counts once. -/
mutual
def uptoBulk {H : Type} : DataW H → Nat
  | .lit (.string bytes) => bytes.length + 1
  | .lit _ => 1
  | .nil => 1
  | .ptr d => uptoBulk d + 1
  | .slice elems spare => uptoBulkAll elems + uptoBulkAll spare + 1
  | .agg parts => uptoBulkAll parts + 1
  | .iface _ d => uptoBulk d + 1
  | .map entries => uptoBulkEntries entries + 1
  | .held _ => 1
def uptoBulkAll {H : Type} : List (DataW H) → Nat
  | [] => 0
  | d :: r => uptoBulk d + uptoBulkAll r
def uptoBulkEntries {H : Type} : List (Lit × DataW H) → Nat
  | [] => 0
  | x :: r => uptoBulkEntry x + uptoBulkEntries r
def uptoBulkEntry {H : Type} : Lit × DataW H → Nat
  | (.string bytes, d) => bytes.length + uptoBulk d + 1
  | (_, d) => uptoBulk d + 1
 end
def uptoSmall : (H : Type) → List (DataW H) → Bool := fun _ ds => decide (uptoBulkAll ds ≤ 1048576)
def OpenSpec.upto (s : _root_.Go.ChangeSpec) : _root_.Go.OpenSpec := { _root_.Go.OpenSpec.ofChange s with cond := some uptoSmall }

/-- 'typebarlaw35.ModelPuts', WHERE WHAT IT READS IS OF BULK AT MOST 1048576: true; the input reads as it did. -/
def modelPutsUptoRow : OpenClaim := { program := "ytjefahhmkcfiiaagreat", sum := "d473d4b4ad517ba6a95749256755a8f6e0e5a807b480f93864268fcdc12794f9", func := "typebar/typebarlaw35.ModelPuts", spec := "modelPuts", unfollowed := true, recurses := true, plainKeys := false, apart := false, narrowed := true }
def ModelPutsUptoSaid : Prop := modelPutsUptoRow.holds Tryz.pinned (OpenSpec.upto modelPutsSpec)

/-- 'typebarlaw35.ModelGoes', WHERE WHAT IT READS IS OF BULK AT MOST 1048576: true; the input reads as it did. -/
def modelGoesUptoRow : OpenClaim := { program := "ytjefahhmkcfiiaagreat", sum := "d473d4b4ad517ba6a95749256755a8f6e0e5a807b480f93864268fcdc12794f9", func := "typebar/typebarlaw35.ModelGoes", spec := "modelGoes", unfollowed := true, recurses := true, plainKeys := false, apart := false, narrowed := true }
def ModelGoesUptoSaid : Prop := modelGoesUptoRow.holds Tryz.pinned (OpenSpec.upto modelGoesSpec)

/-- 'typebarlaw24.MotionMoves', WHERE WHAT IT READS IS OF BULK AT MOST 1048576: true; the input reads as it did. -/
def motionMovesUptoRow : OpenClaim := { program := "ytjefahhmkcfiiaagreat", sum := "d473d4b4ad517ba6a95749256755a8f6e0e5a807b480f93864268fcdc12794f9", func := "typebar/typebarlaw24.MotionMoves", spec := "motionMoves", unfollowed := true, recurses := true, plainKeys := false, apart := false, narrowed := true }
def MotionMovesUptoSaid : Prop := motionMovesUptoRow.holds Tryz.pinned (OpenSpec.upto motionMovesSpec)

/-- 'typebarlaw24.MotionTakes', WHERE WHAT IT READS IS OF BULK AT MOST 1048576: true; the input reads as it did. -/
def motionTakesUptoRow : OpenClaim := { program := "ytjefahhmkcfiiaagreat", sum := "d473d4b4ad517ba6a95749256755a8f6e0e5a807b480f93864268fcdc12794f9", func := "typebar/typebarlaw24.MotionTakes", spec := "motionTakes", unfollowed := true, recurses := true, plainKeys := false, apart := false, narrowed := true }
def MotionTakesUptoSaid : Prop := motionTakesUptoRow.holds Tryz.pinned (OpenSpec.upto motionTakesSpec)

/-- 'typebarlaw24.MotionSwaps', WHERE WHAT IT READS IS OF BULK AT MOST 1048576: true; the input reads as it did. -/
def motionSwapsUptoRow : OpenClaim := { program := "ytjefahhmkcfiiaagreat", sum := "d473d4b4ad517ba6a95749256755a8f6e0e5a807b480f93864268fcdc12794f9", func := "typebar/typebarlaw24.MotionSwaps", spec := "motionSwaps", unfollowed := true, recurses := true, plainKeys := false, apart := false, narrowed := true }
def MotionSwapsUptoSaid : Prop := motionSwapsUptoRow.holds Tryz.pinned (OpenSpec.upto motionSwapsSpec)

/-- 'typebarlaw24.MotionBack', WHERE WHAT IT READS IS OF BULK AT MOST 1048576: true; the input reads as it did. -/
def motionBackUptoRow : OpenClaim := { program := "ytjefahhmkcfiiaagreat", sum := "d473d4b4ad517ba6a95749256755a8f6e0e5a807b480f93864268fcdc12794f9", func := "typebar/typebarlaw24.MotionBack", spec := "motionBack", unfollowed := true, recurses := true, plainKeys := false, apart := false, narrowed := true }
def MotionBackUptoSaid : Prop := motionBackUptoRow.holds Tryz.pinned (OpenSpec.upto motionBackSpec)

/-- 'typebarlaw17.TextFull', WHERE WHAT IT READS IS OF BULK AT MOST 1048576: true; the input reads as it did. -/
def textFullUptoRow : OpenClaim := { program := "ytjefahhmkcfiiaagreat", sum := "d473d4b4ad517ba6a95749256755a8f6e0e5a807b480f93864268fcdc12794f9", func := "typebar/typebarlaw17.TextFull", spec := "textFull", unfollowed := true, recurses := true, plainKeys := false, apart := false, narrowed := true }
def TextFullUptoSaid : Prop := textFullUptoRow.holds Tryz.pinned (OpenSpec.upto textFullSpec)

/-- 'typebarlaw17.TextPlays', WHERE WHAT IT READS IS OF BULK AT MOST 1048576: true; the input reads as it did. -/
def textPlaysUptoRow : OpenClaim := { program := "ytjefahhmkcfiiaagreat", sum := "d473d4b4ad517ba6a95749256755a8f6e0e5a807b480f93864268fcdc12794f9", func := "typebar/typebarlaw17.TextPlays", spec := "textPlays", unfollowed := true, recurses := true, plainKeys := false, apart := false, narrowed := true }
def TextPlaysUptoSaid : Prop := textPlaysUptoRow.holds Tryz.pinned (OpenSpec.upto textPlaysSpec)

/-- 'typebarlaw17.TextWhole', WHERE WHAT IT READS IS OF BULK AT MOST 1048576: true; the input reads as it did. -/
def textWholeUptoRow : OpenClaim := { program := "ytjefahhmkcfiiaagreat", sum := "d473d4b4ad517ba6a95749256755a8f6e0e5a807b480f93864268fcdc12794f9", func := "typebar/typebarlaw17.TextWhole", spec := "textWhole", unfollowed := true, recurses := true, plainKeys := false, apart := false, narrowed := true }
def TextWholeUptoSaid : Prop := textWholeUptoRow.holds Tryz.pinned (OpenSpec.upto textWholeSpec)

/-- 'typebarlaw24.MotionMatches', WHERE WHAT IT READS IS OF BULK AT MOST 1048576: true; the input reads as it did. -/
def motionMatchesUptoRow : OpenClaim := { program := "ytjefahhmkcfiiaagreat", sum := "d473d4b4ad517ba6a95749256755a8f6e0e5a807b480f93864268fcdc12794f9", func := "typebar/typebarlaw24.MotionMatches", spec := "motionMatches", unfollowed := true, recurses := true, plainKeys := false, apart := false, narrowed := true }
def MotionMatchesUptoSaid : Prop := motionMatchesUptoRow.holds Tryz.pinned (OpenSpec.upto motionMatchesSpec)

/-- 'typebarlaw35.ModelMotion', WHERE WHAT IT READS IS OF BULK AT MOST 1048576: true; the input reads as it did. -/
def modelMotionUptoRow : OpenClaim := { program := "ytjefahhmkcfiiaagreat", sum := "d473d4b4ad517ba6a95749256755a8f6e0e5a807b480f93864268fcdc12794f9", func := "typebar/typebarlaw35.ModelMotion", spec := "modelMotion", unfollowed := true, recurses := true, plainKeys := false, apart := false, narrowed := true }
def ModelMotionUptoSaid : Prop := modelMotionUptoRow.holds Tryz.pinned (OpenSpec.upto modelMotionSpec)

/-- 'typebarlaw35.ModelText', WHERE WHAT IT READS IS OF BULK AT MOST 1048576: true; the input reads as it did. -/
def modelTextUptoRow : OpenClaim := { program := "ytjefahhmkcfiiaagreat", sum := "d473d4b4ad517ba6a95749256755a8f6e0e5a807b480f93864268fcdc12794f9", func := "typebar/typebarlaw35.ModelText", spec := "modelText", unfollowed := true, recurses := true, plainKeys := false, apart := false, narrowed := true }
def ModelTextUptoSaid : Prop := modelTextUptoRow.holds Tryz.pinned (OpenSpec.upto modelTextSpec)

end Rows
end Go.Proofs.YtjefahhmkcfiiaaGreat

/-
  No cell of these rows narrows 'for every input' (looked for: loops, veiled, ifaces, maps, wideKeys, modest, calm, conditions, laid).
  DERIVED. THE GIVEN ROWS OF THIS SEAT. 5 by the template 'for every input the law returns true; each argument reads behind the call as it read before'; 0 by the template 'total and deterministic' (their statements: YthbmelihnabkaaaGreatTotals.lean).
  GIVEN WITH THE SEED: the statements are not yours to turn. If you find one false, say at which input.
  Laid BY PROGRAM, IN A SANDBOX (cutbox-rows.mjs): the forced cells as the released guide's own fill.sh prints them over the translation 8d28cc0aabfec858… (all of the seat's roots in one cut). By AI agents, Wed Nov 11 2026. No macro, syntax, notation, axiom, sorry.
-/
import Derived.Test.YthbmelihnabkaaaGreatChecked
import GoSem.Claim
import GoSem.ClaimJoined
import GoSem.ClaimMapViews
import Derived.JoinedTies
import Derived.KernelRfl
namespace Go.Proofs.YthbmelihnabkaaaGreat
/- THE CELL 'sum', in the pinned program and in every row, IS THE sha256 OF THE DUMP (.gsa) THAT YthbmelihnabkaaaGreatProg.lean LOADS. Nothing in Lean hashes anything: it is a label: what it is worth is what the hold of that sum in a sandbox is worth. -/
noncomputable def Tryz.pinned : Pinned := { name := "ythbmelihnabkaaagreat", sum := "8d28cc0aabfec858f5b22c6c632c2aa36c8df0dc837b39b85f9ea9d0a46c6ff8", checked := Tryz.checked }
namespace Rows
def none {H : Type} : Left H := { results := [], args := [] }

/-- 'typebarlaw51.CasesAgain': WHATEVER THE INPUT: true; the input reads as it did. -/
def casesAgainSpec : ChangeSpec := { name := "casesAgain", fn := fun _ => fun
  | [d1, d2] => { results := [.lit (.bool true)], args := [d1, d2] }
  | _ => none }
def casesAgainRow : OpenClaim := { program := "ythbmelihnabkaaagreat", sum := "8d28cc0aabfec858f5b22c6c632c2aa36c8df0dc837b39b85f9ea9d0a46c6ff8", func := "typebar/typebarlaw51.CasesAgain", spec := "casesAgain", unfollowed := true, recurses := true, plainKeys := false, apart := false }
def CasesAgainSaid : Prop := casesAgainRow.holds Tryz.pinned (OpenSpec.ofChange casesAgainSpec)

/-- ITS FALSE NEIGHBOUR: 'it returns false'. Refute it at one input. -/
def casesAgainWrong : ChangeSpec := { name := "casesAgain", fn := fun _ => fun
  | [d1, d2] => { results := [.lit (.bool false)], args := [d1, d2] }
  | _ => none }
def CasesAgainWrongFalsely : Prop := casesAgainRow.holds Tryz.pinned (OpenSpec.ofChange casesAgainWrong)

/-- 'typebarlaw17.TextUndoes': WHATEVER THE INPUT: true; the input reads as it did. -/
def textUndoesSpec : ChangeSpec := { name := "textUndoes", fn := fun _ => fun
  | [d1, d2] => { results := [.lit (.bool true)], args := [d1, d2] }
  | _ => none }
def textUndoesRow : OpenClaim := { program := "ythbmelihnabkaaagreat", sum := "8d28cc0aabfec858f5b22c6c632c2aa36c8df0dc837b39b85f9ea9d0a46c6ff8", func := "typebar/typebarlaw17.TextUndoes", spec := "textUndoes", unfollowed := true, recurses := true, plainKeys := false, apart := false }
def TextUndoesSaid : Prop := textUndoesRow.holds Tryz.pinned (OpenSpec.ofChange textUndoesSpec)

/-- ITS FALSE NEIGHBOUR: 'it returns false'. Refute it at one input. -/
def textUndoesWrong : ChangeSpec := { name := "textUndoes", fn := fun _ => fun
  | [d1, d2] => { results := [.lit (.bool false)], args := [d1, d2] }
  | _ => none }
def TextUndoesWrongFalsely : Prop := textUndoesRow.holds Tryz.pinned (OpenSpec.ofChange textUndoesWrong)

/-- 'typebarlaw17.TextGoes': WHATEVER THE INPUT: true; the input reads as it did. -/
def textGoesSpec : ChangeSpec := { name := "textGoes", fn := fun _ => fun
  | [d1, d2, d3] => { results := [.lit (.bool true)], args := [d1, d2, d3] }
  | _ => none }
def textGoesRow : OpenClaim := { program := "ythbmelihnabkaaagreat", sum := "8d28cc0aabfec858f5b22c6c632c2aa36c8df0dc837b39b85f9ea9d0a46c6ff8", func := "typebar/typebarlaw17.TextGoes", spec := "textGoes", unfollowed := true, recurses := true, plainKeys := false, apart := false }
def TextGoesSaid : Prop := textGoesRow.holds Tryz.pinned (OpenSpec.ofChange textGoesSpec)

/-- ITS FALSE NEIGHBOUR: 'it returns false'. Refute it at one input. -/
def textGoesWrong : ChangeSpec := { name := "textGoes", fn := fun _ => fun
  | [d1, d2, d3] => { results := [.lit (.bool false)], args := [d1, d2, d3] }
  | _ => none }
def TextGoesWrongFalsely : Prop := textGoesRow.holds Tryz.pinned (OpenSpec.ofChange textGoesWrong)

/-- 'typebarlaw17.TextNone': WHATEVER THE INPUT: true; the input reads as it did. -/
def textNoneSpec : ChangeSpec := { name := "textNone", fn := fun _ => fun
  | [d1, d2, d3] => { results := [.lit (.bool true)], args := [d1, d2, d3] }
  | _ => none }
def textNoneRow : OpenClaim := { program := "ythbmelihnabkaaagreat", sum := "8d28cc0aabfec858f5b22c6c632c2aa36c8df0dc837b39b85f9ea9d0a46c6ff8", func := "typebar/typebarlaw17.TextNone", spec := "textNone", unfollowed := true, recurses := true, plainKeys := false, apart := false }
def TextNoneSaid : Prop := textNoneRow.holds Tryz.pinned (OpenSpec.ofChange textNoneSpec)

/-- ITS FALSE NEIGHBOUR: 'it returns false'. Refute it at one input. -/
def textNoneWrong : ChangeSpec := { name := "textNone", fn := fun _ => fun
  | [d1, d2, d3] => { results := [.lit (.bool false)], args := [d1, d2, d3] }
  | _ => none }
def TextNoneWrongFalsely : Prop := textNoneRow.holds Tryz.pinned (OpenSpec.ofChange textNoneWrong)

/-- 'typebarlaw51.CasesWords': WHATEVER THE INPUT: true; the input reads as it did. -/
def casesWordsSpec : ChangeSpec := { name := "casesWords", fn := fun _ => fun
  | [d1, d2, d3] => { results := [.lit (.bool true)], args := [d1, d2, d3] }
  | _ => none }
def casesWordsRow : OpenClaim := { program := "ythbmelihnabkaaagreat", sum := "8d28cc0aabfec858f5b22c6c632c2aa36c8df0dc837b39b85f9ea9d0a46c6ff8", func := "typebar/typebarlaw51.CasesWords", spec := "casesWords", unfollowed := true, recurses := true, plainKeys := false, apart := false }
def CasesWordsSaid : Prop := casesWordsRow.holds Tryz.pinned (OpenSpec.ofChange casesWordsSpec)

/-- ITS FALSE NEIGHBOUR: 'it returns false'. Refute it at one input. -/
def casesWordsWrong : ChangeSpec := { name := "casesWords", fn := fun _ => fun
  | [d1, d2, d3] => { results := [.lit (.bool false)], args := [d1, d2, d3] }
  | _ => none }
def CasesWordsWrongFalsely : Prop := casesWordsRow.holds Tryz.pinned (OpenSpec.ofChange casesWordsWrong)

/- THE SECOND FORM. 'bulk': how many values and letters a reading holds, each counted each time it is reached (what is shared counts as often as it is met; a slice's spare places count too). A statement '..UptoSaid' is the law's where the arguments, and the package variables that the reading takes, are together of bulk at most 1048576: NARROWER than '..Said'. Prove '..Said' where nothing that the law and all that it calls make is longer than what came in: it says more and counts as full. Else prove '..UptoSaid'. A law counts once. -/
mutual
def uptoBulk {H : Type} : DataW H → Nat
  | .lit (.string bytes) => bytes.length + 1
  | .lit _ => 1
  | .nil => 1
  | .ptr d => uptoBulk d + 1
  | .slice elems spare => uptoBulkAll elems + uptoBulkAll spare + 1
  | .agg parts => uptoBulkAll parts + 1
  | .iface _ d => uptoBulk d + 1
  | .map entries => uptoBulkEntries entries + 1
  | .held _ => 1
def uptoBulkAll {H : Type} : List (DataW H) → Nat
  | [] => 0
  | d :: r => uptoBulk d + uptoBulkAll r
def uptoBulkEntries {H : Type} : List (Lit × DataW H) → Nat
  | [] => 0
  | x :: r => uptoBulkEntry x + uptoBulkEntries r
def uptoBulkEntry {H : Type} : Lit × DataW H → Nat
  | (.string bytes, d) => bytes.length + uptoBulk d + 1
  | (_, d) => uptoBulk d + 1
 end
def uptoSmall : (H : Type) → List (DataW H) → Bool := fun _ ds => decide (uptoBulkAll ds ≤ 1048576)
def OpenSpec.upto (s : _root_.Go.ChangeSpec) : _root_.Go.OpenSpec := { _root_.Go.OpenSpec.ofChange s with cond := some uptoSmall }

/-- 'typebarlaw51.CasesAgain', WHERE WHAT IT READS IS OF BULK AT MOST 1048576: true; the input reads as it did. -/
def casesAgainUptoRow : OpenClaim := { program := "ythbmelihnabkaaagreat", sum := "8d28cc0aabfec858f5b22c6c632c2aa36c8df0dc837b39b85f9ea9d0a46c6ff8", func := "typebar/typebarlaw51.CasesAgain", spec := "casesAgain", unfollowed := true, recurses := true, plainKeys := false, apart := false, narrowed := true }
def CasesAgainUptoSaid : Prop := casesAgainUptoRow.holds Tryz.pinned (OpenSpec.upto casesAgainSpec)

/-- 'typebarlaw17.TextUndoes', WHERE WHAT IT READS IS OF BULK AT MOST 1048576: true; the input reads as it did. -/
def textUndoesUptoRow : OpenClaim := { program := "ythbmelihnabkaaagreat", sum := "8d28cc0aabfec858f5b22c6c632c2aa36c8df0dc837b39b85f9ea9d0a46c6ff8", func := "typebar/typebarlaw17.TextUndoes", spec := "textUndoes", unfollowed := true, recurses := true, plainKeys := false, apart := false, narrowed := true }
def TextUndoesUptoSaid : Prop := textUndoesUptoRow.holds Tryz.pinned (OpenSpec.upto textUndoesSpec)

/-- 'typebarlaw17.TextGoes', WHERE WHAT IT READS IS OF BULK AT MOST 1048576: true; the input reads as it did. -/
def textGoesUptoRow : OpenClaim := { program := "ythbmelihnabkaaagreat", sum := "8d28cc0aabfec858f5b22c6c632c2aa36c8df0dc837b39b85f9ea9d0a46c6ff8", func := "typebar/typebarlaw17.TextGoes", spec := "textGoes", unfollowed := true, recurses := true, plainKeys := false, apart := false, narrowed := true }
def TextGoesUptoSaid : Prop := textGoesUptoRow.holds Tryz.pinned (OpenSpec.upto textGoesSpec)

/-- 'typebarlaw17.TextNone', WHERE WHAT IT READS IS OF BULK AT MOST 1048576: true; the input reads as it did. -/
def textNoneUptoRow : OpenClaim := { program := "ythbmelihnabkaaagreat", sum := "8d28cc0aabfec858f5b22c6c632c2aa36c8df0dc837b39b85f9ea9d0a46c6ff8", func := "typebar/typebarlaw17.TextNone", spec := "textNone", unfollowed := true, recurses := true, plainKeys := false, apart := false, narrowed := true }
def TextNoneUptoSaid : Prop := textNoneUptoRow.holds Tryz.pinned (OpenSpec.upto textNoneSpec)

/-- 'typebarlaw51.CasesWords', WHERE WHAT IT READS IS OF BULK AT MOST 1048576: true; the input reads as it did. -/
def casesWordsUptoRow : OpenClaim := { program := "ythbmelihnabkaaagreat", sum := "8d28cc0aabfec858f5b22c6c632c2aa36c8df0dc837b39b85f9ea9d0a46c6ff8", func := "typebar/typebarlaw51.CasesWords", spec := "casesWords", unfollowed := true, recurses := true, plainKeys := false, apart := false, narrowed := true }
def CasesWordsUptoSaid : Prop := casesWordsUptoRow.holds Tryz.pinned (OpenSpec.upto casesWordsSpec)

end Rows
end Go.Proofs.YthbmelihnabkaaaGreat

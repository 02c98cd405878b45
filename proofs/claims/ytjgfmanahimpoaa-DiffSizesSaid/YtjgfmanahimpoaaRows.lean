/-
  No cell of these rows narrows 'for every input' (looked for: loops, veiled, ifaces, maps, wideKeys, modest, calm, conditions, laid).
  DERIVED. THE GIVEN ROWS OF THIS SEAT. 7 by the template 'for every input the law returns true; each argument reads behind the call as it read before'; 0 by the template 'total and deterministic' (their statements: YtjgfmanahimpoaaTotals.lean).
  GIVEN WITH THE SEED: the statements are not yours to turn. If you find one false, say at which input.
  Laid BY PROGRAM, IN A SANDBOX (cutbox-rows.mjs): the forced cells as the released guide's own fill.sh prints them over the translation 714728f9c2479129… (all of the seat's roots in one cut). By AI agents, Wed Nov 11 2026. No macro, syntax, notation, axiom, sorry.
-/
import Derived.Test.YtjgfmanahimpoaaChecked
import GoSem.Claim
import GoSem.ClaimJoined
import GoSem.ClaimMapViews
import Derived.JoinedTies
import Derived.KernelRfl
namespace Go.Proofs.Ytjgfmanahimpoaa
/- THE CELL 'sum', in the pinned program and in every row, IS THE sha256 OF THE DUMP (.gsa) THAT YtjgfmanahimpoaaProg.lean LOADS. Nothing in Lean hashes anything: it is a label: what it is worth is what the hold of that sum in a sandbox is worth. -/
noncomputable def Try.pinned : Pinned := { name := "ytjgfmanahimpoaa", sum := "714728f9c247912979f28e195fa97d775fabcf52e9ba4fc6a41465c06e3d9cca", checked := Try.checked }
namespace Rows
def none {H : Type} : Left H := { results := [], args := [] }

/-- 'typebarlaw23.BindOf': WHATEVER THE INPUT: true; the input reads as it did. -/
def bindOfSpec : ChangeSpec := { name := "bindOf", fn := fun _ => fun
  | [d1, d2] => { results := [.lit (.bool true)], args := [d1, d2] }
  | _ => none }
def bindOfRow : OpenClaim := { program := "ytjgfmanahimpoaa", sum := "714728f9c247912979f28e195fa97d775fabcf52e9ba4fc6a41465c06e3d9cca", func := "typebar/typebarlaw23.BindOf", spec := "bindOf", plainKeys := false, apart := false }
def BindOfSaid : Prop := bindOfRow.holds Try.pinned (OpenSpec.ofChange bindOfSpec)

/-- ITS FALSE NEIGHBOUR: 'it returns false'. Refute it at one input. -/
def bindOfWrong : ChangeSpec := { name := "bindOf", fn := fun _ => fun
  | [d1, d2] => { results := [.lit (.bool false)], args := [d1, d2] }
  | _ => none }
def BindOfWrongFalsely : Prop := bindOfRow.holds Try.pinned (OpenSpec.ofChange bindOfWrong)

/-- 'typebarlaw23.BindLooks': WHATEVER THE INPUT: true; the input reads as it did. -/
def bindLooksSpec : ChangeSpec := { name := "bindLooks", fn := fun _ => fun
  | [d1, d2] => { results := [.lit (.bool true)], args := [d1, d2] }
  | _ => none }
def bindLooksRow : OpenClaim := { program := "ytjgfmanahimpoaa", sum := "714728f9c247912979f28e195fa97d775fabcf52e9ba4fc6a41465c06e3d9cca", func := "typebar/typebarlaw23.BindLooks", spec := "bindLooks", inPlace := ["maps.clone"], plainKeys := false, apart := false }
def BindLooksSaid : Prop := bindLooksRow.holds Try.pinned (OpenSpec.ofChange bindLooksSpec)

/-- ITS FALSE NEIGHBOUR: 'it returns false'. Refute it at one input. -/
def bindLooksWrong : ChangeSpec := { name := "bindLooks", fn := fun _ => fun
  | [d1, d2] => { results := [.lit (.bool false)], args := [d1, d2] }
  | _ => none }
def BindLooksWrongFalsely : Prop := bindLooksRow.holds Try.pinned (OpenSpec.ofChange bindLooksWrong)

/-- 'typebarlaw23.BindValue': WHATEVER THE INPUT: true; the input reads as it did. -/
def bindValueSpec : ChangeSpec := { name := "bindValue", fn := fun _ => fun
  | [d1, d2] => { results := [.lit (.bool true)], args := [d1, d2] }
  | _ => none }
def bindValueRow : OpenClaim := { program := "ytjgfmanahimpoaa", sum := "714728f9c247912979f28e195fa97d775fabcf52e9ba4fc6a41465c06e3d9cca", func := "typebar/typebarlaw23.BindValue", spec := "bindValue", inPlace := ["maps.clone"], plainKeys := false, apart := false }
def BindValueSaid : Prop := bindValueRow.holds Try.pinned (OpenSpec.ofChange bindValueSpec)

/-- ITS FALSE NEIGHBOUR: 'it returns false'. Refute it at one input. -/
def bindValueWrong : ChangeSpec := { name := "bindValue", fn := fun _ => fun
  | [d1, d2] => { results := [.lit (.bool false)], args := [d1, d2] }
  | _ => none }
def BindValueWrongFalsely : Prop := bindValueRow.holds Try.pinned (OpenSpec.ofChange bindValueWrong)

/-- 'typebarlaw32.DiffSizes': WHATEVER THE INPUT: true; the input reads as it did. -/
def diffSizesSpec : ChangeSpec := { name := "diffSizes", fn := fun _ => fun
  | [d1, d2, d3, d4, d5] => { results := [.lit (.bool true)], args := [d1, d2, d3, d4, d5] }
  | _ => none }
def diffSizesRow : OpenClaim := { program := "ytjgfmanahimpoaa", sum := "714728f9c247912979f28e195fa97d775fabcf52e9ba4fc6a41465c06e3d9cca", func := "typebar/typebarlaw32.DiffSizes", spec := "diffSizes", plainKeys := false, apart := false }
def DiffSizesSaid : Prop := diffSizesRow.holds Try.pinned (OpenSpec.ofChange diffSizesSpec)

/-- ITS FALSE NEIGHBOUR: 'it returns false'. Refute it at one input. -/
def diffSizesWrong : ChangeSpec := { name := "diffSizes", fn := fun _ => fun
  | [d1, d2, d3, d4, d5] => { results := [.lit (.bool false)], args := [d1, d2, d3, d4, d5] }
  | _ => none }
def DiffSizesWrongFalsely : Prop := diffSizesRow.holds Try.pinned (OpenSpec.ofChange diffSizesWrong)

/-- 'typebarlaw18.RingPlays': WHATEVER THE INPUT: true; the input reads as it did. -/
def ringPlaysSpec : ChangeSpec := { name := "ringPlays", fn := fun _ => fun
  | [d] => { results := [.lit (.bool true)], args := [d] }
  | _ => none }
def ringPlaysRow : OpenClaim := { program := "ytjgfmanahimpoaa", sum := "714728f9c247912979f28e195fa97d775fabcf52e9ba4fc6a41465c06e3d9cca", func := "typebar/typebarlaw18.RingPlays", spec := "ringPlays", inPlace := ["slices.overlaps[[]rune]"], plainKeys := false, apart := false }
def RingPlaysSaid : Prop := ringPlaysRow.holds Try.pinned (OpenSpec.ofChange ringPlaysSpec)

/-- ITS FALSE NEIGHBOUR: 'it returns false'. Refute it at one input. -/
def ringPlaysWrong : ChangeSpec := { name := "ringPlays", fn := fun _ => fun
  | [d] => { results := [.lit (.bool false)], args := [d] }
  | _ => none }
def RingPlaysWrongFalsely : Prop := ringPlaysRow.holds Try.pinned (OpenSpec.ofChange ringPlaysWrong)

/-- 'typebarlaw18.RingTurns': WHATEVER THE INPUT: true; the input reads as it did. -/
def ringTurnsSpec : ChangeSpec := { name := "ringTurns", fn := fun _ => fun
  | [d] => { results := [.lit (.bool true)], args := [d] }
  | _ => none }
def ringTurnsRow : OpenClaim := { program := "ytjgfmanahimpoaa", sum := "714728f9c247912979f28e195fa97d775fabcf52e9ba4fc6a41465c06e3d9cca", func := "typebar/typebarlaw18.RingTurns", spec := "ringTurns", inPlace := ["slices.overlaps[[]rune]"], plainKeys := false, apart := false }
def RingTurnsSaid : Prop := ringTurnsRow.holds Try.pinned (OpenSpec.ofChange ringTurnsSpec)

/-- ITS FALSE NEIGHBOUR: 'it returns false'. Refute it at one input. -/
def ringTurnsWrong : ChangeSpec := { name := "ringTurns", fn := fun _ => fun
  | [d] => { results := [.lit (.bool false)], args := [d] }
  | _ => none }
def RingTurnsWrongFalsely : Prop := ringTurnsRow.holds Try.pinned (OpenSpec.ofChange ringTurnsWrong)

/-- 'typebarlaw18.RingMost': WHATEVER THE INPUT: true; the input reads as it did. -/
def ringMostSpec : ChangeSpec := { name := "ringMost", fn := fun _ => fun
  | [d] => { results := [.lit (.bool true)], args := [d] }
  | _ => none }
def ringMostRow : OpenClaim := { program := "ytjgfmanahimpoaa", sum := "714728f9c247912979f28e195fa97d775fabcf52e9ba4fc6a41465c06e3d9cca", func := "typebar/typebarlaw18.RingMost", spec := "ringMost", inPlace := ["slices.overlaps[[]rune]"], plainKeys := false, apart := false }
def RingMostSaid : Prop := ringMostRow.holds Try.pinned (OpenSpec.ofChange ringMostSpec)

/-- ITS FALSE NEIGHBOUR: 'it returns false'. Refute it at one input. -/
def ringMostWrong : ChangeSpec := { name := "ringMost", fn := fun _ => fun
  | [d] => { results := [.lit (.bool false)], args := [d] }
  | _ => none }
def RingMostWrongFalsely : Prop := ringMostRow.holds Try.pinned (OpenSpec.ofChange ringMostWrong)

/- THE SECOND FORM. 'bulk': how many values and letters a reading holds, each counted each time it is reached (what is shared counts as often as it is met; a slice's spare places count too). A statement '..UptoSaid' is the law's where the arguments, and the package variables that the reading takes, are together of bulk at most 1048576: NARROWER than '..Said'. Prove '..Said' where nothing that the law and all that it calls make is longer than what came in: it says more and counts as full. Else prove '..UptoSaid'. A law counts once. -/
mutual
def uptoBulk {H : Type} : DataW H → Nat
  | .lit (.string bytes) => bytes.length + 1
  | .lit _ => 1
  | .nil => 1
  | .ptr d => uptoBulk d + 1
  | .slice elems spare => uptoBulkAll elems + uptoBulkAll spare + 1
  | .agg parts => uptoBulkAll parts + 1
  | .iface _ d => uptoBulk d + 1
  | .map entries => uptoBulkEntries entries + 1
  | .held _ => 1
def uptoBulkAll {H : Type} : List (DataW H) → Nat
  | [] => 0
  | d :: r => uptoBulk d + uptoBulkAll r
def uptoBulkEntries {H : Type} : List (Lit × DataW H) → Nat
  | [] => 0
  | x :: r => uptoBulkEntry x + uptoBulkEntries r
def uptoBulkEntry {H : Type} : Lit × DataW H → Nat
  | (.string bytes, d) => bytes.length + uptoBulk d + 1
  | (_, d) => uptoBulk d + 1
 end
def uptoSmall : (H : Type) → List (DataW H) → Bool := fun _ ds => decide (uptoBulkAll ds ≤ 1048576)
def OpenSpec.upto (s : _root_.Go.ChangeSpec) : _root_.Go.OpenSpec := { _root_.Go.OpenSpec.ofChange s with cond := some uptoSmall }

/-- 'typebarlaw23.BindOf', WHERE WHAT IT READS IS OF BULK AT MOST 1048576: true; the input reads as it did. -/
def bindOfUptoRow : OpenClaim := { program := "ytjgfmanahimpoaa", sum := "714728f9c247912979f28e195fa97d775fabcf52e9ba4fc6a41465c06e3d9cca", func := "typebar/typebarlaw23.BindOf", spec := "bindOf", plainKeys := false, apart := false, narrowed := true }
def BindOfUptoSaid : Prop := bindOfUptoRow.holds Try.pinned (OpenSpec.upto bindOfSpec)

/-- 'typebarlaw23.BindLooks', WHERE WHAT IT READS IS OF BULK AT MOST 1048576: true; the input reads as it did. -/
def bindLooksUptoRow : OpenClaim := { program := "ytjgfmanahimpoaa", sum := "714728f9c247912979f28e195fa97d775fabcf52e9ba4fc6a41465c06e3d9cca", func := "typebar/typebarlaw23.BindLooks", spec := "bindLooks", inPlace := ["maps.clone"], plainKeys := false, apart := false, narrowed := true }
def BindLooksUptoSaid : Prop := bindLooksUptoRow.holds Try.pinned (OpenSpec.upto bindLooksSpec)

/-- 'typebarlaw23.BindValue', WHERE WHAT IT READS IS OF BULK AT MOST 1048576: true; the input reads as it did. -/
def bindValueUptoRow : OpenClaim := { program := "ytjgfmanahimpoaa", sum := "714728f9c247912979f28e195fa97d775fabcf52e9ba4fc6a41465c06e3d9cca", func := "typebar/typebarlaw23.BindValue", spec := "bindValue", inPlace := ["maps.clone"], plainKeys := false, apart := false, narrowed := true }
def BindValueUptoSaid : Prop := bindValueUptoRow.holds Try.pinned (OpenSpec.upto bindValueSpec)

/-- 'typebarlaw32.DiffSizes', WHERE WHAT IT READS IS OF BULK AT MOST 1048576: true; the input reads as it did. -/
def diffSizesUptoRow : OpenClaim := { program := "ytjgfmanahimpoaa", sum := "714728f9c247912979f28e195fa97d775fabcf52e9ba4fc6a41465c06e3d9cca", func := "typebar/typebarlaw32.DiffSizes", spec := "diffSizes", plainKeys := false, apart := false, narrowed := true }
def DiffSizesUptoSaid : Prop := diffSizesUptoRow.holds Try.pinned (OpenSpec.upto diffSizesSpec)

/-- 'typebarlaw18.RingPlays', WHERE WHAT IT READS IS OF BULK AT MOST 1048576: true; the input reads as it did. -/
def ringPlaysUptoRow : OpenClaim := { program := "ytjgfmanahimpoaa", sum := "714728f9c247912979f28e195fa97d775fabcf52e9ba4fc6a41465c06e3d9cca", func := "typebar/typebarlaw18.RingPlays", spec := "ringPlays", inPlace := ["slices.overlaps[[]rune]"], plainKeys := false, apart := false, narrowed := true }
def RingPlaysUptoSaid : Prop := ringPlaysUptoRow.holds Try.pinned (OpenSpec.upto ringPlaysSpec)

/-- 'typebarlaw18.RingTurns', WHERE WHAT IT READS IS OF BULK AT MOST 1048576: true; the input reads as it did. -/
def ringTurnsUptoRow : OpenClaim := { program := "ytjgfmanahimpoaa", sum := "714728f9c247912979f28e195fa97d775fabcf52e9ba4fc6a41465c06e3d9cca", func := "typebar/typebarlaw18.RingTurns", spec := "ringTurns", inPlace := ["slices.overlaps[[]rune]"], plainKeys := false, apart := false, narrowed := true }
def RingTurnsUptoSaid : Prop := ringTurnsUptoRow.holds Try.pinned (OpenSpec.upto ringTurnsSpec)

/-- 'typebarlaw18.RingMost', WHERE WHAT IT READS IS OF BULK AT MOST 1048576: true; the input reads as it did. -/
def ringMostUptoRow : OpenClaim := { program := "ytjgfmanahimpoaa", sum := "714728f9c247912979f28e195fa97d775fabcf52e9ba4fc6a41465c06e3d9cca", func := "typebar/typebarlaw18.RingMost", spec := "ringMost", inPlace := ["slices.overlaps[[]rune]"], plainKeys := false, apart := false, narrowed := true }
def RingMostUptoSaid : Prop := ringMostUptoRow.holds Try.pinned (OpenSpec.upto ringMostSpec)

end Rows
end Go.Proofs.Ytjgfmanahimpoaa

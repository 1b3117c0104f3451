/-
  No cell of these rows narrows 'for every input' (looked for: loops, veiled, ifaces, maps, wideKeys, modest, calm, conditions, laid).
  DERIVED. THE GIVEN ROWS OF THIS SEAT. 8 by the template 'for every input the law returns true; each argument reads behind the call as it read before'; 0 by the template 'total and deterministic' (their statements: YtikfbhepnnbdoaaTotals.lean).
  GIVEN WITH THE SEED: the statements are not yours to turn. If you find one false, say at which input.
  Laid BY PROGRAM, IN A SANDBOX (cutbox-rows.mjs): the forced cells as the released guide's own fill.sh prints them over the translation 4a6d57d3ac02fa21… (all of the seat's roots in one cut). By AI agents, Wed Nov 11 2026. No macro, syntax, notation, axiom, sorry.
-/
import Derived.Test.YtikfbhepnnbdoaaChecked
import GoSem.Claim
import GoSem.ClaimJoined
import GoSem.ClaimMapViews
import Derived.JoinedTies
import Derived.KernelRfl
namespace Go.Proofs.Ytikfbhepnnbdoaa
/- THE CELL 'sum', in the pinned program and in every row, IS THE sha256 OF THE DUMP (.gsa) THAT YtikfbhepnnbdoaaProg.lean LOADS. Nothing in Lean hashes anything: it is a label: what it is worth is what the hold of that sum in a sandbox is worth. -/
noncomputable def Try.pinned : Pinned := { name := "ytikfbhepnnbdoaa", sum := "4a6d57d3ac02fa213b4f123ab3ba09b365fa7fbc6652549ff6652447a18b4ca7", checked := Try.checked }
namespace Rows
def none {H : Type} : Left H := { results := [], args := [] }

/-- 'ashlarlaw06.SumsPlaces': WHATEVER THE INPUT: true; the input reads as it did. -/
def sumsPlacesSpec : ChangeSpec := { name := "sumsPlaces", fn := fun _ => fun
  | [d1, d2] => { results := [.lit (.bool true)], args := [d1, d2] }
  | _ => none }
def sumsPlacesRow : OpenClaim := { program := "ytikfbhepnnbdoaa", sum := "4a6d57d3ac02fa213b4f123ab3ba09b365fa7fbc6652549ff6652447a18b4ca7", func := "ashlar/ashlarlaw06.SumsPlaces", spec := "sumsPlaces", unfollowed := true, recurses := true, plainKeys := false, apart := false }
def SumsPlacesSaid : Prop := sumsPlacesRow.holds Try.pinned (OpenSpec.ofChange sumsPlacesSpec)

/-- ITS FALSE NEIGHBOUR: 'it returns false'. Refute it at one input. -/
def sumsPlacesWrong : ChangeSpec := { name := "sumsPlaces", fn := fun _ => fun
  | [d1, d2] => { results := [.lit (.bool false)], args := [d1, d2] }
  | _ => none }
def SumsPlacesWrongFalsely : Prop := sumsPlacesRow.holds Try.pinned (OpenSpec.ofChange sumsPlacesWrong)

/-- 'ashlarlaw06.SumsApart': WHATEVER THE INPUT: true; the input reads as it did. -/
def sumsApartSpec : ChangeSpec := { name := "sumsApart", fn := fun _ => fun
  | [d1, d2] => { results := [.lit (.bool true)], args := [d1, d2] }
  | _ => none }
def sumsApartRow : OpenClaim := { program := "ytikfbhepnnbdoaa", sum := "4a6d57d3ac02fa213b4f123ab3ba09b365fa7fbc6652549ff6652447a18b4ca7", func := "ashlar/ashlarlaw06.SumsApart", spec := "sumsApart", unfollowed := true, recurses := true, plainKeys := false, apart := false }
def SumsApartSaid : Prop := sumsApartRow.holds Try.pinned (OpenSpec.ofChange sumsApartSpec)

/-- ITS FALSE NEIGHBOUR: 'it returns false'. Refute it at one input. -/
def sumsApartWrong : ChangeSpec := { name := "sumsApart", fn := fun _ => fun
  | [d1, d2] => { results := [.lit (.bool false)], args := [d1, d2] }
  | _ => none }
def SumsApartWrongFalsely : Prop := sumsApartRow.holds Try.pinned (OpenSpec.ofChange sumsApartWrong)

/-- 'ashlarlaw06.SumsSum': WHATEVER THE INPUT: true; the input reads as it did. -/
def sumsSumSpec : ChangeSpec := { name := "sumsSum", fn := fun _ => fun
  | [d1, d2, d3] => { results := [.lit (.bool true)], args := [d1, d2, d3] }
  | _ => none }
def sumsSumRow : OpenClaim := { program := "ytikfbhepnnbdoaa", sum := "4a6d57d3ac02fa213b4f123ab3ba09b365fa7fbc6652549ff6652447a18b4ca7", func := "ashlar/ashlarlaw06.SumsSum", spec := "sumsSum", unfollowed := true, recurses := true, plainKeys := false, apart := false }
def SumsSumSaid : Prop := sumsSumRow.holds Try.pinned (OpenSpec.ofChange sumsSumSpec)

/-- ITS FALSE NEIGHBOUR: 'it returns false'. Refute it at one input. -/
def sumsSumWrong : ChangeSpec := { name := "sumsSum", fn := fun _ => fun
  | [d1, d2, d3] => { results := [.lit (.bool false)], args := [d1, d2, d3] }
  | _ => none }
def SumsSumWrongFalsely : Prop := sumsSumRow.holds Try.pinned (OpenSpec.ofChange sumsSumWrong)

/-- 'ashlarlaw06.SumsMoved': WHATEVER THE INPUT: true; the input reads as it did. -/
def sumsMovedSpec : ChangeSpec := { name := "sumsMoved", fn := fun _ => fun
  | [d1, d2, d3, d4, d5] => { results := [.lit (.bool true)], args := [d1, d2, d3, d4, d5] }
  | _ => none }
def sumsMovedRow : OpenClaim := { program := "ytikfbhepnnbdoaa", sum := "4a6d57d3ac02fa213b4f123ab3ba09b365fa7fbc6652549ff6652447a18b4ca7", func := "ashlar/ashlarlaw06.SumsMoved", spec := "sumsMoved", unfollowed := true, recurses := true, plainKeys := false, apart := false }
def SumsMovedSaid : Prop := sumsMovedRow.holds Try.pinned (OpenSpec.ofChange sumsMovedSpec)

/-- ITS FALSE NEIGHBOUR: 'it returns false'. Refute it at one input. -/
def sumsMovedWrong : ChangeSpec := { name := "sumsMoved", fn := fun _ => fun
  | [d1, d2, d3, d4, d5] => { results := [.lit (.bool false)], args := [d1, d2, d3, d4, d5] }
  | _ => none }
def SumsMovedWrongFalsely : Prop := sumsMovedRow.holds Try.pinned (OpenSpec.ofChange sumsMovedWrong)

/-- 'ashlarlaw06.SumsNobody': WHATEVER THE INPUT: true; the input reads as it did. -/
def sumsNobodySpec : ChangeSpec := { name := "sumsNobody", fn := fun _ => fun
  | [d1, d2, d3] => { results := [.lit (.bool true)], args := [d1, d2, d3] }
  | _ => none }
def sumsNobodyRow : OpenClaim := { program := "ytikfbhepnnbdoaa", sum := "4a6d57d3ac02fa213b4f123ab3ba09b365fa7fbc6652549ff6652447a18b4ca7", func := "ashlar/ashlarlaw06.SumsNobody", spec := "sumsNobody", unfollowed := true, recurses := true, plainKeys := false, apart := false }
def SumsNobodySaid : Prop := sumsNobodyRow.holds Try.pinned (OpenSpec.ofChange sumsNobodySpec)

/-- ITS FALSE NEIGHBOUR: 'it returns false'. Refute it at one input. -/
def sumsNobodyWrong : ChangeSpec := { name := "sumsNobody", fn := fun _ => fun
  | [d1, d2, d3] => { results := [.lit (.bool false)], args := [d1, d2, d3] }
  | _ => none }
def SumsNobodyWrongFalsely : Prop := sumsNobodyRow.holds Try.pinned (OpenSpec.ofChange sumsNobodyWrong)

/-- 'ashlarlaw06.SumsTurned': WHATEVER THE INPUT: true; the input reads as it did. -/
def sumsTurnedSpec : ChangeSpec := { name := "sumsTurned", fn := fun _ => fun
  | [d1, d2, d3, d4, d5] => { results := [.lit (.bool true)], args := [d1, d2, d3, d4, d5] }
  | _ => none }
def sumsTurnedRow : OpenClaim := { program := "ytikfbhepnnbdoaa", sum := "4a6d57d3ac02fa213b4f123ab3ba09b365fa7fbc6652549ff6652447a18b4ca7", func := "ashlar/ashlarlaw06.SumsTurned", spec := "sumsTurned", unfollowed := true, recurses := true, plainKeys := false, apart := false }
def SumsTurnedSaid : Prop := sumsTurnedRow.holds Try.pinned (OpenSpec.ofChange sumsTurnedSpec)

/-- ITS FALSE NEIGHBOUR: 'it returns false'. Refute it at one input. -/
def sumsTurnedWrong : ChangeSpec := { name := "sumsTurned", fn := fun _ => fun
  | [d1, d2, d3, d4, d5] => { results := [.lit (.bool false)], args := [d1, d2, d3, d4, d5] }
  | _ => none }
def SumsTurnedWrongFalsely : Prop := sumsTurnedRow.holds Try.pinned (OpenSpec.ofChange sumsTurnedWrong)

/-- 'ashlarlaw06.SumsCrash': WHATEVER THE INPUT: true; the input reads as it did. -/
def sumsCrashSpec : ChangeSpec := { name := "sumsCrash", fn := fun _ => fun
  | [d1, d2, d3] => { results := [.lit (.bool true)], args := [d1, d2, d3] }
  | _ => none }
def sumsCrashRow : OpenClaim := { program := "ytikfbhepnnbdoaa", sum := "4a6d57d3ac02fa213b4f123ab3ba09b365fa7fbc6652549ff6652447a18b4ca7", func := "ashlar/ashlarlaw06.SumsCrash", spec := "sumsCrash", unfollowed := true, recurses := true, plainKeys := false, apart := false }
def SumsCrashSaid : Prop := sumsCrashRow.holds Try.pinned (OpenSpec.ofChange sumsCrashSpec)

/-- ITS FALSE NEIGHBOUR: 'it returns false'. Refute it at one input. -/
def sumsCrashWrong : ChangeSpec := { name := "sumsCrash", fn := fun _ => fun
  | [d1, d2, d3] => { results := [.lit (.bool false)], args := [d1, d2, d3] }
  | _ => none }
def SumsCrashWrongFalsely : Prop := sumsCrashRow.holds Try.pinned (OpenSpec.ofChange sumsCrashWrong)

/-- 'ashlarlaw06.SumsMend': WHATEVER THE INPUT: true; the input reads as it did. -/
def sumsMendSpec : ChangeSpec := { name := "sumsMend", fn := fun _ => fun
  | [d1, d2, d3, d4, d5] => { results := [.lit (.bool true)], args := [d1, d2, d3, d4, d5] }
  | _ => none }
def sumsMendRow : OpenClaim := { program := "ytikfbhepnnbdoaa", sum := "4a6d57d3ac02fa213b4f123ab3ba09b365fa7fbc6652549ff6652447a18b4ca7", func := "ashlar/ashlarlaw06.SumsMend", spec := "sumsMend", unfollowed := true, recurses := true, plainKeys := false, apart := false }
def SumsMendSaid : Prop := sumsMendRow.holds Try.pinned (OpenSpec.ofChange sumsMendSpec)

/-- ITS FALSE NEIGHBOUR: 'it returns false'. Refute it at one input. -/
def sumsMendWrong : ChangeSpec := { name := "sumsMend", fn := fun _ => fun
  | [d1, d2, d3, d4, d5] => { results := [.lit (.bool false)], args := [d1, d2, d3, d4, d5] }
  | _ => none }
def SumsMendWrongFalsely : Prop := sumsMendRow.holds Try.pinned (OpenSpec.ofChange sumsMendWrong)

/- THE SECOND FORM. 'bulk': how many values and letters a reading holds, each counted each time it is reached (what is shared counts as often as it is met; a slice's spare places count too). A statement '..UptoSaid' is the law's where the arguments, and the package variables that the reading takes, are together of bulk at most 1048576: NARROWER than '..Said'. Prove '..Said' where nothing that the law and all that it calls make is longer than what came in: it says more and counts as full. Else prove '..UptoSaid'. A law counts once. -/
mutual
def uptoBulk {H : Type} : DataW H → Nat
  | .lit (.string bytes) => bytes.length + 1
  | .lit _ => 1
  | .nil => 1
  | .ptr d => uptoBulk d + 1
  | .slice elems spare => uptoBulkAll elems + uptoBulkAll spare + 1
  | .agg parts => uptoBulkAll parts + 1
  | .iface _ d => uptoBulk d + 1
  | .map entries => uptoBulkEntries entries + 1
  | .held _ => 1
def uptoBulkAll {H : Type} : List (DataW H) → Nat
  | [] => 0
  | d :: r => uptoBulk d + uptoBulkAll r
def uptoBulkEntries {H : Type} : List (Lit × DataW H) → Nat
  | [] => 0
  | x :: r => uptoBulkEntry x + uptoBulkEntries r
def uptoBulkEntry {H : Type} : Lit × DataW H → Nat
  | (.string bytes, d) => bytes.length + uptoBulk d + 1
  | (_, d) => uptoBulk d + 1
 end
def uptoSmall : (H : Type) → List (DataW H) → Bool := fun _ ds => decide (uptoBulkAll ds ≤ 1048576)
def OpenSpec.upto (s : _root_.Go.ChangeSpec) : _root_.Go.OpenSpec := { _root_.Go.OpenSpec.ofChange s with cond := some uptoSmall }

/-- 'ashlarlaw06.SumsPlaces', WHERE WHAT IT READS IS OF BULK AT MOST 1048576: true; the input reads as it did. -/
def sumsPlacesUptoRow : OpenClaim := { program := "ytikfbhepnnbdoaa", sum := "4a6d57d3ac02fa213b4f123ab3ba09b365fa7fbc6652549ff6652447a18b4ca7", func := "ashlar/ashlarlaw06.SumsPlaces", spec := "sumsPlaces", unfollowed := true, recurses := true, plainKeys := false, apart := false, narrowed := true }
def SumsPlacesUptoSaid : Prop := sumsPlacesUptoRow.holds Try.pinned (OpenSpec.upto sumsPlacesSpec)

/-- 'ashlarlaw06.SumsApart', WHERE WHAT IT READS IS OF BULK AT MOST 1048576: true; the input reads as it did. -/
def sumsApartUptoRow : OpenClaim := { program := "ytikfbhepnnbdoaa", sum := "4a6d57d3ac02fa213b4f123ab3ba09b365fa7fbc6652549ff6652447a18b4ca7", func := "ashlar/ashlarlaw06.SumsApart", spec := "sumsApart", unfollowed := true, recurses := true, plainKeys := false, apart := false, narrowed := true }
def SumsApartUptoSaid : Prop := sumsApartUptoRow.holds Try.pinned (OpenSpec.upto sumsApartSpec)

/-- 'ashlarlaw06.SumsSum', WHERE WHAT IT READS IS OF BULK AT MOST 1048576: true; the input reads as it did. -/
def sumsSumUptoRow : OpenClaim := { program := "ytikfbhepnnbdoaa", sum := "4a6d57d3ac02fa213b4f123ab3ba09b365fa7fbc6652549ff6652447a18b4ca7", func := "ashlar/ashlarlaw06.SumsSum", spec := "sumsSum", unfollowed := true, recurses := true, plainKeys := false, apart := false, narrowed := true }
def SumsSumUptoSaid : Prop := sumsSumUptoRow.holds Try.pinned (OpenSpec.upto sumsSumSpec)

/-- 'ashlarlaw06.SumsMoved', WHERE WHAT IT READS IS OF BULK AT MOST 1048576: true; the input reads as it did. -/
def sumsMovedUptoRow : OpenClaim := { program := "ytikfbhepnnbdoaa", sum := "4a6d57d3ac02fa213b4f123ab3ba09b365fa7fbc6652549ff6652447a18b4ca7", func := "ashlar/ashlarlaw06.SumsMoved", spec := "sumsMoved", unfollowed := true, recurses := true, plainKeys := false, apart := false, narrowed := true }
def SumsMovedUptoSaid : Prop := sumsMovedUptoRow.holds Try.pinned (OpenSpec.upto sumsMovedSpec)

/-- 'ashlarlaw06.SumsNobody', WHERE WHAT IT READS IS OF BULK AT MOST 1048576: true; the input reads as it did. -/
def sumsNobodyUptoRow : OpenClaim := { program := "ytikfbhepnnbdoaa", sum := "4a6d57d3ac02fa213b4f123ab3ba09b365fa7fbc6652549ff6652447a18b4ca7", func := "ashlar/ashlarlaw06.SumsNobody", spec := "sumsNobody", unfollowed := true, recurses := true, plainKeys := false, apart := false, narrowed := true }
def SumsNobodyUptoSaid : Prop := sumsNobodyUptoRow.holds Try.pinned (OpenSpec.upto sumsNobodySpec)

/-- 'ashlarlaw06.SumsTurned', WHERE WHAT IT READS IS OF BULK AT MOST 1048576: true; the input reads as it did. -/
def sumsTurnedUptoRow : OpenClaim := { program := "ytikfbhepnnbdoaa", sum := "4a6d57d3ac02fa213b4f123ab3ba09b365fa7fbc6652549ff6652447a18b4ca7", func := "ashlar/ashlarlaw06.SumsTurned", spec := "sumsTurned", unfollowed := true, recurses := true, plainKeys := false, apart := false, narrowed := true }
def SumsTurnedUptoSaid : Prop := sumsTurnedUptoRow.holds Try.pinned (OpenSpec.upto sumsTurnedSpec)

/-- 'ashlarlaw06.SumsCrash', WHERE WHAT IT READS IS OF BULK AT MOST 1048576: true; the input reads as it did. -/
def sumsCrashUptoRow : OpenClaim := { program := "ytikfbhepnnbdoaa", sum := "4a6d57d3ac02fa213b4f123ab3ba09b365fa7fbc6652549ff6652447a18b4ca7", func := "ashlar/ashlarlaw06.SumsCrash", spec := "sumsCrash", unfollowed := true, recurses := true, plainKeys := false, apart := false, narrowed := true }
def SumsCrashUptoSaid : Prop := sumsCrashUptoRow.holds Try.pinned (OpenSpec.upto sumsCrashSpec)

/-- 'ashlarlaw06.SumsMend', WHERE WHAT IT READS IS OF BULK AT MOST 1048576: true; the input reads as it did. -/
def sumsMendUptoRow : OpenClaim := { program := "ytikfbhepnnbdoaa", sum := "4a6d57d3ac02fa213b4f123ab3ba09b365fa7fbc6652549ff6652447a18b4ca7", func := "ashlar/ashlarlaw06.SumsMend", spec := "sumsMend", unfollowed := true, recurses := true, plainKeys := false, apart := false, narrowed := true }
def SumsMendUptoSaid : Prop := sumsMendUptoRow.holds Try.pinned (OpenSpec.upto sumsMendSpec)

end Rows
end Go.Proofs.Ytikfbhepnnbdoaa

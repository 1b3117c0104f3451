/-
  No cell of these rows narrows 'for every input' (looked for: loops, veiled, ifaces, maps, wideKeys, modest, calm, conditions, laid).
  DERIVED. THE GIVEN ROWS OF THIS SEAT. 7 by the template 'for every input the law returns true; each argument reads behind the call as it read before'; 0 by the template 'total and deterministic' (their statements: YtffdpipmfdkaoaaTotals.lean).
  GIVEN WITH THE SEED: the statements are not yours to turn. If you find one false, say at which input.
  Laid BY PROGRAM, IN A SANDBOX (cutbox-rows.mjs): the forced cells as the released guide's own fill.sh prints them over the translation 684fbcde4037788b… (all of the seat's roots in one cut). By AI agents, Wed Nov 11 2026. No macro, syntax, notation, axiom, sorry.
-/
import Derived.Test.YtffdpipmfdkaoaaChecked
import GoSem.Claim
import GoSem.ClaimJoined
import GoSem.ClaimMapViews
import Derived.JoinedTies
import Derived.KernelRfl
namespace Go.Proofs.Ytffdpipmfdkaoaa
/- THE CELL 'sum', in the pinned program and in every row, IS THE sha256 OF THE DUMP (.gsa) THAT YtffdpipmfdkaoaaProg.lean LOADS. Nothing in Lean hashes anything: it is a label: what it is worth is what the hold of that sum in a sandbox is worth. -/
noncomputable def Try.pinned : Pinned := { name := "ytffdpipmfdkaoaa", sum := "684fbcde4037788b613e55f994ccb2df692eb3b2a71ce84470926f5264f5ca87", checked := Try.checked }
namespace Rows
def none {H : Type} : Left H := { results := [], args := [] }

/-- 'ashlarlaw05.ShelfKeeps': WHATEVER THE INPUT: true; the input reads as it did. -/
def shelfKeepsSpec : ChangeSpec := { name := "shelfKeeps", fn := fun _ => fun
  | [d1, d2, d3] => { results := [.lit (.bool true)], args := [d1, d2, d3] }
  | _ => none }
def shelfKeepsRow : OpenClaim := { program := "ytffdpipmfdkaoaa", sum := "684fbcde4037788b613e55f994ccb2df692eb3b2a71ce84470926f5264f5ca87", func := "ashlar/ashlarlaw05.ShelfKeeps", spec := "shelfKeeps", unfollowed := true, recurses := true, plainKeys := false, apart := false }
def ShelfKeepsSaid : Prop := shelfKeepsRow.holds Try.pinned (OpenSpec.ofChange shelfKeepsSpec)

/-- ITS FALSE NEIGHBOUR: 'it returns false'. Refute it at one input. -/
def shelfKeepsWrong : ChangeSpec := { name := "shelfKeeps", fn := fun _ => fun
  | [d1, d2, d3] => { results := [.lit (.bool false)], args := [d1, d2, d3] }
  | _ => none }
def ShelfKeepsWrongFalsely : Prop := shelfKeepsRow.holds Try.pinned (OpenSpec.ofChange shelfKeepsWrong)

/-- 'ashlarlaw05.ShelfSure': WHATEVER THE INPUT: true; the input reads as it did. -/
def shelfSureSpec : ChangeSpec := { name := "shelfSure", fn := fun _ => fun
  | [d1, d2, d3, d4, d5] => { results := [.lit (.bool true)], args := [d1, d2, d3, d4, d5] }
  | _ => none }
def shelfSureRow : OpenClaim := { program := "ytffdpipmfdkaoaa", sum := "684fbcde4037788b613e55f994ccb2df692eb3b2a71ce84470926f5264f5ca87", func := "ashlar/ashlarlaw05.ShelfSure", spec := "shelfSure", unfollowed := true, recurses := true, plainKeys := false, apart := false }
def ShelfSureSaid : Prop := shelfSureRow.holds Try.pinned (OpenSpec.ofChange shelfSureSpec)

/-- ITS FALSE NEIGHBOUR: 'it returns false'. Refute it at one input. -/
def shelfSureWrong : ChangeSpec := { name := "shelfSure", fn := fun _ => fun
  | [d1, d2, d3, d4, d5] => { results := [.lit (.bool false)], args := [d1, d2, d3, d4, d5] }
  | _ => none }
def ShelfSureWrongFalsely : Prop := shelfSureRow.holds Try.pinned (OpenSpec.ofChange shelfSureWrong)

/-- 'ashlarlaw05.ShelfStops': WHATEVER THE INPUT: true; the input reads as it did. -/
def shelfStopsSpec : ChangeSpec := { name := "shelfStops", fn := fun _ => fun
  | [d1, d2, d3] => { results := [.lit (.bool true)], args := [d1, d2, d3] }
  | _ => none }
def shelfStopsRow : OpenClaim := { program := "ytffdpipmfdkaoaa", sum := "684fbcde4037788b613e55f994ccb2df692eb3b2a71ce84470926f5264f5ca87", func := "ashlar/ashlarlaw05.ShelfStops", spec := "shelfStops", unfollowed := true, recurses := true, plainKeys := false, apart := false }
def ShelfStopsSaid : Prop := shelfStopsRow.holds Try.pinned (OpenSpec.ofChange shelfStopsSpec)

/-- ITS FALSE NEIGHBOUR: 'it returns false'. Refute it at one input. -/
def shelfStopsWrong : ChangeSpec := { name := "shelfStops", fn := fun _ => fun
  | [d1, d2, d3] => { results := [.lit (.bool false)], args := [d1, d2, d3] }
  | _ => none }
def ShelfStopsWrongFalsely : Prop := shelfStopsRow.holds Try.pinned (OpenSpec.ofChange shelfStopsWrong)

/-- 'ashlarlaw05.ShelfDead': WHATEVER THE INPUT: true; the input reads as it did. -/
def shelfDeadSpec : ChangeSpec := { name := "shelfDead", fn := fun _ => fun
  | [d1, d2, d3] => { results := [.lit (.bool true)], args := [d1, d2, d3] }
  | _ => none }
def shelfDeadRow : OpenClaim := { program := "ytffdpipmfdkaoaa", sum := "684fbcde4037788b613e55f994ccb2df692eb3b2a71ce84470926f5264f5ca87", func := "ashlar/ashlarlaw05.ShelfDead", spec := "shelfDead", unfollowed := true, recurses := true, plainKeys := false, apart := false }
def ShelfDeadSaid : Prop := shelfDeadRow.holds Try.pinned (OpenSpec.ofChange shelfDeadSpec)

/-- ITS FALSE NEIGHBOUR: 'it returns false'. Refute it at one input. -/
def shelfDeadWrong : ChangeSpec := { name := "shelfDead", fn := fun _ => fun
  | [d1, d2, d3] => { results := [.lit (.bool false)], args := [d1, d2, d3] }
  | _ => none }
def ShelfDeadWrongFalsely : Prop := shelfDeadRow.holds Try.pinned (OpenSpec.ofChange shelfDeadWrong)

/-- 'ashlarlaw05.ShelfApart': WHATEVER THE INPUT: true; the input reads as it did. -/
def shelfApartSpec : ChangeSpec := { name := "shelfApart", fn := fun _ => fun
  | [d1, d2] => { results := [.lit (.bool true)], args := [d1, d2] }
  | _ => none }
def shelfApartRow : OpenClaim := { program := "ytffdpipmfdkaoaa", sum := "684fbcde4037788b613e55f994ccb2df692eb3b2a71ce84470926f5264f5ca87", func := "ashlar/ashlarlaw05.ShelfApart", spec := "shelfApart", unfollowed := true, recurses := true, plainKeys := false, apart := false }
def ShelfApartSaid : Prop := shelfApartRow.holds Try.pinned (OpenSpec.ofChange shelfApartSpec)

/-- ITS FALSE NEIGHBOUR: 'it returns false'. Refute it at one input. -/
def shelfApartWrong : ChangeSpec := { name := "shelfApart", fn := fun _ => fun
  | [d1, d2] => { results := [.lit (.bool false)], args := [d1, d2] }
  | _ => none }
def ShelfApartWrongFalsely : Prop := shelfApartRow.holds Try.pinned (OpenSpec.ofChange shelfApartWrong)

/-- 'ashlarlaw05.ShelfDoes': WHATEVER THE INPUT: true; the input reads as it did. -/
def shelfDoesSpec : ChangeSpec := { name := "shelfDoes", fn := fun _ => fun
  | [d1, d2, d3] => { results := [.lit (.bool true)], args := [d1, d2, d3] }
  | _ => none }
def shelfDoesRow : OpenClaim := { program := "ytffdpipmfdkaoaa", sum := "684fbcde4037788b613e55f994ccb2df692eb3b2a71ce84470926f5264f5ca87", func := "ashlar/ashlarlaw05.ShelfDoes", spec := "shelfDoes", unfollowed := true, recurses := true, plainKeys := false, apart := false }
def ShelfDoesSaid : Prop := shelfDoesRow.holds Try.pinned (OpenSpec.ofChange shelfDoesSpec)

/-- ITS FALSE NEIGHBOUR: 'it returns false'. Refute it at one input. -/
def shelfDoesWrong : ChangeSpec := { name := "shelfDoes", fn := fun _ => fun
  | [d1, d2, d3] => { results := [.lit (.bool false)], args := [d1, d2, d3] }
  | _ => none }
def ShelfDoesWrongFalsely : Prop := shelfDoesRow.holds Try.pinned (OpenSpec.ofChange shelfDoesWrong)

/-- 'ashlarlaw05.ShelfNobody': WHATEVER THE INPUT: true; the input reads as it did. -/
def shelfNobodySpec : ChangeSpec := { name := "shelfNobody", fn := fun _ => fun
  | [d1, d2, d3] => { results := [.lit (.bool true)], args := [d1, d2, d3] }
  | _ => none }
def shelfNobodyRow : OpenClaim := { program := "ytffdpipmfdkaoaa", sum := "684fbcde4037788b613e55f994ccb2df692eb3b2a71ce84470926f5264f5ca87", func := "ashlar/ashlarlaw05.ShelfNobody", spec := "shelfNobody", unfollowed := true, recurses := true, plainKeys := false, apart := false }
def ShelfNobodySaid : Prop := shelfNobodyRow.holds Try.pinned (OpenSpec.ofChange shelfNobodySpec)

/-- ITS FALSE NEIGHBOUR: 'it returns false'. Refute it at one input. -/
def shelfNobodyWrong : ChangeSpec := { name := "shelfNobody", fn := fun _ => fun
  | [d1, d2, d3] => { results := [.lit (.bool false)], args := [d1, d2, d3] }
  | _ => none }
def ShelfNobodyWrongFalsely : Prop := shelfNobodyRow.holds Try.pinned (OpenSpec.ofChange shelfNobodyWrong)

/- THE SECOND FORM. 'bulk': how many values and letters a reading holds, each counted each time it is reached (what is shared counts as often as it is met; a slice's spare places count too). A statement '..UptoSaid' is the law's where the arguments, and the package variables that the reading takes, are together of bulk at most 1048576: NARROWER than '..Said'. Prove '..Said' where nothing that the law and all that it calls make is longer than what came in: it says more and counts as full. Else prove '..UptoSaid'. A law counts once. -/
mutual
def uptoBulk {H : Type} : DataW H → Nat
  | .lit (.string bytes) => bytes.length + 1
  | .lit _ => 1
  | .nil => 1
  | .ptr d => uptoBulk d + 1
  | .slice elems spare => uptoBulkAll elems + uptoBulkAll spare + 1
  | .agg parts => uptoBulkAll parts + 1
  | .iface _ d => uptoBulk d + 1
  | .map entries => uptoBulkEntries entries + 1
  | .held _ => 1
def uptoBulkAll {H : Type} : List (DataW H) → Nat
  | [] => 0
  | d :: r => uptoBulk d + uptoBulkAll r
def uptoBulkEntries {H : Type} : List (Lit × DataW H) → Nat
  | [] => 0
  | x :: r => uptoBulkEntry x + uptoBulkEntries r
def uptoBulkEntry {H : Type} : Lit × DataW H → Nat
  | (.string bytes, d) => bytes.length + uptoBulk d + 1
  | (_, d) => uptoBulk d + 1
 end
def uptoSmall : (H : Type) → List (DataW H) → Bool := fun _ ds => decide (uptoBulkAll ds ≤ 1048576)
def OpenSpec.upto (s : _root_.Go.ChangeSpec) : _root_.Go.OpenSpec := { _root_.Go.OpenSpec.ofChange s with cond := some uptoSmall }

/-- 'ashlarlaw05.ShelfKeeps', WHERE WHAT IT READS IS OF BULK AT MOST 1048576: true; the input reads as it did. -/
def shelfKeepsUptoRow : OpenClaim := { program := "ytffdpipmfdkaoaa", sum := "684fbcde4037788b613e55f994ccb2df692eb3b2a71ce84470926f5264f5ca87", func := "ashlar/ashlarlaw05.ShelfKeeps", spec := "shelfKeeps", unfollowed := true, recurses := true, plainKeys := false, apart := false, narrowed := true }
def ShelfKeepsUptoSaid : Prop := shelfKeepsUptoRow.holds Try.pinned (OpenSpec.upto shelfKeepsSpec)

/-- 'ashlarlaw05.ShelfSure', WHERE WHAT IT READS IS OF BULK AT MOST 1048576: true; the input reads as it did. -/
def shelfSureUptoRow : OpenClaim := { program := "ytffdpipmfdkaoaa", sum := "684fbcde4037788b613e55f994ccb2df692eb3b2a71ce84470926f5264f5ca87", func := "ashlar/ashlarlaw05.ShelfSure", spec := "shelfSure", unfollowed := true, recurses := true, plainKeys := false, apart := false, narrowed := true }
def ShelfSureUptoSaid : Prop := shelfSureUptoRow.holds Try.pinned (OpenSpec.upto shelfSureSpec)

/-- 'ashlarlaw05.ShelfStops', WHERE WHAT IT READS IS OF BULK AT MOST 1048576: true; the input reads as it did. -/
def shelfStopsUptoRow : OpenClaim := { program := "ytffdpipmfdkaoaa", sum := "684fbcde4037788b613e55f994ccb2df692eb3b2a71ce84470926f5264f5ca87", func := "ashlar/ashlarlaw05.ShelfStops", spec := "shelfStops", unfollowed := true, recurses := true, plainKeys := false, apart := false, narrowed := true }
def ShelfStopsUptoSaid : Prop := shelfStopsUptoRow.holds Try.pinned (OpenSpec.upto shelfStopsSpec)

/-- 'ashlarlaw05.ShelfDead', WHERE WHAT IT READS IS OF BULK AT MOST 1048576: true; the input reads as it did. -/
def shelfDeadUptoRow : OpenClaim := { program := "ytffdpipmfdkaoaa", sum := "684fbcde4037788b613e55f994ccb2df692eb3b2a71ce84470926f5264f5ca87", func := "ashlar/ashlarlaw05.ShelfDead", spec := "shelfDead", unfollowed := true, recurses := true, plainKeys := false, apart := false, narrowed := true }
def ShelfDeadUptoSaid : Prop := shelfDeadUptoRow.holds Try.pinned (OpenSpec.upto shelfDeadSpec)

/-- 'ashlarlaw05.ShelfApart', WHERE WHAT IT READS IS OF BULK AT MOST 1048576: true; the input reads as it did. -/
def shelfApartUptoRow : OpenClaim := { program := "ytffdpipmfdkaoaa", sum := "684fbcde4037788b613e55f994ccb2df692eb3b2a71ce84470926f5264f5ca87", func := "ashlar/ashlarlaw05.ShelfApart", spec := "shelfApart", unfollowed := true, recurses := true, plainKeys := false, apart := false, narrowed := true }
def ShelfApartUptoSaid : Prop := shelfApartUptoRow.holds Try.pinned (OpenSpec.upto shelfApartSpec)

/-- 'ashlarlaw05.ShelfDoes', WHERE WHAT IT READS IS OF BULK AT MOST 1048576: true; the input reads as it did. -/
def shelfDoesUptoRow : OpenClaim := { program := "ytffdpipmfdkaoaa", sum := "684fbcde4037788b613e55f994ccb2df692eb3b2a71ce84470926f5264f5ca87", func := "ashlar/ashlarlaw05.ShelfDoes", spec := "shelfDoes", unfollowed := true, recurses := true, plainKeys := false, apart := false, narrowed := true }
def ShelfDoesUptoSaid : Prop := shelfDoesUptoRow.holds Try.pinned (OpenSpec.upto shelfDoesSpec)

/-- 'ashlarlaw05.ShelfNobody', WHERE WHAT IT READS IS OF BULK AT MOST 1048576: true; the input reads as it did. -/
def shelfNobodyUptoRow : OpenClaim := { program := "ytffdpipmfdkaoaa", sum := "684fbcde4037788b613e55f994ccb2df692eb3b2a71ce84470926f5264f5ca87", func := "ashlar/ashlarlaw05.ShelfNobody", spec := "shelfNobody", unfollowed := true, recurses := true, plainKeys := false, apart := false, narrowed := true }
def ShelfNobodyUptoSaid : Prop := shelfNobodyUptoRow.holds Try.pinned (OpenSpec.upto shelfNobodySpec)

end Rows
end Go.Proofs.Ytffdpipmfdkaoaa

/-
  No cell of these rows narrows 'for every input' (looked for: loops, veiled, ifaces, maps, wideKeys, modest, calm, conditions, laid).
  DERIVED. THE GIVEN ROWS OF THIS SEAT. 3 by the template 'for every input the law returns true; each argument reads behind the call as it read before'; 0 by the template 'total and deterministic' (their statements: YtajnlhalanhicaaTotals.lean).
  GIVEN WITH THE SEED: the statements are not yours to turn. If you find one false, say at which input.
  Laid BY PROGRAM, IN A SANDBOX (cutbox-rows.mjs): the forced cells as the released guide's own fill.sh prints them over the translation 97571d05744d1da2… (all of the seat's roots in one cut). By AI agents, Wed Nov 11 2026. No macro, syntax, notation, axiom, sorry.
-/
import Derived.Test.YtajnlhalanhicaaChecked
import GoSem.Claim
import GoSem.ClaimJoined
import GoSem.ClaimMapViews
import Derived.JoinedTies
import Derived.KernelRfl
namespace Go.Proofs.Ytajnlhalanhicaa
/- THE CELL 'sum', in the pinned program and in every row, IS THE sha256 OF THE DUMP (.gsa) THAT YtajnlhalanhicaaProg.lean LOADS. Nothing in Lean hashes anything: it is a label: what it is worth is what the hold of that sum in a sandbox is worth. -/
noncomputable def Try.pinned : Pinned := { name := "ytajnlhalanhicaa", sum := "97571d05744d1da216c12c1e8c9240e5e29fec5c17a2d2e6dcf3235c717e3821", checked := Try.checked }
namespace Rows
def none {H : Type} : Left H := { results := [], args := [] }

/-- 'ashlarlaw08.RaidBeyond': WHATEVER THE INPUT: true; the input reads as it did. -/
def raidBeyondSpec : ChangeSpec := { name := "raidBeyond", fn := fun _ => fun
  | [d1, d2] => { results := [.lit (.bool true)], args := [d1, d2] }
  | _ => none }
def raidBeyondRow : OpenClaim := { program := "ytajnlhalanhicaa", sum := "97571d05744d1da216c12c1e8c9240e5e29fec5c17a2d2e6dcf3235c717e3821", func := "ashlar/ashlarlaw08.RaidBeyond", spec := "raidBeyond", unfollowed := true, recurses := true, plainKeys := false, apart := false }
def RaidBeyondSaid : Prop := raidBeyondRow.holds Try.pinned (OpenSpec.ofChange raidBeyondSpec)

/-- ITS FALSE NEIGHBOUR: 'it returns false'. Refute it at one input. -/
def raidBeyondWrong : ChangeSpec := { name := "raidBeyond", fn := fun _ => fun
  | [d1, d2] => { results := [.lit (.bool false)], args := [d1, d2] }
  | _ => none }
def RaidBeyondWrongFalsely : Prop := raidBeyondRow.holds Try.pinned (OpenSpec.ofChange raidBeyondWrong)

/-- 'ashlarlaw08.RaidForeign': WHATEVER THE INPUT: true; the input reads as it did. -/
def raidForeignSpec : ChangeSpec := { name := "raidForeign", fn := fun _ => fun
  | [d1, d2, d3] => { results := [.lit (.bool true)], args := [d1, d2, d3] }
  | _ => none }
def raidForeignRow : OpenClaim := { program := "ytajnlhalanhicaa", sum := "97571d05744d1da216c12c1e8c9240e5e29fec5c17a2d2e6dcf3235c717e3821", func := "ashlar/ashlarlaw08.RaidForeign", spec := "raidForeign", unfollowed := true, recurses := true, plainKeys := false, apart := false }
def RaidForeignSaid : Prop := raidForeignRow.holds Try.pinned (OpenSpec.ofChange raidForeignSpec)

/-- ITS FALSE NEIGHBOUR: 'it returns false'. Refute it at one input. -/
def raidForeignWrong : ChangeSpec := { name := "raidForeign", fn := fun _ => fun
  | [d1, d2, d3] => { results := [.lit (.bool false)], args := [d1, d2, d3] }
  | _ => none }
def RaidForeignWrongFalsely : Prop := raidForeignRow.holds Try.pinned (OpenSpec.ofChange raidForeignWrong)

/-- 'ashlarlaw08.RaidNobody': WHATEVER THE INPUT: true; the input reads as it did. -/
def raidNobodySpec : ChangeSpec := { name := "raidNobody", fn := fun _ => fun
  | [d1, d2, d3, d4, d5, d6] => { results := [.lit (.bool true)], args := [d1, d2, d3, d4, d5, d6] }
  | _ => none }
def raidNobodyRow : OpenClaim := { program := "ytajnlhalanhicaa", sum := "97571d05744d1da216c12c1e8c9240e5e29fec5c17a2d2e6dcf3235c717e3821", func := "ashlar/ashlarlaw08.RaidNobody", spec := "raidNobody", unfollowed := true, recurses := true, plainKeys := false, apart := false }
def RaidNobodySaid : Prop := raidNobodyRow.holds Try.pinned (OpenSpec.ofChange raidNobodySpec)

/-- ITS FALSE NEIGHBOUR: 'it returns false'. Refute it at one input. -/
def raidNobodyWrong : ChangeSpec := { name := "raidNobody", fn := fun _ => fun
  | [d1, d2, d3, d4, d5, d6] => { results := [.lit (.bool false)], args := [d1, d2, d3, d4, d5, d6] }
  | _ => none }
def RaidNobodyWrongFalsely : Prop := raidNobodyRow.holds Try.pinned (OpenSpec.ofChange raidNobodyWrong)

/- THE SECOND FORM. 'bulk': how many values and letters a reading holds, each counted each time it is reached (what is shared counts as often as it is met; a slice's spare places count too). A statement '..UptoSaid' is the law's where the arguments, and the package variables that the reading takes, are together of bulk at most 1048576: NARROWER than '..Said'. Prove '..Said' where nothing that the law and all that it calls make is longer than what came in: it says more and counts as full. Else prove '..UptoSaid'. A law counts once. -/
mutual
def uptoBulk {H : Type} : DataW H → Nat
  | .lit (.string bytes) => bytes.length + 1
  | .lit _ => 1
  | .nil => 1
  | .ptr d => uptoBulk d + 1
  | .slice elems spare => uptoBulkAll elems + uptoBulkAll spare + 1
  | .agg parts => uptoBulkAll parts + 1
  | .iface _ d => uptoBulk d + 1
  | .map entries => uptoBulkEntries entries + 1
  | .held _ => 1
def uptoBulkAll {H : Type} : List (DataW H) → Nat
  | [] => 0
  | d :: r => uptoBulk d + uptoBulkAll r
def uptoBulkEntries {H : Type} : List (Lit × DataW H) → Nat
  | [] => 0
  | x :: r => uptoBulkEntry x + uptoBulkEntries r
def uptoBulkEntry {H : Type} : Lit × DataW H → Nat
  | (.string bytes, d) => bytes.length + uptoBulk d + 1
  | (_, d) => uptoBulk d + 1
 end
def uptoSmall : (H : Type) → List (DataW H) → Bool := fun _ ds => decide (uptoBulkAll ds ≤ 1048576)
def OpenSpec.upto (s : _root_.Go.ChangeSpec) : _root_.Go.OpenSpec := { _root_.Go.OpenSpec.ofChange s with cond := some uptoSmall }

/-- 'ashlarlaw08.RaidBeyond', WHERE WHAT IT READS IS OF BULK AT MOST 1048576: true; the input reads as it did. -/
def raidBeyondUptoRow : OpenClaim := { program := "ytajnlhalanhicaa", sum := "97571d05744d1da216c12c1e8c9240e5e29fec5c17a2d2e6dcf3235c717e3821", func := "ashlar/ashlarlaw08.RaidBeyond", spec := "raidBeyond", unfollowed := true, recurses := true, plainKeys := false, apart := false, narrowed := true }
def RaidBeyondUptoSaid : Prop := raidBeyondUptoRow.holds Try.pinned (OpenSpec.upto raidBeyondSpec)

/-- 'ashlarlaw08.RaidForeign', WHERE WHAT IT READS IS OF BULK AT MOST 1048576: true; the input reads as it did. -/
def raidForeignUptoRow : OpenClaim := { program := "ytajnlhalanhicaa", sum := "97571d05744d1da216c12c1e8c9240e5e29fec5c17a2d2e6dcf3235c717e3821", func := "ashlar/ashlarlaw08.RaidForeign", spec := "raidForeign", unfollowed := true, recurses := true, plainKeys := false, apart := false, narrowed := true }
def RaidForeignUptoSaid : Prop := raidForeignUptoRow.holds Try.pinned (OpenSpec.upto raidForeignSpec)

/-- 'ashlarlaw08.RaidNobody', WHERE WHAT IT READS IS OF BULK AT MOST 1048576: true; the input reads as it did. -/
def raidNobodyUptoRow : OpenClaim := { program := "ytajnlhalanhicaa", sum := "97571d05744d1da216c12c1e8c9240e5e29fec5c17a2d2e6dcf3235c717e3821", func := "ashlar/ashlarlaw08.RaidNobody", spec := "raidNobody", unfollowed := true, recurses := true, plainKeys := false, apart := false, narrowed := true }
def RaidNobodyUptoSaid : Prop := raidNobodyUptoRow.holds Try.pinned (OpenSpec.upto raidNobodySpec)

end Rows
end Go.Proofs.Ytajnlhalanhicaa

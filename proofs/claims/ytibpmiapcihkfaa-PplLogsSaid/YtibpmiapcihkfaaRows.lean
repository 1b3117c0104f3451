/-
  No cell of these rows narrows 'for every input' (looked for: loops, veiled, ifaces, maps, wideKeys, modest, calm, conditions, laid).
  DERIVED. THE GIVEN ROWS OF THIS SEAT. 7 by the template 'for every input the law returns true; each argument reads behind the call as it read before'; 0 by the template 'total and deterministic' (their statements: YtibpmiapcihkfaaTotals.lean).
  GIVEN WITH THE SEED: the statements are not yours to turn. If you find one false, say at which input.
  Laid BY PROGRAM, IN A SANDBOX (cutbox-rows.mjs): the forced cells as the released guide's own fill.sh prints them over the translation a18f39ed4563fbc9… (all of the seat's roots in one cut). By AI agents, Wed Nov 11 2026. No macro, syntax, notation, axiom, sorry.
-/
import Derived.Test.YtibpmiapcihkfaaChecked
import GoSem.Claim
import GoSem.ClaimJoined
import GoSem.ClaimMapViews
import Derived.JoinedTies
import Derived.KernelRfl
namespace Go.Proofs.Ytibpmiapcihkfaa
/- THE CELL 'sum', in the pinned program and in every row, IS THE sha256 OF THE DUMP (.gsa) THAT YtibpmiapcihkfaaProg.lean LOADS. Nothing in Lean hashes anything: it is a label: what it is worth is what the hold of that sum in a sandbox is worth. -/
noncomputable def Try.pinned : Pinned := { name := "ytibpmiapcihkfaa", sum := "a18f39ed4563fbc9f3b292fd1b317b62715148888bccc79a66319633303237a8", checked := Try.checked }
namespace Rows
def none {H : Type} : Left H := { results := [], args := [] }

/-- 'ashlarlaw07.PplCodes': WHATEVER THE INPUT: true; the input reads as it did. -/
def pplCodesSpec : ChangeSpec := { name := "pplCodes", fn := fun _ => fun
  | [d1, d2, d3] => { results := [.lit (.bool true)], args := [d1, d2, d3] }
  | _ => none }
def pplCodesRow : OpenClaim := { program := "ytibpmiapcihkfaa", sum := "a18f39ed4563fbc9f3b292fd1b317b62715148888bccc79a66319633303237a8", func := "ashlar/ashlarlaw07.PplCodes", spec := "pplCodes", unfollowed := true, recurses := true, plainKeys := false, apart := false }
def PplCodesSaid : Prop := pplCodesRow.holds Try.pinned (OpenSpec.ofChange pplCodesSpec)

/-- ITS FALSE NEIGHBOUR: 'it returns false'. Refute it at one input. -/
def pplCodesWrong : ChangeSpec := { name := "pplCodes", fn := fun _ => fun
  | [d1, d2, d3] => { results := [.lit (.bool false)], args := [d1, d2, d3] }
  | _ => none }
def PplCodesWrongFalsely : Prop := pplCodesRow.holds Try.pinned (OpenSpec.ofChange pplCodesWrong)

/-- 'ashlarlaw07.PplBack': WHATEVER THE INPUT: true; the input reads as it did. -/
def pplBackSpec : ChangeSpec := { name := "pplBack", fn := fun _ => fun
  | [d] => { results := [.lit (.bool true)], args := [d] }
  | _ => none }
def pplBackRow : OpenClaim := { program := "ytibpmiapcihkfaa", sum := "a18f39ed4563fbc9f3b292fd1b317b62715148888bccc79a66319633303237a8", func := "ashlar/ashlarlaw07.PplBack", spec := "pplBack", unfollowed := true, recurses := true, plainKeys := false, apart := false }
def PplBackSaid : Prop := pplBackRow.holds Try.pinned (OpenSpec.ofChange pplBackSpec)

/-- ITS FALSE NEIGHBOUR: 'it returns false'. Refute it at one input. -/
def pplBackWrong : ChangeSpec := { name := "pplBack", fn := fun _ => fun
  | [d] => { results := [.lit (.bool false)], args := [d] }
  | _ => none }
def PplBackWrongFalsely : Prop := pplBackRow.holds Try.pinned (OpenSpec.ofChange pplBackWrong)

/-- 'ashlarlaw07.PplTurned': WHATEVER THE INPUT: true; the input reads as it did. -/
def pplTurnedSpec : ChangeSpec := { name := "pplTurned", fn := fun _ => fun
  | [d1, d2, d3] => { results := [.lit (.bool true)], args := [d1, d2, d3] }
  | _ => none }
def pplTurnedRow : OpenClaim := { program := "ytibpmiapcihkfaa", sum := "a18f39ed4563fbc9f3b292fd1b317b62715148888bccc79a66319633303237a8", func := "ashlar/ashlarlaw07.PplTurned", spec := "pplTurned", unfollowed := true, recurses := true, plainKeys := false, apart := false }
def PplTurnedSaid : Prop := pplTurnedRow.holds Try.pinned (OpenSpec.ofChange pplTurnedSpec)

/-- ITS FALSE NEIGHBOUR: 'it returns false'. Refute it at one input. -/
def pplTurnedWrong : ChangeSpec := { name := "pplTurned", fn := fun _ => fun
  | [d1, d2, d3] => { results := [.lit (.bool false)], args := [d1, d2, d3] }
  | _ => none }
def PplTurnedWrongFalsely : Prop := pplTurnedRow.holds Try.pinned (OpenSpec.ofChange pplTurnedWrong)

/-- 'ashlarlaw07.PplLogs': WHATEVER THE INPUT: true; the input reads as it did. -/
def pplLogsSpec : ChangeSpec := { name := "pplLogs", fn := fun _ => fun
  | [d1, d2] => { results := [.lit (.bool true)], args := [d1, d2] }
  | _ => none }
def pplLogsRow : OpenClaim := { program := "ytibpmiapcihkfaa", sum := "a18f39ed4563fbc9f3b292fd1b317b62715148888bccc79a66319633303237a8", func := "ashlar/ashlarlaw07.PplLogs", spec := "pplLogs", unfollowed := true, recurses := true, plainKeys := false, apart := false }
def PplLogsSaid : Prop := pplLogsRow.holds Try.pinned (OpenSpec.ofChange pplLogsSpec)

/-- ITS FALSE NEIGHBOUR: 'it returns false'. Refute it at one input. -/
def pplLogsWrong : ChangeSpec := { name := "pplLogs", fn := fun _ => fun
  | [d1, d2] => { results := [.lit (.bool false)], args := [d1, d2] }
  | _ => none }
def PplLogsWrongFalsely : Prop := pplLogsRow.holds Try.pinned (OpenSpec.ofChange pplLogsWrong)

/-- 'ashlarlaw07.PplNobody': WHATEVER THE INPUT: true; the input reads as it did. -/
def pplNobodySpec : ChangeSpec := { name := "pplNobody", fn := fun _ => fun
  | [d1, d2, d3, d4] => { results := [.lit (.bool true)], args := [d1, d2, d3, d4] }
  | _ => none }
def pplNobodyRow : OpenClaim := { program := "ytibpmiapcihkfaa", sum := "a18f39ed4563fbc9f3b292fd1b317b62715148888bccc79a66319633303237a8", func := "ashlar/ashlarlaw07.PplNobody", spec := "pplNobody", unfollowed := true, recurses := true, plainKeys := false, apart := false }
def PplNobodySaid : Prop := pplNobodyRow.holds Try.pinned (OpenSpec.ofChange pplNobodySpec)

/-- ITS FALSE NEIGHBOUR: 'it returns false'. Refute it at one input. -/
def pplNobodyWrong : ChangeSpec := { name := "pplNobody", fn := fun _ => fun
  | [d1, d2, d3, d4] => { results := [.lit (.bool false)], args := [d1, d2, d3, d4] }
  | _ => none }
def PplNobodyWrongFalsely : Prop := pplNobodyRow.holds Try.pinned (OpenSpec.ofChange pplNobodyWrong)

/-- 'ashlarlaw07.PplCrash': WHATEVER THE INPUT: true; the input reads as it did. -/
def pplCrashSpec : ChangeSpec := { name := "pplCrash", fn := fun _ => fun
  | [d1, d2, d3] => { results := [.lit (.bool true)], args := [d1, d2, d3] }
  | _ => none }
def pplCrashRow : OpenClaim := { program := "ytibpmiapcihkfaa", sum := "a18f39ed4563fbc9f3b292fd1b317b62715148888bccc79a66319633303237a8", func := "ashlar/ashlarlaw07.PplCrash", spec := "pplCrash", unfollowed := true, recurses := true, plainKeys := false, apart := false }
def PplCrashSaid : Prop := pplCrashRow.holds Try.pinned (OpenSpec.ofChange pplCrashSpec)

/-- ITS FALSE NEIGHBOUR: 'it returns false'. Refute it at one input. -/
def pplCrashWrong : ChangeSpec := { name := "pplCrash", fn := fun _ => fun
  | [d1, d2, d3] => { results := [.lit (.bool false)], args := [d1, d2, d3] }
  | _ => none }
def PplCrashWrongFalsely : Prop := pplCrashRow.holds Try.pinned (OpenSpec.ofChange pplCrashWrong)

/-- 'ashlarlaw07.PplSure': WHATEVER THE INPUT: true; the input reads as it did. -/
def pplSureSpec : ChangeSpec := { name := "pplSure", fn := fun _ => fun
  | [d1, d2, d3, d4] => { results := [.lit (.bool true)], args := [d1, d2, d3, d4] }
  | _ => none }
def pplSureRow : OpenClaim := { program := "ytibpmiapcihkfaa", sum := "a18f39ed4563fbc9f3b292fd1b317b62715148888bccc79a66319633303237a8", func := "ashlar/ashlarlaw07.PplSure", spec := "pplSure", unfollowed := true, recurses := true, plainKeys := false, apart := false }
def PplSureSaid : Prop := pplSureRow.holds Try.pinned (OpenSpec.ofChange pplSureSpec)

/-- ITS FALSE NEIGHBOUR: 'it returns false'. Refute it at one input. -/
def pplSureWrong : ChangeSpec := { name := "pplSure", fn := fun _ => fun
  | [d1, d2, d3, d4] => { results := [.lit (.bool false)], args := [d1, d2, d3, d4] }
  | _ => none }
def PplSureWrongFalsely : Prop := pplSureRow.holds Try.pinned (OpenSpec.ofChange pplSureWrong)

/- THE SECOND FORM. 'bulk': how many values and letters a reading holds, each counted each time it is reached (what is shared counts as often as it is met; a slice's spare places count too). A statement '..UptoSaid' is the law's where the arguments, and the package variables that the reading takes, are together of bulk at most 1048576: NARROWER than '..Said'. Prove '..Said' where nothing that the law and all that it calls make is longer than what came in: it says more and counts as full. Else prove '..UptoSaid'. A law counts once. -/
mutual
def uptoBulk {H : Type} : DataW H → Nat
  | .lit (.string bytes) => bytes.length + 1
  | .lit _ => 1
  | .nil => 1
  | .ptr d => uptoBulk d + 1
  | .slice elems spare => uptoBulkAll elems + uptoBulkAll spare + 1
  | .agg parts => uptoBulkAll parts + 1
  | .iface _ d => uptoBulk d + 1
  | .map entries => uptoBulkEntries entries + 1
  | .held _ => 1
def uptoBulkAll {H : Type} : List (DataW H) → Nat
  | [] => 0
  | d :: r => uptoBulk d + uptoBulkAll r
def uptoBulkEntries {H : Type} : List (Lit × DataW H) → Nat
  | [] => 0
  | x :: r => uptoBulkEntry x + uptoBulkEntries r
def uptoBulkEntry {H : Type} : Lit × DataW H → Nat
  | (.string bytes, d) => bytes.length + uptoBulk d + 1
  | (_, d) => uptoBulk d + 1
 end
def uptoSmall : (H : Type) → List (DataW H) → Bool := fun _ ds => decide (uptoBulkAll ds ≤ 1048576)
def OpenSpec.upto (s : _root_.Go.ChangeSpec) : _root_.Go.OpenSpec := { _root_.Go.OpenSpec.ofChange s with cond := some uptoSmall }

/-- 'ashlarlaw07.PplCodes', WHERE WHAT IT READS IS OF BULK AT MOST 1048576: true; the input reads as it did. -/
def pplCodesUptoRow : OpenClaim := { program := "ytibpmiapcihkfaa", sum := "a18f39ed4563fbc9f3b292fd1b317b62715148888bccc79a66319633303237a8", func := "ashlar/ashlarlaw07.PplCodes", spec := "pplCodes", unfollowed := true, recurses := true, plainKeys := false, apart := false, narrowed := true }
def PplCodesUptoSaid : Prop := pplCodesUptoRow.holds Try.pinned (OpenSpec.upto pplCodesSpec)

/-- 'ashlarlaw07.PplBack', WHERE WHAT IT READS IS OF BULK AT MOST 1048576: true; the input reads as it did. -/
def pplBackUptoRow : OpenClaim := { program := "ytibpmiapcihkfaa", sum := "a18f39ed4563fbc9f3b292fd1b317b62715148888bccc79a66319633303237a8", func := "ashlar/ashlarlaw07.PplBack", spec := "pplBack", unfollowed := true, recurses := true, plainKeys := false, apart := false, narrowed := true }
def PplBackUptoSaid : Prop := pplBackUptoRow.holds Try.pinned (OpenSpec.upto pplBackSpec)

/-- 'ashlarlaw07.PplTurned', WHERE WHAT IT READS IS OF BULK AT MOST 1048576: true; the input reads as it did. -/
def pplTurnedUptoRow : OpenClaim := { program := "ytibpmiapcihkfaa", sum := "a18f39ed4563fbc9f3b292fd1b317b62715148888bccc79a66319633303237a8", func := "ashlar/ashlarlaw07.PplTurned", spec := "pplTurned", unfollowed := true, recurses := true, plainKeys := false, apart := false, narrowed := true }
def PplTurnedUptoSaid : Prop := pplTurnedUptoRow.holds Try.pinned (OpenSpec.upto pplTurnedSpec)

/-- 'ashlarlaw07.PplLogs', WHERE WHAT IT READS IS OF BULK AT MOST 1048576: true; the input reads as it did. -/
def pplLogsUptoRow : OpenClaim := { program := "ytibpmiapcihkfaa", sum := "a18f39ed4563fbc9f3b292fd1b317b62715148888bccc79a66319633303237a8", func := "ashlar/ashlarlaw07.PplLogs", spec := "pplLogs", unfollowed := true, recurses := true, plainKeys := false, apart := false, narrowed := true }
def PplLogsUptoSaid : Prop := pplLogsUptoRow.holds Try.pinned (OpenSpec.upto pplLogsSpec)

/-- 'ashlarlaw07.PplNobody', WHERE WHAT IT READS IS OF BULK AT MOST 1048576: true; the input reads as it did. -/
def pplNobodyUptoRow : OpenClaim := { program := "ytibpmiapcihkfaa", sum := "a18f39ed4563fbc9f3b292fd1b317b62715148888bccc79a66319633303237a8", func := "ashlar/ashlarlaw07.PplNobody", spec := "pplNobody", unfollowed := true, recurses := true, plainKeys := false, apart := false, narrowed := true }
def PplNobodyUptoSaid : Prop := pplNobodyUptoRow.holds Try.pinned (OpenSpec.upto pplNobodySpec)

/-- 'ashlarlaw07.PplCrash', WHERE WHAT IT READS IS OF BULK AT MOST 1048576: true; the input reads as it did. -/
def pplCrashUptoRow : OpenClaim := { program := "ytibpmiapcihkfaa", sum := "a18f39ed4563fbc9f3b292fd1b317b62715148888bccc79a66319633303237a8", func := "ashlar/ashlarlaw07.PplCrash", spec := "pplCrash", unfollowed := true, recurses := true, plainKeys := false, apart := false, narrowed := true }
def PplCrashUptoSaid : Prop := pplCrashUptoRow.holds Try.pinned (OpenSpec.upto pplCrashSpec)

/-- 'ashlarlaw07.PplSure', WHERE WHAT IT READS IS OF BULK AT MOST 1048576: true; the input reads as it did. -/
def pplSureUptoRow : OpenClaim := { program := "ytibpmiapcihkfaa", sum := "a18f39ed4563fbc9f3b292fd1b317b62715148888bccc79a66319633303237a8", func := "ashlar/ashlarlaw07.PplSure", spec := "pplSure", unfollowed := true, recurses := true, plainKeys := false, apart := false, narrowed := true }
def PplSureUptoSaid : Prop := pplSureUptoRow.holds Try.pinned (OpenSpec.upto pplSureSpec)

end Rows
end Go.Proofs.Ytibpmiapcihkfaa

/-
  No cell of these rows narrows 'for every input' (looked for: loops, veiled, ifaces, maps, wideKeys, modest, calm, conditions, laid).
  DERIVED. THE GIVEN ROWS OF THIS SEAT. 7 by the template 'for every input the law returns true; each argument reads behind the call as it read before'; 0 by the template 'total and deterministic' (their statements: YtajnlhalanhicaaGreatTotals.lean).
  GIVEN WITH THE SEED: the statements are not yours to turn. If you find one false, say at which input.
  Laid BY PROGRAM, IN A SANDBOX (cutbox-rows.mjs): the forced cells as the released guide's own fill.sh prints them over the translation d105b72eca0b2467… (all of the seat's roots in one cut). By AI agents, Wed Nov 11 2026. No macro, syntax, notation, axiom, sorry.
-/
import Derived.Test.YtajnlhalanhicaaGreatChecked
import GoSem.Claim
import GoSem.ClaimJoined
import GoSem.ClaimMapViews
import Derived.JoinedTies
import Derived.KernelRfl
namespace Go.Proofs.YtajnlhalanhicaaGreat
/- THE CELL 'sum', in the pinned program and in every row, IS THE sha256 OF THE DUMP (.gsa) THAT YtajnlhalanhicaaGreatProg.lean LOADS. Nothing in Lean hashes anything: it is a label: what it is worth is what the hold of that sum in a sandbox is worth. -/
noncomputable def Tryz.pinned : Pinned := { name := "ytajnlhalanhicaagreat", sum := "d105b72eca0b2467dd60bbacad4ebcc54d89a270e1fc5b75132e6aa049a97403", checked := Tryz.checked }
namespace Rows
def none {H : Type} : Left H := { results := [], args := [] }

/-- 'ashlarlaw08.RaidReads': WHATEVER THE INPUT: true; the input reads as it did. -/
def raidReadsSpec : ChangeSpec := { name := "raidReads", fn := fun _ => fun
  | [d1, d2, d3, d4] => { results := [.lit (.bool true)], args := [d1, d2, d3, d4] }
  | _ => none }
def raidReadsRow : OpenClaim := { program := "ytajnlhalanhicaagreat", sum := "d105b72eca0b2467dd60bbacad4ebcc54d89a270e1fc5b75132e6aa049a97403", func := "ashlar/ashlarlaw08.RaidReads", spec := "raidReads", unfollowed := true, recurses := true, plainKeys := false, apart := false }
def RaidReadsSaid : Prop := raidReadsRow.holds Tryz.pinned (OpenSpec.ofChange raidReadsSpec)

/-- ITS FALSE NEIGHBOUR: 'it returns false'. Refute it at one input. -/
def raidReadsWrong : ChangeSpec := { name := "raidReads", fn := fun _ => fun
  | [d1, d2, d3, d4] => { results := [.lit (.bool false)], args := [d1, d2, d3, d4] }
  | _ => none }
def RaidReadsWrongFalsely : Prop := raidReadsRow.holds Tryz.pinned (OpenSpec.ofChange raidReadsWrong)

/-- 'ashlarlaw08.RaidCrash': WHATEVER THE INPUT: true; the input reads as it did. -/
def raidCrashSpec : ChangeSpec := { name := "raidCrash", fn := fun _ => fun
  | [d1, d2, d3, d4] => { results := [.lit (.bool true)], args := [d1, d2, d3, d4] }
  | _ => none }
def raidCrashRow : OpenClaim := { program := "ytajnlhalanhicaagreat", sum := "d105b72eca0b2467dd60bbacad4ebcc54d89a270e1fc5b75132e6aa049a97403", func := "ashlar/ashlarlaw08.RaidCrash", spec := "raidCrash", unfollowed := true, recurses := true, plainKeys := false, apart := false }
def RaidCrashSaid : Prop := raidCrashRow.holds Tryz.pinned (OpenSpec.ofChange raidCrashSpec)

/-- ITS FALSE NEIGHBOUR: 'it returns false'. Refute it at one input. -/
def raidCrashWrong : ChangeSpec := { name := "raidCrash", fn := fun _ => fun
  | [d1, d2, d3, d4] => { results := [.lit (.bool false)], args := [d1, d2, d3, d4] }
  | _ => none }
def RaidCrashWrongFalsely : Prop := raidCrashRow.holds Tryz.pinned (OpenSpec.ofChange raidCrashWrong)

/-- 'ashlarlaw08.RaidDead': WHATEVER THE INPUT: true; the input reads as it did. -/
def raidDeadSpec : ChangeSpec := { name := "raidDead", fn := fun _ => fun
  | [d1, d2, d3, d4] => { results := [.lit (.bool true)], args := [d1, d2, d3, d4] }
  | _ => none }
def raidDeadRow : OpenClaim := { program := "ytajnlhalanhicaagreat", sum := "d105b72eca0b2467dd60bbacad4ebcc54d89a270e1fc5b75132e6aa049a97403", func := "ashlar/ashlarlaw08.RaidDead", spec := "raidDead", unfollowed := true, recurses := true, plainKeys := false, apart := false }
def RaidDeadSaid : Prop := raidDeadRow.holds Tryz.pinned (OpenSpec.ofChange raidDeadSpec)

/-- ITS FALSE NEIGHBOUR: 'it returns false'. Refute it at one input. -/
def raidDeadWrong : ChangeSpec := { name := "raidDead", fn := fun _ => fun
  | [d1, d2, d3, d4] => { results := [.lit (.bool false)], args := [d1, d2, d3, d4] }
  | _ => none }
def RaidDeadWrongFalsely : Prop := raidDeadRow.holds Tryz.pinned (OpenSpec.ofChange raidDeadWrong)

/-- 'ashlarlaw08.RaidHole': WHATEVER THE INPUT: true; the input reads as it did. -/
def raidHoleSpec : ChangeSpec := { name := "raidHole", fn := fun _ => fun
  | [d1, d2, d3, d4] => { results := [.lit (.bool true)], args := [d1, d2, d3, d4] }
  | _ => none }
def raidHoleRow : OpenClaim := { program := "ytajnlhalanhicaagreat", sum := "d105b72eca0b2467dd60bbacad4ebcc54d89a270e1fc5b75132e6aa049a97403", func := "ashlar/ashlarlaw08.RaidHole", spec := "raidHole", unfollowed := true, recurses := true, plainKeys := false, apart := false }
def RaidHoleSaid : Prop := raidHoleRow.holds Tryz.pinned (OpenSpec.ofChange raidHoleSpec)

/-- ITS FALSE NEIGHBOUR: 'it returns false'. Refute it at one input. -/
def raidHoleWrong : ChangeSpec := { name := "raidHole", fn := fun _ => fun
  | [d1, d2, d3, d4] => { results := [.lit (.bool false)], args := [d1, d2, d3, d4] }
  | _ => none }
def RaidHoleWrongFalsely : Prop := raidHoleRow.holds Tryz.pinned (OpenSpec.ofChange raidHoleWrong)

/-- 'ashlarlaw08.RaidTurned': WHATEVER THE INPUT: true; the input reads as it did. -/
def raidTurnedSpec : ChangeSpec := { name := "raidTurned", fn := fun _ => fun
  | [d1, d2, d3, d4] => { results := [.lit (.bool true)], args := [d1, d2, d3, d4] }
  | _ => none }
def raidTurnedRow : OpenClaim := { program := "ytajnlhalanhicaagreat", sum := "d105b72eca0b2467dd60bbacad4ebcc54d89a270e1fc5b75132e6aa049a97403", func := "ashlar/ashlarlaw08.RaidTurned", spec := "raidTurned", unfollowed := true, recurses := true, plainKeys := false, apart := false }
def RaidTurnedSaid : Prop := raidTurnedRow.holds Tryz.pinned (OpenSpec.ofChange raidTurnedSpec)

/-- ITS FALSE NEIGHBOUR: 'it returns false'. Refute it at one input. -/
def raidTurnedWrong : ChangeSpec := { name := "raidTurned", fn := fun _ => fun
  | [d1, d2, d3, d4] => { results := [.lit (.bool false)], args := [d1, d2, d3, d4] }
  | _ => none }
def RaidTurnedWrongFalsely : Prop := raidTurnedRow.holds Tryz.pinned (OpenSpec.ofChange raidTurnedWrong)

/-- 'ashlarlaw08.RaidWhole': WHATEVER THE INPUT: true; the input reads as it did. -/
def raidWholeSpec : ChangeSpec := { name := "raidWhole", fn := fun _ => fun
  | [d1, d2, d3, d4, d5] => { results := [.lit (.bool true)], args := [d1, d2, d3, d4, d5] }
  | _ => none }
def raidWholeRow : OpenClaim := { program := "ytajnlhalanhicaagreat", sum := "d105b72eca0b2467dd60bbacad4ebcc54d89a270e1fc5b75132e6aa049a97403", func := "ashlar/ashlarlaw08.RaidWhole", spec := "raidWhole", unfollowed := true, recurses := true, plainKeys := false, apart := false }
def RaidWholeSaid : Prop := raidWholeRow.holds Tryz.pinned (OpenSpec.ofChange raidWholeSpec)

/-- ITS FALSE NEIGHBOUR: 'it returns false'. Refute it at one input. -/
def raidWholeWrong : ChangeSpec := { name := "raidWhole", fn := fun _ => fun
  | [d1, d2, d3, d4, d5] => { results := [.lit (.bool false)], args := [d1, d2, d3, d4, d5] }
  | _ => none }
def RaidWholeWrongFalsely : Prop := raidWholeRow.holds Tryz.pinned (OpenSpec.ofChange raidWholeWrong)

/-- 'ashlarlaw08.RaidMends': WHATEVER THE INPUT: true; the input reads as it did. -/
def raidMendsSpec : ChangeSpec := { name := "raidMends", fn := fun _ => fun
  | [d1, d2, d3, d4, d5] => { results := [.lit (.bool true)], args := [d1, d2, d3, d4, d5] }
  | _ => none }
def raidMendsRow : OpenClaim := { program := "ytajnlhalanhicaagreat", sum := "d105b72eca0b2467dd60bbacad4ebcc54d89a270e1fc5b75132e6aa049a97403", func := "ashlar/ashlarlaw08.RaidMends", spec := "raidMends", unfollowed := true, recurses := true, plainKeys := false, apart := false }
def RaidMendsSaid : Prop := raidMendsRow.holds Tryz.pinned (OpenSpec.ofChange raidMendsSpec)

/-- ITS FALSE NEIGHBOUR: 'it returns false'. Refute it at one input. -/
def raidMendsWrong : ChangeSpec := { name := "raidMends", fn := fun _ => fun
  | [d1, d2, d3, d4, d5] => { results := [.lit (.bool false)], args := [d1, d2, d3, d4, d5] }
  | _ => none }
def RaidMendsWrongFalsely : Prop := raidMendsRow.holds Tryz.pinned (OpenSpec.ofChange raidMendsWrong)

/- THE SECOND FORM. 'bulk': how many values and letters a reading holds, each counted each time it is reached (what is shared counts as often as it is met; a slice's spare places count too). A statement '..UptoSaid' is the law's where the arguments, and the package variables that the reading takes, are together of bulk at most 1048576: NARROWER than '..Said'. Prove '..Said' where nothing that the law and all that it calls make is longer than what came in: it says more and counts as full. Else prove '..UptoSaid'. A law counts once. -/
mutual
def uptoBulk {H : Type} : DataW H → Nat
  | .lit (.string bytes) => bytes.length + 1
  | .lit _ => 1
  | .nil => 1
  | .ptr d => uptoBulk d + 1
  | .slice elems spare => uptoBulkAll elems + uptoBulkAll spare + 1
  | .agg parts => uptoBulkAll parts + 1
  | .iface _ d => uptoBulk d + 1
  | .map entries => uptoBulkEntries entries + 1
  | .held _ => 1
def uptoBulkAll {H : Type} : List (DataW H) → Nat
  | [] => 0
  | d :: r => uptoBulk d + uptoBulkAll r
def uptoBulkEntries {H : Type} : List (Lit × DataW H) → Nat
  | [] => 0
  | x :: r => uptoBulkEntry x + uptoBulkEntries r
def uptoBulkEntry {H : Type} : Lit × DataW H → Nat
  | (.string bytes, d) => bytes.length + uptoBulk d + 1
  | (_, d) => uptoBulk d + 1
 end
def uptoSmall : (H : Type) → List (DataW H) → Bool := fun _ ds => decide (uptoBulkAll ds ≤ 1048576)
def OpenSpec.upto (s : _root_.Go.ChangeSpec) : _root_.Go.OpenSpec := { _root_.Go.OpenSpec.ofChange s with cond := some uptoSmall }

/-- 'ashlarlaw08.RaidReads', WHERE WHAT IT READS IS OF BULK AT MOST 1048576: true; the input reads as it did. -/
def raidReadsUptoRow : OpenClaim := { program := "ytajnlhalanhicaagreat", sum := "d105b72eca0b2467dd60bbacad4ebcc54d89a270e1fc5b75132e6aa049a97403", func := "ashlar/ashlarlaw08.RaidReads", spec := "raidReads", unfollowed := true, recurses := true, plainKeys := false, apart := false, narrowed := true }
def RaidReadsUptoSaid : Prop := raidReadsUptoRow.holds Tryz.pinned (OpenSpec.upto raidReadsSpec)

/-- 'ashlarlaw08.RaidCrash', WHERE WHAT IT READS IS OF BULK AT MOST 1048576: true; the input reads as it did. -/
def raidCrashUptoRow : OpenClaim := { program := "ytajnlhalanhicaagreat", sum := "d105b72eca0b2467dd60bbacad4ebcc54d89a270e1fc5b75132e6aa049a97403", func := "ashlar/ashlarlaw08.RaidCrash", spec := "raidCrash", unfollowed := true, recurses := true, plainKeys := false, apart := false, narrowed := true }
def RaidCrashUptoSaid : Prop := raidCrashUptoRow.holds Tryz.pinned (OpenSpec.upto raidCrashSpec)

/-- 'ashlarlaw08.RaidDead', WHERE WHAT IT READS IS OF BULK AT MOST 1048576: true; the input reads as it did. -/
def raidDeadUptoRow : OpenClaim := { program := "ytajnlhalanhicaagreat", sum := "d105b72eca0b2467dd60bbacad4ebcc54d89a270e1fc5b75132e6aa049a97403", func := "ashlar/ashlarlaw08.RaidDead", spec := "raidDead", unfollowed := true, recurses := true, plainKeys := false, apart := false, narrowed := true }
def RaidDeadUptoSaid : Prop := raidDeadUptoRow.holds Tryz.pinned (OpenSpec.upto raidDeadSpec)

/-- 'ashlarlaw08.RaidHole', WHERE WHAT IT READS IS OF BULK AT MOST 1048576: true; the input reads as it did. -/
def raidHoleUptoRow : OpenClaim := { program := "ytajnlhalanhicaagreat", sum := "d105b72eca0b2467dd60bbacad4ebcc54d89a270e1fc5b75132e6aa049a97403", func := "ashlar/ashlarlaw08.RaidHole", spec := "raidHole", unfollowed := true, recurses := true, plainKeys := false, apart := false, narrowed := true }
def RaidHoleUptoSaid : Prop := raidHoleUptoRow.holds Tryz.pinned (OpenSpec.upto raidHoleSpec)

/-- 'ashlarlaw08.RaidTurned', WHERE WHAT IT READS IS OF BULK AT MOST 1048576: true; the input reads as it did. -/
def raidTurnedUptoRow : OpenClaim := { program := "ytajnlhalanhicaagreat", sum := "d105b72eca0b2467dd60bbacad4ebcc54d89a270e1fc5b75132e6aa049a97403", func := "ashlar/ashlarlaw08.RaidTurned", spec := "raidTurned", unfollowed := true, recurses := true, plainKeys := false, apart := false, narrowed := true }
def RaidTurnedUptoSaid : Prop := raidTurnedUptoRow.holds Tryz.pinned (OpenSpec.upto raidTurnedSpec)

/-- 'ashlarlaw08.RaidWhole', WHERE WHAT IT READS IS OF BULK AT MOST 1048576: true; the input reads as it did. -/
def raidWholeUptoRow : OpenClaim := { program := "ytajnlhalanhicaagreat", sum := "d105b72eca0b2467dd60bbacad4ebcc54d89a270e1fc5b75132e6aa049a97403", func := "ashlar/ashlarlaw08.RaidWhole", spec := "raidWhole", unfollowed := true, recurses := true, plainKeys := false, apart := false, narrowed := true }
def RaidWholeUptoSaid : Prop := raidWholeUptoRow.holds Tryz.pinned (OpenSpec.upto raidWholeSpec)

/-- 'ashlarlaw08.RaidMends', WHERE WHAT IT READS IS OF BULK AT MOST 1048576: true; the input reads as it did. -/
def raidMendsUptoRow : OpenClaim := { program := "ytajnlhalanhicaagreat", sum := "d105b72eca0b2467dd60bbacad4ebcc54d89a270e1fc5b75132e6aa049a97403", func := "ashlar/ashlarlaw08.RaidMends", spec := "raidMends", unfollowed := true, recurses := true, plainKeys := false, apart := false, narrowed := true }
def RaidMendsUptoSaid : Prop := raidMendsUptoRow.holds Tryz.pinned (OpenSpec.upto raidMendsSpec)

end Rows
end Go.Proofs.YtajnlhalanhicaaGreat

/-
  No cell of these rows narrows 'for every input' (looked for: loops, veiled, ifaces, maps, wideKeys, modest, calm, conditions, laid).
  DERIVED. THE GIVEN ROWS OF THIS SEAT. 15 by the template 'for every input the law returns true; each argument reads behind the call as it read before'; 0 by the template 'total and deterministic' (their statements: YtnnpdndmcenfeaaTotals.lean).
  GIVEN WITH THE SEED: the statements are not yours to turn. If you find one false, say at which input.
  Laid BY PROGRAM, IN A SANDBOX (cutbox-rows.mjs): the forced cells as the released guide's own fill.sh prints them over the translation 0da4301d3b3ec18e… (all of the seat's roots in one cut). By AI agents, Wed Nov 11 2026. No macro, syntax, notation, axiom, sorry.
-/
import Derived.Test.YtnnpdndmcenfeaaChecked
import GoSem.Claim
import GoSem.ClaimJoined
import GoSem.ClaimMapViews
import Derived.JoinedTies
import Derived.KernelRfl
namespace Go.Proofs.Ytnnpdndmcenfeaa
/- THE CELL 'sum', in the pinned program and in every row, IS THE sha256 OF THE DUMP (.gsa) THAT YtnnpdndmcenfeaaProg.lean LOADS. Nothing in Lean hashes anything: it is a label: what it is worth is what the hold of that sum in a sandbox is worth. -/
noncomputable def Try.pinned : Pinned := { name := "ytnnpdndmcenfeaa", sum := "0da4301d3b3ec18ea5ad30f34aacee3d6330f131067c64e89bfda2be2ab3c5f5", checked := Try.checked }
namespace Rows
def none {H : Type} : Left H := { results := [], args := [] }

/-- 'ashlarlaw01.OctetsNumbers': WHATEVER THE INPUT: true; the input reads as it did. -/
def octetsNumbersSpec : ChangeSpec := { name := "octetsNumbers", fn := fun _ => fun
  | [d1, d2, d3, d4] => { results := [.lit (.bool true)], args := [d1, d2, d3, d4] }
  | _ => none }
def octetsNumbersRow : OpenClaim := { program := "ytnnpdndmcenfeaa", sum := "0da4301d3b3ec18ea5ad30f34aacee3d6330f131067c64e89bfda2be2ab3c5f5", func := "ashlar/ashlarlaw01.OctetsNumbers", spec := "octetsNumbers", apart := false }
def OctetsNumbersSaid : Prop := octetsNumbersRow.holds Try.pinned (OpenSpec.ofChange octetsNumbersSpec)

/-- ITS FALSE NEIGHBOUR: 'it returns false'. Refute it at one input. -/
def octetsNumbersWrong : ChangeSpec := { name := "octetsNumbers", fn := fun _ => fun
  | [d1, d2, d3, d4] => { results := [.lit (.bool false)], args := [d1, d2, d3, d4] }
  | _ => none }
def OctetsNumbersWrongFalsely : Prop := octetsNumbersRow.holds Try.pinned (OpenSpec.ofChange octetsNumbersWrong)

/-- 'ashlarlaw01.OctetsBack': WHATEVER THE INPUT: true; the input reads as it did. -/
def octetsBackSpec : ChangeSpec := { name := "octetsBack", fn := fun _ => fun
  | [d1, d2, d3, d4] => { results := [.lit (.bool true)], args := [d1, d2, d3, d4] }
  | _ => none }
def octetsBackRow : OpenClaim := { program := "ytnnpdndmcenfeaa", sum := "0da4301d3b3ec18ea5ad30f34aacee3d6330f131067c64e89bfda2be2ab3c5f5", func := "ashlar/ashlarlaw01.OctetsBack", spec := "octetsBack", apart := false }
def OctetsBackSaid : Prop := octetsBackRow.holds Try.pinned (OpenSpec.ofChange octetsBackSpec)

/-- ITS FALSE NEIGHBOUR: 'it returns false'. Refute it at one input. -/
def octetsBackWrong : ChangeSpec := { name := "octetsBack", fn := fun _ => fun
  | [d1, d2, d3, d4] => { results := [.lit (.bool false)], args := [d1, d2, d3, d4] }
  | _ => none }
def OctetsBackWrongFalsely : Prop := octetsBackRow.holds Try.pinned (OpenSpec.ofChange octetsBackWrong)

/-- 'ashlarlaw01.OctetsSums': WHATEVER THE INPUT: true; the input reads as it did. -/
def octetsSumsSpec : ChangeSpec := { name := "octetsSums", fn := fun _ => fun
  | [d1, d2] => { results := [.lit (.bool true)], args := [d1, d2] }
  | _ => none }
def octetsSumsRow : OpenClaim := { program := "ytnnpdndmcenfeaa", sum := "0da4301d3b3ec18ea5ad30f34aacee3d6330f131067c64e89bfda2be2ab3c5f5", func := "ashlar/ashlarlaw01.OctetsSums", spec := "octetsSums", apart := false }
def OctetsSumsSaid : Prop := octetsSumsRow.holds Try.pinned (OpenSpec.ofChange octetsSumsSpec)

/-- ITS FALSE NEIGHBOUR: 'it returns false'. Refute it at one input. -/
def octetsSumsWrong : ChangeSpec := { name := "octetsSums", fn := fun _ => fun
  | [d1, d2] => { results := [.lit (.bool false)], args := [d1, d2] }
  | _ => none }
def OctetsSumsWrongFalsely : Prop := octetsSumsRow.holds Try.pinned (OpenSpec.ofChange octetsSumsWrong)

/-- 'ashlarlaw01.OctetsJoins': WHATEVER THE INPUT: true; the input reads as it did. -/
def octetsJoinsSpec : ChangeSpec := { name := "octetsJoins", fn := fun _ => fun
  | [d1, d2, d3] => { results := [.lit (.bool true)], args := [d1, d2, d3] }
  | _ => none }
def octetsJoinsRow : OpenClaim := { program := "ytnnpdndmcenfeaa", sum := "0da4301d3b3ec18ea5ad30f34aacee3d6330f131067c64e89bfda2be2ab3c5f5", func := "ashlar/ashlarlaw01.OctetsJoins", spec := "octetsJoins", apart := false }
def OctetsJoinsSaid : Prop := octetsJoinsRow.holds Try.pinned (OpenSpec.ofChange octetsJoinsSpec)

/-- ITS FALSE NEIGHBOUR: 'it returns false'. Refute it at one input. -/
def octetsJoinsWrong : ChangeSpec := { name := "octetsJoins", fn := fun _ => fun
  | [d1, d2, d3] => { results := [.lit (.bool false)], args := [d1, d2, d3] }
  | _ => none }
def OctetsJoinsWrongFalsely : Prop := octetsJoinsRow.holds Try.pinned (OpenSpec.ofChange octetsJoinsWrong)

/-- 'ashlarlaw01.OctetsTurned': WHATEVER THE INPUT: true; the input reads as it did. -/
def octetsTurnedSpec : ChangeSpec := { name := "octetsTurned", fn := fun _ => fun
  | [d1, d2, d3, d4] => { results := [.lit (.bool true)], args := [d1, d2, d3, d4] }
  | _ => none }
def octetsTurnedRow : OpenClaim := { program := "ytnnpdndmcenfeaa", sum := "0da4301d3b3ec18ea5ad30f34aacee3d6330f131067c64e89bfda2be2ab3c5f5", func := "ashlar/ashlarlaw01.OctetsTurned", spec := "octetsTurned", apart := false }
def OctetsTurnedSaid : Prop := octetsTurnedRow.holds Try.pinned (OpenSpec.ofChange octetsTurnedSpec)

/-- ITS FALSE NEIGHBOUR: 'it returns false'. Refute it at one input. -/
def octetsTurnedWrong : ChangeSpec := { name := "octetsTurned", fn := fun _ => fun
  | [d1, d2, d3, d4] => { results := [.lit (.bool false)], args := [d1, d2, d3, d4] }
  | _ => none }
def OctetsTurnedWrongFalsely : Prop := octetsTurnedRow.holds Try.pinned (OpenSpec.ofChange octetsTurnedWrong)

/-- 'ashlarlaw01.OctetsXors': WHATEVER THE INPUT: true; the input reads as it did. -/
def octetsXorsSpec : ChangeSpec := { name := "octetsXors", fn := fun _ => fun
  | [d1, d2] => { results := [.lit (.bool true)], args := [d1, d2] }
  | _ => none }
def octetsXorsRow : OpenClaim := { program := "ytnnpdndmcenfeaa", sum := "0da4301d3b3ec18ea5ad30f34aacee3d6330f131067c64e89bfda2be2ab3c5f5", func := "ashlar/ashlarlaw01.OctetsXors", spec := "octetsXors", apart := false }
def OctetsXorsSaid : Prop := octetsXorsRow.holds Try.pinned (OpenSpec.ofChange octetsXorsSpec)

/-- ITS FALSE NEIGHBOUR: 'it returns false'. Refute it at one input. -/
def octetsXorsWrong : ChangeSpec := { name := "octetsXors", fn := fun _ => fun
  | [d1, d2] => { results := [.lit (.bool false)], args := [d1, d2] }
  | _ => none }
def OctetsXorsWrongFalsely : Prop := octetsXorsRow.holds Try.pinned (OpenSpec.ofChange octetsXorsWrong)

/-- 'ashlarlaw01.OctetsTwice': WHATEVER THE INPUT: true; the input reads as it did. -/
def octetsTwiceSpec : ChangeSpec := { name := "octetsTwice", fn := fun _ => fun
  | [d1, d2] => { results := [.lit (.bool true)], args := [d1, d2] }
  | _ => none }
def octetsTwiceRow : OpenClaim := { program := "ytnnpdndmcenfeaa", sum := "0da4301d3b3ec18ea5ad30f34aacee3d6330f131067c64e89bfda2be2ab3c5f5", func := "ashlar/ashlarlaw01.OctetsTwice", spec := "octetsTwice", apart := false }
def OctetsTwiceSaid : Prop := octetsTwiceRow.holds Try.pinned (OpenSpec.ofChange octetsTwiceSpec)

/-- ITS FALSE NEIGHBOUR: 'it returns false'. Refute it at one input. -/
def octetsTwiceWrong : ChangeSpec := { name := "octetsTwice", fn := fun _ => fun
  | [d1, d2] => { results := [.lit (.bool false)], args := [d1, d2] }
  | _ => none }
def OctetsTwiceWrongFalsely : Prop := octetsTwiceRow.holds Try.pinned (OpenSpec.ofChange octetsTwiceWrong)

/-- 'ashlarlaw01.OctetsBits': WHATEVER THE INPUT: true; the input reads as it did. -/
def octetsBitsSpec : ChangeSpec := { name := "octetsBits", fn := fun _ => fun
  | [d1, d2, d3, d4, d5] => { results := [.lit (.bool true)], args := [d1, d2, d3, d4, d5] }
  | _ => none }
def octetsBitsRow : OpenClaim := { program := "ytnnpdndmcenfeaa", sum := "0da4301d3b3ec18ea5ad30f34aacee3d6330f131067c64e89bfda2be2ab3c5f5", func := "ashlar/ashlarlaw01.OctetsBits", spec := "octetsBits", apart := false }
def OctetsBitsSaid : Prop := octetsBitsRow.holds Try.pinned (OpenSpec.ofChange octetsBitsSpec)

/-- ITS FALSE NEIGHBOUR: 'it returns false'. Refute it at one input. -/
def octetsBitsWrong : ChangeSpec := { name := "octetsBits", fn := fun _ => fun
  | [d1, d2, d3, d4, d5] => { results := [.lit (.bool false)], args := [d1, d2, d3, d4, d5] }
  | _ => none }
def OctetsBitsWrongFalsely : Prop := octetsBitsRow.holds Try.pinned (OpenSpec.ofChange octetsBitsWrong)

/-- 'ashlarlaw01.OctetsTaken': WHATEVER THE INPUT: true; the input reads as it did. -/
def octetsTakenSpec : ChangeSpec := { name := "octetsTaken", fn := fun _ => fun
  | [d1, d2, d3] => { results := [.lit (.bool true)], args := [d1, d2, d3] }
  | _ => none }
def octetsTakenRow : OpenClaim := { program := "ytnnpdndmcenfeaa", sum := "0da4301d3b3ec18ea5ad30f34aacee3d6330f131067c64e89bfda2be2ab3c5f5", func := "ashlar/ashlarlaw01.OctetsTaken", spec := "octetsTaken", apart := false }
def OctetsTakenSaid : Prop := octetsTakenRow.holds Try.pinned (OpenSpec.ofChange octetsTakenSpec)

/-- ITS FALSE NEIGHBOUR: 'it returns false'. Refute it at one input. -/
def octetsTakenWrong : ChangeSpec := { name := "octetsTaken", fn := fun _ => fun
  | [d1, d2, d3] => { results := [.lit (.bool false)], args := [d1, d2, d3] }
  | _ => none }
def OctetsTakenWrongFalsely : Prop := octetsTakenRow.holds Try.pinned (OpenSpec.ofChange octetsTakenWrong)

/-- 'ashlarlaw04.SuperCodes': WHATEVER THE INPUT: true; the input reads as it did. -/
def superCodesSpec : ChangeSpec := { name := "superCodes", fn := fun _ => fun
  | [d1, d2] => { results := [.lit (.bool true)], args := [d1, d2] }
  | _ => none }
def superCodesRow : OpenClaim := { program := "ytnnpdndmcenfeaa", sum := "0da4301d3b3ec18ea5ad30f34aacee3d6330f131067c64e89bfda2be2ab3c5f5", func := "ashlar/ashlarlaw04.SuperCodes", spec := "superCodes", apart := false }
def SuperCodesSaid : Prop := superCodesRow.holds Try.pinned (OpenSpec.ofChange superCodesSpec)

/-- ITS FALSE NEIGHBOUR: 'it returns false'. Refute it at one input. -/
def superCodesWrong : ChangeSpec := { name := "superCodes", fn := fun _ => fun
  | [d1, d2] => { results := [.lit (.bool false)], args := [d1, d2] }
  | _ => none }
def SuperCodesWrongFalsely : Prop := superCodesRow.holds Try.pinned (OpenSpec.ofChange superCodesWrong)

/-- 'ashlarlaw04.SuperBack': WHATEVER THE INPUT: true; the input reads as it did. -/
def superBackSpec : ChangeSpec := { name := "superBack", fn := fun _ => fun
  | [d] => { results := [.lit (.bool true)], args := [d] }
  | _ => none }
def superBackRow : OpenClaim := { program := "ytnnpdndmcenfeaa", sum := "0da4301d3b3ec18ea5ad30f34aacee3d6330f131067c64e89bfda2be2ab3c5f5", func := "ashlar/ashlarlaw04.SuperBack", spec := "superBack", apart := false }
def SuperBackSaid : Prop := superBackRow.holds Try.pinned (OpenSpec.ofChange superBackSpec)

/-- ITS FALSE NEIGHBOUR: 'it returns false'. Refute it at one input. -/
def superBackWrong : ChangeSpec := { name := "superBack", fn := fun _ => fun
  | [d] => { results := [.lit (.bool false)], args := [d] }
  | _ => none }
def SuperBackWrongFalsely : Prop := superBackRow.holds Try.pinned (OpenSpec.ofChange superBackWrong)

/-- 'ashlarlaw04.SuperOnly': WHATEVER THE INPUT: true; the input reads as it did. -/
def superOnlySpec : ChangeSpec := { name := "superOnly", fn := fun _ => fun
  | [d] => { results := [.lit (.bool true)], args := [d] }
  | _ => none }
def superOnlyRow : OpenClaim := { program := "ytnnpdndmcenfeaa", sum := "0da4301d3b3ec18ea5ad30f34aacee3d6330f131067c64e89bfda2be2ab3c5f5", func := "ashlar/ashlarlaw04.SuperOnly", spec := "superOnly", apart := false }
def SuperOnlySaid : Prop := superOnlyRow.holds Try.pinned (OpenSpec.ofChange superOnlySpec)

/-- ITS FALSE NEIGHBOUR: 'it returns false'. Refute it at one input. -/
def superOnlyWrong : ChangeSpec := { name := "superOnly", fn := fun _ => fun
  | [d] => { results := [.lit (.bool false)], args := [d] }
  | _ => none }
def SuperOnlyWrongFalsely : Prop := superOnlyRow.holds Try.pinned (OpenSpec.ofChange superOnlyWrong)

/-- 'ashlarlaw04.SuperTurned': WHATEVER THE INPUT: true; the input reads as it did. -/
def superTurnedSpec : ChangeSpec := { name := "superTurned", fn := fun _ => fun
  | [d1, d2, d3] => { results := [.lit (.bool true)], args := [d1, d2, d3] }
  | _ => none }
def superTurnedRow : OpenClaim := { program := "ytnnpdndmcenfeaa", sum := "0da4301d3b3ec18ea5ad30f34aacee3d6330f131067c64e89bfda2be2ab3c5f5", func := "ashlar/ashlarlaw04.SuperTurned", spec := "superTurned", apart := false }
def SuperTurnedSaid : Prop := superTurnedRow.holds Try.pinned (OpenSpec.ofChange superTurnedSpec)

/-- ITS FALSE NEIGHBOUR: 'it returns false'. Refute it at one input. -/
def superTurnedWrong : ChangeSpec := { name := "superTurned", fn := fun _ => fun
  | [d1, d2, d3] => { results := [.lit (.bool false)], args := [d1, d2, d3] }
  | _ => none }
def SuperTurnedWrongFalsely : Prop := superTurnedRow.holds Try.pinned (OpenSpec.ofChange superTurnedWrong)

/-- 'ashlarlaw04.SuperSlots': WHATEVER THE INPUT: true; the input reads as it did. -/
def superSlotsSpec : ChangeSpec := { name := "superSlots", fn := fun _ => fun
  | [d] => { results := [.lit (.bool true)], args := [d] }
  | _ => none }
def superSlotsRow : OpenClaim := { program := "ytnnpdndmcenfeaa", sum := "0da4301d3b3ec18ea5ad30f34aacee3d6330f131067c64e89bfda2be2ab3c5f5", func := "ashlar/ashlarlaw04.SuperSlots", spec := "superSlots", apart := false }
def SuperSlotsSaid : Prop := superSlotsRow.holds Try.pinned (OpenSpec.ofChange superSlotsSpec)

/-- ITS FALSE NEIGHBOUR: 'it returns false'. Refute it at one input. -/
def superSlotsWrong : ChangeSpec := { name := "superSlots", fn := fun _ => fun
  | [d] => { results := [.lit (.bool false)], args := [d] }
  | _ => none }
def SuperSlotsWrongFalsely : Prop := superSlotsRow.holds Try.pinned (OpenSpec.ofChange superSlotsWrong)

/-- 'ashlarlaw04.SuperNewest': WHATEVER THE INPUT: true; the input reads as it did. -/
def superNewestSpec : ChangeSpec := { name := "superNewest", fn := fun _ => fun
  | [d1, d2, d3, d4] => { results := [.lit (.bool true)], args := [d1, d2, d3, d4] }
  | _ => none }
def superNewestRow : OpenClaim := { program := "ytnnpdndmcenfeaa", sum := "0da4301d3b3ec18ea5ad30f34aacee3d6330f131067c64e89bfda2be2ab3c5f5", func := "ashlar/ashlarlaw04.SuperNewest", spec := "superNewest", apart := false }
def SuperNewestSaid : Prop := superNewestRow.holds Try.pinned (OpenSpec.ofChange superNewestSpec)

/-- ITS FALSE NEIGHBOUR: 'it returns false'. Refute it at one input. -/
def superNewestWrong : ChangeSpec := { name := "superNewest", fn := fun _ => fun
  | [d1, d2, d3, d4] => { results := [.lit (.bool false)], args := [d1, d2, d3, d4] }
  | _ => none }
def SuperNewestWrongFalsely : Prop := superNewestRow.holds Try.pinned (OpenSpec.ofChange superNewestWrong)

/- THE SECOND FORM. 'bulk': how many values and letters a reading holds, each counted each time it is reached (what is shared counts as often as it is met; a slice's spare places count too). A statement '..UptoSaid' is the law's where the arguments, and the package variables that the reading takes, are together of bulk at most 1048576: NARROWER than '..Said'. Prove '..Said' where nothing that the law and all that it calls make is longer than what came in: it says more and counts as full. Else prove '..UptoSaid'. A law counts once. -/
mutual
def uptoBulk {H : Type} : DataW H → Nat
  | .lit (.string bytes) => bytes.length + 1
  | .lit _ => 1
  | .nil => 1
  | .ptr d => uptoBulk d + 1
  | .slice elems spare => uptoBulkAll elems + uptoBulkAll spare + 1
  | .agg parts => uptoBulkAll parts + 1
  | .iface _ d => uptoBulk d + 1
  | .map entries => uptoBulkEntries entries + 1
  | .held _ => 1
def uptoBulkAll {H : Type} : List (DataW H) → Nat
  | [] => 0
  | d :: r => uptoBulk d + uptoBulkAll r
def uptoBulkEntries {H : Type} : List (Lit × DataW H) → Nat
  | [] => 0
  | x :: r => uptoBulkEntry x + uptoBulkEntries r
def uptoBulkEntry {H : Type} : Lit × DataW H → Nat
  | (.string bytes, d) => bytes.length + uptoBulk d + 1
  | (_, d) => uptoBulk d + 1
 end
def uptoSmall : (H : Type) → List (DataW H) → Bool := fun _ ds => decide (uptoBulkAll ds ≤ 1048576)
def OpenSpec.upto (s : _root_.Go.ChangeSpec) : _root_.Go.OpenSpec := { _root_.Go.OpenSpec.ofChange s with cond := some uptoSmall }

/-- 'ashlarlaw01.OctetsNumbers', WHERE WHAT IT READS IS OF BULK AT MOST 1048576: true; the input reads as it did. -/
def octetsNumbersUptoRow : OpenClaim := { program := "ytnnpdndmcenfeaa", sum := "0da4301d3b3ec18ea5ad30f34aacee3d6330f131067c64e89bfda2be2ab3c5f5", func := "ashlar/ashlarlaw01.OctetsNumbers", spec := "octetsNumbers", apart := false, narrowed := true }
def OctetsNumbersUptoSaid : Prop := octetsNumbersUptoRow.holds Try.pinned (OpenSpec.upto octetsNumbersSpec)

/-- 'ashlarlaw01.OctetsBack', WHERE WHAT IT READS IS OF BULK AT MOST 1048576: true; the input reads as it did. -/
def octetsBackUptoRow : OpenClaim := { program := "ytnnpdndmcenfeaa", sum := "0da4301d3b3ec18ea5ad30f34aacee3d6330f131067c64e89bfda2be2ab3c5f5", func := "ashlar/ashlarlaw01.OctetsBack", spec := "octetsBack", apart := false, narrowed := true }
def OctetsBackUptoSaid : Prop := octetsBackUptoRow.holds Try.pinned (OpenSpec.upto octetsBackSpec)

/-- 'ashlarlaw01.OctetsSums', WHERE WHAT IT READS IS OF BULK AT MOST 1048576: true; the input reads as it did. -/
def octetsSumsUptoRow : OpenClaim := { program := "ytnnpdndmcenfeaa", sum := "0da4301d3b3ec18ea5ad30f34aacee3d6330f131067c64e89bfda2be2ab3c5f5", func := "ashlar/ashlarlaw01.OctetsSums", spec := "octetsSums", apart := false, narrowed := true }
def OctetsSumsUptoSaid : Prop := octetsSumsUptoRow.holds Try.pinned (OpenSpec.upto octetsSumsSpec)

/-- 'ashlarlaw01.OctetsJoins', WHERE WHAT IT READS IS OF BULK AT MOST 1048576: true; the input reads as it did. -/
def octetsJoinsUptoRow : OpenClaim := { program := "ytnnpdndmcenfeaa", sum := "0da4301d3b3ec18ea5ad30f34aacee3d6330f131067c64e89bfda2be2ab3c5f5", func := "ashlar/ashlarlaw01.OctetsJoins", spec := "octetsJoins", apart := false, narrowed := true }
def OctetsJoinsUptoSaid : Prop := octetsJoinsUptoRow.holds Try.pinned (OpenSpec.upto octetsJoinsSpec)

/-- 'ashlarlaw01.OctetsTurned', WHERE WHAT IT READS IS OF BULK AT MOST 1048576: true; the input reads as it did. -/
def octetsTurnedUptoRow : OpenClaim := { program := "ytnnpdndmcenfeaa", sum := "0da4301d3b3ec18ea5ad30f34aacee3d6330f131067c64e89bfda2be2ab3c5f5", func := "ashlar/ashlarlaw01.OctetsTurned", spec := "octetsTurned", apart := false, narrowed := true }
def OctetsTurnedUptoSaid : Prop := octetsTurnedUptoRow.holds Try.pinned (OpenSpec.upto octetsTurnedSpec)

/-- 'ashlarlaw01.OctetsXors', WHERE WHAT IT READS IS OF BULK AT MOST 1048576: true; the input reads as it did. -/
def octetsXorsUptoRow : OpenClaim := { program := "ytnnpdndmcenfeaa", sum := "0da4301d3b3ec18ea5ad30f34aacee3d6330f131067c64e89bfda2be2ab3c5f5", func := "ashlar/ashlarlaw01.OctetsXors", spec := "octetsXors", apart := false, narrowed := true }
def OctetsXorsUptoSaid : Prop := octetsXorsUptoRow.holds Try.pinned (OpenSpec.upto octetsXorsSpec)

/-- 'ashlarlaw01.OctetsTwice', WHERE WHAT IT READS IS OF BULK AT MOST 1048576: true; the input reads as it did. -/
def octetsTwiceUptoRow : OpenClaim := { program := "ytnnpdndmcenfeaa", sum := "0da4301d3b3ec18ea5ad30f34aacee3d6330f131067c64e89bfda2be2ab3c5f5", func := "ashlar/ashlarlaw01.OctetsTwice", spec := "octetsTwice", apart := false, narrowed := true }
def OctetsTwiceUptoSaid : Prop := octetsTwiceUptoRow.holds Try.pinned (OpenSpec.upto octetsTwiceSpec)

/-- 'ashlarlaw01.OctetsBits', WHERE WHAT IT READS IS OF BULK AT MOST 1048576: true; the input reads as it did. -/
def octetsBitsUptoRow : OpenClaim := { program := "ytnnpdndmcenfeaa", sum := "0da4301d3b3ec18ea5ad30f34aacee3d6330f131067c64e89bfda2be2ab3c5f5", func := "ashlar/ashlarlaw01.OctetsBits", spec := "octetsBits", apart := false, narrowed := true }
def OctetsBitsUptoSaid : Prop := octetsBitsUptoRow.holds Try.pinned (OpenSpec.upto octetsBitsSpec)

/-- 'ashlarlaw01.OctetsTaken', WHERE WHAT IT READS IS OF BULK AT MOST 1048576: true; the input reads as it did. -/
def octetsTakenUptoRow : OpenClaim := { program := "ytnnpdndmcenfeaa", sum := "0da4301d3b3ec18ea5ad30f34aacee3d6330f131067c64e89bfda2be2ab3c5f5", func := "ashlar/ashlarlaw01.OctetsTaken", spec := "octetsTaken", apart := false, narrowed := true }
def OctetsTakenUptoSaid : Prop := octetsTakenUptoRow.holds Try.pinned (OpenSpec.upto octetsTakenSpec)

/-- 'ashlarlaw04.SuperCodes', WHERE WHAT IT READS IS OF BULK AT MOST 1048576: true; the input reads as it did. -/
def superCodesUptoRow : OpenClaim := { program := "ytnnpdndmcenfeaa", sum := "0da4301d3b3ec18ea5ad30f34aacee3d6330f131067c64e89bfda2be2ab3c5f5", func := "ashlar/ashlarlaw04.SuperCodes", spec := "superCodes", apart := false, narrowed := true }
def SuperCodesUptoSaid : Prop := superCodesUptoRow.holds Try.pinned (OpenSpec.upto superCodesSpec)

/-- 'ashlarlaw04.SuperBack', WHERE WHAT IT READS IS OF BULK AT MOST 1048576: true; the input reads as it did. -/
def superBackUptoRow : OpenClaim := { program := "ytnnpdndmcenfeaa", sum := "0da4301d3b3ec18ea5ad30f34aacee3d6330f131067c64e89bfda2be2ab3c5f5", func := "ashlar/ashlarlaw04.SuperBack", spec := "superBack", apart := false, narrowed := true }
def SuperBackUptoSaid : Prop := superBackUptoRow.holds Try.pinned (OpenSpec.upto superBackSpec)

/-- 'ashlarlaw04.SuperOnly', WHERE WHAT IT READS IS OF BULK AT MOST 1048576: true; the input reads as it did. -/
def superOnlyUptoRow : OpenClaim := { program := "ytnnpdndmcenfeaa", sum := "0da4301d3b3ec18ea5ad30f34aacee3d6330f131067c64e89bfda2be2ab3c5f5", func := "ashlar/ashlarlaw04.SuperOnly", spec := "superOnly", apart := false, narrowed := true }
def SuperOnlyUptoSaid : Prop := superOnlyUptoRow.holds Try.pinned (OpenSpec.upto superOnlySpec)

/-- 'ashlarlaw04.SuperTurned', WHERE WHAT IT READS IS OF BULK AT MOST 1048576: true; the input reads as it did. -/
def superTurnedUptoRow : OpenClaim := { program := "ytnnpdndmcenfeaa", sum := "0da4301d3b3ec18ea5ad30f34aacee3d6330f131067c64e89bfda2be2ab3c5f5", func := "ashlar/ashlarlaw04.SuperTurned", spec := "superTurned", apart := false, narrowed := true }
def SuperTurnedUptoSaid : Prop := superTurnedUptoRow.holds Try.pinned (OpenSpec.upto superTurnedSpec)

/-- 'ashlarlaw04.SuperSlots', WHERE WHAT IT READS IS OF BULK AT MOST 1048576: true; the input reads as it did. -/
def superSlotsUptoRow : OpenClaim := { program := "ytnnpdndmcenfeaa", sum := "0da4301d3b3ec18ea5ad30f34aacee3d6330f131067c64e89bfda2be2ab3c5f5", func := "ashlar/ashlarlaw04.SuperSlots", spec := "superSlots", apart := false, narrowed := true }
def SuperSlotsUptoSaid : Prop := superSlotsUptoRow.holds Try.pinned (OpenSpec.upto superSlotsSpec)

/-- 'ashlarlaw04.SuperNewest', WHERE WHAT IT READS IS OF BULK AT MOST 1048576: true; the input reads as it did. -/
def superNewestUptoRow : OpenClaim := { program := "ytnnpdndmcenfeaa", sum := "0da4301d3b3ec18ea5ad30f34aacee3d6330f131067c64e89bfda2be2ab3c5f5", func := "ashlar/ashlarlaw04.SuperNewest", spec := "superNewest", apart := false, narrowed := true }
def SuperNewestUptoSaid : Prop := superNewestUptoRow.holds Try.pinned (OpenSpec.upto superNewestSpec)

end Rows
end Go.Proofs.Ytnnpdndmcenfeaa

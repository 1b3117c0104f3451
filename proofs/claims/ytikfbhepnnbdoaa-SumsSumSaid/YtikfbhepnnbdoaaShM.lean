/-
  A shelf of disks as plain data, and what each call makes of it. No program in sight.
-/
import Derived.Test.YtikfbhepnnbdoaaMath
import Derived.RowKit
namespace Go.Proofs.Ytikfbhepnnbdoaa
set_option linter.all false
open Go.RowKit

abbrev Bytes := List UInt8
/-- a disk: what is sure, what waits (oldest first), is it dead -/
structure DiskM where
  sure : List Bytes
  waits : List (Nat × Bytes)
  dead : Bool
/-- a shelf: its power, its disks, how many sectors each has, how many calls were done -/
structure ShM where
  left : Int
  stops : Bool
  disks : List DiskM
  sectors : Nat
  count : Int

def zeroSec : Bytes := List.replicate 128 0
def freshDisk (n : Nat) : DiskM := ⟨List.replicate n zeroSec, [], false⟩
def freshSh (d n : Nat) : ShM := ⟨0, false, List.replicate d (freshDisk n), n, 0⟩

def ShM.off (s : ShM) : Bool := s.stops && decide (s.left = 0)
def ShM.has (s : ShM) (d n : Int) : Bool := decide (0 ≤ d ∧ d < s.disks.length ∧ 0 ≤ n ∧ n < s.sectors)
def noDisk : DiskM := ⟨[], [], false⟩
def ShM.disk (s : ShM) (d : Nat) : DiskM := s.disks.getD d noDisk
def ShM.setDisk (s : ShM) (d : Nat) (k : DiskM) : ShM := { s with disks := s.disks.set d k }

/-- why a disk can do nothing: 0, or an error's number -/
def ShM.why (s : ShM) (d : Nat) : Int := if s.off then 3 else if (s.disk d).dead then 4 else 0
/-- a write or a flush takes power -/
def ShM.spend (s : ShM) : ShM := if s.stops then { s with left := wrap64 (s.left - 1) } else s
def ShM.tick (s : ShM) : ShM := { s with count := wrap64 (s.count + 1) }

/-- how many writes of a sector wait -/
def waitsOf (ws : List (Nat × Bytes)) (n : Nat) : Nat := (ws.filter fun w => w.1 == n).length
/-- the last write of a sector that waits -/
def lastOf (ws : List (Nat × Bytes)) (n : Nat) : Option Bytes := ((ws.reverse.find? fun w => w.1 == n)).map (·.2)
def DiskM.read (k : DiskM) (n : Nat) : Bytes := (lastOf k.waits n).getD (k.sure.getD n [])
def DiskM.write (k : DiskM) (n : Nat) (b : Bytes) : DiskM := { k with waits := k.waits ++ [(n, b)] }
/-- some of what waits is sure -/
def settleL (keeps : Nat → Bool) : Nat → List (Nat × Bytes) → List Bytes → List Bytes
  | _, [], sure => sure
  | i, w :: ws, sure => settleL keeps (i + 1) ws (if keeps i then sure.set w.1 w.2 else sure)
def DiskM.settle (k : DiskM) (keeps : Nat → Bool) : DiskM := { k with sure := settleL keeps 0 k.waits k.sure, waits := [] }
def DiskM.corrupt (k : DiskM) (n at_ : Nat) (b : UInt8) : DiskM := { k with sure := k.sure.set n ((k.sure.getD n []).set at_ ((k.sure.getD n []).getD at_ 0 ^^^ b)) }

/-- a call's outcome: an error's number, the shelf behind it -/
def ShM.readR (s : ShM) (d n : Int) : Bytes × Int × ShM :=
  if s.has d n then (if s.why d.toNat = 0 then ((s.disk d.toNat).read n.toNat, 0, s.tick) else ([], s.why d.toNat, s)) else ([], 1, s)
def ShM.writeR (s : ShM) (d n : Int) (b : Bytes) : Int × ShM :=
  if s.has d n ∧ b.length = 128 then (if s.why d.toNat = 0 then (0, (s.spend.tick).setDisk d.toNat ((s.disk d.toNat).write n.toNat b)) else (s.why d.toNat, s)) else (1, s)
def ShM.flushR (s : ShM) (d : Int) : Int × ShM :=
  if s.has d 0 then (if s.why d.toNat = 0 then (0, (s.spend.tick).setDisk d.toNat ((s.disk d.toNat).settle fun _ => true)) else (s.why d.toNat, s)) else (1, s)
def ShM.killR (s : ShM) (d : Int) : Int × ShM :=
  if s.has d 0 then (0, s.setDisk d.toNat { s.disk d.toNat with dead := true }) else (1, s)
def ShM.deadR (s : ShM) (d : Int) : Bool := s.has d 0 && (s.disk d.toNat).dead
def ShM.corruptR (s : ShM) (d n at_ : Int) (b : UInt8) : Int × ShM :=
  if s.has d n ∧ 0 ≤ at_ ∧ at_ < 128 then (if waitsOf (s.disk d.toNat).waits n.toNat = 0 then (0, s.setDisk d.toNat ((s.disk d.toNat).corrupt n.toNat at_.toNat b)) else (9, s)) else (1, s)
def ShM.stop (s : ShM) (n : Int) : ShM := if s.off then s else { s with left := max n 0, stops := decide (0 ≤ n) }
/-- which of a disk's writes a crash keeps -/
def keepsOf (keep : List (List Int)) (d : Nat) (i : Nat) : Bool := (keep.getD d []).contains (i : Int)
def ShM.crash (s : ShM) (keep : List (List Int)) : ShM := { s with left := 0, stops := false, disks := s.disks.mapIdx fun d k => k.settle (keepsOf keep d) }
def ShM.waitsR (s : ShM) (d : Int) : Nat := if s.has d 0 then (s.disk d.toNat).waits.length else 0

/-- what is so of every shelf -/
structure ShM.Ok (s : ShM) : Prop where
  disks1 : 1 ≤ s.disks.length
  disks17 : s.disks.length ≤ 17
  sectors1 : 1 ≤ s.sectors
  sectors4096 : s.sectors ≤ 4096
  sure : ∀ k ∈ s.disks, k.sure.length = s.sectors
  sec : ∀ k ∈ s.disks, ∀ b ∈ k.sure, b.length = 128
  waits : ∀ k ∈ s.disks, ∀ w ∈ k.waits, w.1 < s.sectors ∧ w.2.length = 128

end Go.Proofs.Ytikfbhepnnbdoaa

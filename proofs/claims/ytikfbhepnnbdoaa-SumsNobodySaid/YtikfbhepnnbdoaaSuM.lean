/-
  The blocks of a disk with two sums for each, as plain data, and what each call makes of them. No program in sight.
-/
import Derived.Test.YtikfbhepnnbdoaaShM
import Derived.Test.YtikfbhepnnbdoaaMathB
namespace Go.Proofs.Ytikfbhepnnbdoaa
set_option linter.all false
open Go.RowKit

/-- a disk's blocks: the disk, how many blocks, the block that was written since the last flush -/
structure DevM where
  disk : Nat
  size : Nat
  opn : Int

def blocksI (n : Int) : Int := if n < 1 then 0 else n / 17 * 16 + max (n % 17 - 1) 0
def sumAt (b : Nat) : Nat := b / 16 * 17
def dataAt (b : Nat) : Nat := b / 16 * 17 + 1 + b % 16
def u32I (x : Int) : Nat := (x % 4294967296).toNat
def sumL (disk block : Int) : Bytes := leBytes (u32I disk) 4 ++ leBytes (u32I block) 4
/-- the sum of a block's bytes -/
def sumB (disk block : Int) (b : Bytes) : Nat := crc 0 (sumL disk block ++ b)
def standP (sums : Bytes) (block : Nat) : Nat × Nat := (leNum ((sums.drop (block % 16 * 8)).take 4), leNum ((sums.drop (block % 16 * 8 + 4)).take 4))
def fitsP (disk : Nat) (p : Nat × Nat) (block : Nat) (b : Bytes) : Bool := (p.1 == 0 && p.2 == 0 && b == zeroSec) || sumB disk block b == p.1 || sumB disk block b == p.2
/-- the sums' sector with other sums for a block -/
def putSums (sums : Bytes) (block : Nat) (p : Nat × Nat) : Bytes := sums.take (block % 16 * 8) ++ (leBytes p.1 4 ++ leBytes p.2 4) ++ sums.drop (block % 16 * 8 + 8)

/-- what a block's sectors have -/
def devSector (s : ShM) (D : DevM) (block : Int) : Bytes × Bytes × Int × ShM :=
  if 0 ≤ block ∧ block < D.size then
    let r := s.readR D.disk (sumAt block.toNat)
    if r.2.1 = 0 then
      let q := r.2.2.readR D.disk (dataAt block.toNat)
      (r.1, q.1, q.2.1, q.2.2)
    else ([], [], r.2.1, r.2.2)
  else ([], [], 1, s)
def devRead (s : ShM) (D : DevM) (block : Int) : Bytes × Int × ShM :=
  let r := devSector s D block
  if r.2.2.1 = 0 then
    (if fitsP D.disk (standP r.1 block.toNat) block.toNat r.2.1 then (r.2.1, 0, r.2.2.2) else ([], 5, r.2.2.2))
  else ([], r.2.2.1, r.2.2.2)
def devFlush (s : ShM) (D : DevM) : Int × ShM × DevM :=
  let r := s.flushR D.disk
  (r.1, r.2, if r.1 = 0 then { D with opn := -1 } else D)
/-- the first bytes whose sum is another one -/
def spoilB (bad : Bytes → Bool) : Nat → Bytes → Bytes
  | 0, b => b
  | k + 1, b => if bad b then spoilB bad k (b.set 0 (b.getD 0 0 + 1)) else b
def spoilOf (D : DevM) (block : Nat) (p : Nat × Nat) (sum : Nat) (was : Bytes) : Bytes :=
  spoilB (fun b => sumB D.disk block b == sum || sumB D.disk block b == p.1 || sumB D.disk block b == p.2) 3 was
def devSpoil (s : ShM) (D : DevM) (block : Nat) (p : Nat × Nat) (was : Bytes) (sum : Nat) : Int × ShM × DevM :=
  let r := s.writeR D.disk (dataAt block) (spoilOf D block p sum was)
  if r.1 = 0 then devFlush r.2 D else (r.1, r.2, D)
/-- the sums that a block is to have -/
def nextP (D : DevM) (block : Nat) (p : Nat × Nat) (was b : Bytes) : Nat × Nat :=
  (if fitsP D.disk p block was then sumB D.disk block was else sumB D.disk block b, sumB D.disk block b)
/-- the sums, surely, and then the bytes -/
def devPut (s : ShM) (D : DevM) (block : Nat) (sums : Bytes) (b : Bytes) : Int × ShM × DevM :=
  let r := s.writeR D.disk (sumAt block) sums
  if r.1 = 0 then
    let f := devFlush r.2 D
    if f.1 = 0 then
      let q := f.2.1.writeR D.disk (dataAt block) b
      (q.1, q.2, if q.1 = 0 then { f.2.2 with opn := block } else f.2.2)
    else f
  else (r.1, r.2, D)
/-- a bad block that has the bytes' sum is spoilt first -/
def devFirst (s : ShM) (D : DevM) (block : Nat) (sums was b : Bytes) : Int × ShM × DevM :=
  if fitsP D.disk (standP sums block) block was then (0, s, D)
  else if sumB D.disk block was = sumB D.disk block b then devSpoil s D block (standP sums block) was (sumB D.disk block b)
  else (0, s, D)
def devOpen (s : ShM) (D : DevM) (block : Int) : Int × ShM × DevM := if D.opn = block then devFlush s D else (0, s, D)
def devWrite (s : ShM) (D : DevM) (block : Int) (b : Bytes) : Int × ShM × DevM :=
  if b.length = 128 then
    let r := devSector s D block
    if r.2.2.1 = 0 then
      let f := devOpen r.2.2.2 D block
      if f.1 = 0 then
        let x := devFirst f.2.1 f.2.2 block.toNat r.1 r.2.1 b
        if x.1 = 0 then devPut x.2.1 x.2.2 block.toNat (putSums r.1 block.toNat (nextP D block.toNat (standP r.1 block.toNat) r.2.1 b)) b
        else x
      else f
    else (r.2.2.1, r.2.2.2, D)
  else (1, s, D)
end Go.Proofs.Ytikfbhepnnbdoaa

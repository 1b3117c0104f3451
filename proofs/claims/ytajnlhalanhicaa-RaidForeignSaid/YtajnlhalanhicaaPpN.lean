/-
 What each call of a log makes of its disk's blocks. No program in sight.
-/
import Derived.Test.YtajnlhalanhicaaPpM
import Derived.Test.YtajnlhalanhicaaSuJ
import Derived.Test.YtajnlhalanhicaaSuZ
namespace Go.Proofs.Ytajnlhalanhicaa
set_option linter.all false
set_option maxRecDepth 20000
open Go.RowKit
def slotOk (slots : Nat) (slot : Int) : Bool := decide (0 ≤ slot ∧ slot < slots)
def logPut (s : ShM) (D : DevM) (slots : Nat) (slot : Int) (r : Rec) : Int × ShM × DevM :=
 if slotOk slots slot then
  if mayB r then
   let x := devWrite s D (2 + 2 * slot + 1) r.part
   if x.1 = 0 then devWrite x.2.1 x.2.2 (2 + 2 * slot) (hdBytes r) else x
  else (1, s, D)
 else (1, s, D)
def logClear (s : ShM) (D : DevM) (slots : Nat) (slot : Int) : Int × ShM × DevM :=
 if slotOk slots slot then devWrite s D (2 + 2 * slot) zeroSec else (1, s, D)
def logGet (s : ShM) (D : DevM) (slots : Nat) (slot : Int) : Rec × Int × ShM :=
 if slotOk slots slot then
  let x := devRead s D (2 + 2 * slot)
  if x.2.1 = 0 then
   if x.1 = zeroSec then (noRec, 7, x.2.2)
   else
    let y := devRead x.2.2 D (2 + 2 * slot + 1)
    if y.2.1 = 0 then (decR x.1 y.1, decEP x.1 y.1, y.2.2) else (noRec, y.2.1, y.2.2)
  else (noRec, x.2.1, x.2.2)
 else (noRec, 1, s)
section
variable {s : ShM} {D : DevM}
theorem room_dread {N : Nat} (h : Room N s) (D : DevM) (n : Int) : Room N (devRead s D n).2.2 := by
 have := room_sec h D n
 unfold devRead
 dsimp only
 repeat' split
 all_goals exact this
theorem room_dput {N : Nat} (h : Room N s) (D : DevM) (n : Nat) (x b : Bytes) : Room (N + 2) (devPut s D n x b).2.1 := by
 unfold devPut
 have h1 := room_write h D.disk (sumAt n) x
 generalize s.writeR D.disk (sumAt n) x = r at *
 dsimp only
 split
 ·have h2 := room_dflush h1 D
  generalize devFlush r.2 D = f at *
  split
  ·have h3 := room_write h2 D.disk (dataAt n) b
   exact h3
  ·exact h2.mono (by omega)
 ·exact h1.mono (by omega)
theorem room_dwrite {N : Nat} (h : Room N s) (D : DevM) (n : Int) (b : Bytes) : Room (N + 4) (devWrite s D n b).2.1 := by
 unfold devWrite
 split
 ·have h1 := room_sec h D n
  generalize devSector s D n = r at *
  dsimp only
  split
  ·have h2 := room_open h1 D n
   generalize devOpen r.2.2.2 D n = f at *
   split
   ·have h3 := room_first h2 f.2.2 n.toNat r.1 r.2.1 b
    generalize devFirst f.2.1 f.2.2 n.toNat r.1 r.2.1 b = x at *
    split
    ·exact (room_dput h3 _ _ _ _).mono (by omega)
    ·exact h3.mono (by omega)
   ·exact h2.mono (by omega)
  ·exact h1.mono (by omega)
 ·exact h.mono (by omega)
theorem devRead_ok {n : Int} (hok : s.Ok) (he : (devRead s D n).2.1 = 0) : (devRead s D n).1.length = 128 := by
 unfold devRead at he ⊢
 dsimp only at he ⊢
 by_cases h1 : (devSector s D n).2.2.1 = 0
 ·rw [if_pos h1] at he ⊢
  split at he
  ·rename_i hf
   rw [if_pos hf]
   exact (sec_len hok h1).2.1
  ·cases he
 ·rw [if_neg h1] at he
  exact absurd he h1
end
end Go.Proofs.Ytajnlhalanhicaa

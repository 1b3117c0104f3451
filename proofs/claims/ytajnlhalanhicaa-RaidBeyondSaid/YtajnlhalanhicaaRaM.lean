/-
 A volume as plain data, and what each call makes of it. No program in sight.
-/
import Derived.Test.YtajnlhalanhicaaPpN
import Derived.Test.YtajnlhalanhicaaRaL
import Derived.Test.YtajnlhalanhicaaSupD
import Derived.Test.YtajnlhalanhicaaSupQ
namespace Go.Proofs.Ytajnlhalanhicaa
set_option linter.all false
set_option maxRecDepth 20000
open Go.RowKit
def xorB (xs ys : Bytes) : Bytes := List.zipWith (· ^^^ ·) xs ys
structure VolM where
 sup : Sup
 devs : List DevM
 opens : List Nat
 used : List (Nat × Nat)
def noDev : DevM := ⟨0, 0, -1⟩
def VolM.dev (V : VolM) (i : Nat) : DevM := V.devs.getD i noDev
def VolM.setDev (V : VolM) (i : Nat) (D : DevM) : VolM := { V with devs := V.devs.set i D }
def VolM.m (V : VolM) : Nat := V.sup.members.toNat
def VolM.logs (V : VolM) : Nat := V.sup.logs.toNat
def VolM.stripes (V : VolM) : Nat := V.sup.stripes.toNat
def VolM.base (V : VolM) : Nat := 2 + 2 * V.sup.logs.toNat
def VolM.size (V : VolM) : Nat := V.stripes * (V.m - 1)
def VolM.diskOf (V : VolM) (member stripe : Nat) : Nat := if (member : Int) = V.sup.spare ∧ (stripe : Int) < V.sup.mark then V.m else member
def VolM.opn (V : VolM) (st : Nat) : VolM := { V with opens := if V.opens.contains st then V.opens else V.opens ++ [st] }
def VolM.use (V : VolM) (k : Nat × Nat) : VolM := { V with used := if V.used.contains k then V.used else V.used ++ [k] }
def VolM.clean (V : VolM) : VolM := { V with opens := [], used := [] }
def VolM.setSup (V : VolM) (x : Sup) : VolM := { V with sup := x }
def volWr (s : ShM) (V : VolM) (d : Nat) (n : Int) (b : Bytes) : Int × ShM × VolM :=
 let r := devWrite s (V.dev d) n b
 (r.1, r.2.1, V.setDev d r.2.2)
def volFl (s : ShM) (V : VolM) (d : Nat) : Int × ShM × VolM :=
 let r := devFlush s (V.dev d)
 (r.1, r.2.1, V.setDev d r.2.2)
def volGet (s : ShM) (V : VolM) (member stripe : Nat) : Bytes × Int × ShM := devRead s (V.dev (V.diskOf member stripe)) ((V.base + stripe : Nat) : Int)
def volPut (s : ShM) (V : VolM) (member stripe : Nat) (b : Bytes) : Int × ShM × VolM := volWr s V (V.diskOf member stripe) ((V.base + stripe : Nat) : Int) b
def volDead (s : ShM) (V : VolM) (member stripe : Nat) : Bool := (s.disk (V.dev (V.diskOf member stripe)).disk).dead
def togL (s : ShM) (V : VolM) (stripe : Nat) (sum : Bytes) : List Nat → Bytes × Int × ShM
 | [] => (sum, 0, s)
 | m :: l =>
  let r := volGet s V m stripe
  if r.2.1 = 3 then ([], 3, r.2.2) else if r.2.1 ≠ 0 then ([], 10, r.2.2) else togL r.2.2 V stripe (xorB sum r.1) l
def volTog (s : ShM) (V : VolM) (stripe : Nat) (l : List Nat) : Bytes × Int × ShM := togL s V stripe zeroSec l
def volLost (s : ShM) (V : VolM) (member stripe : Nat) : Bytes × Int × ShM := volTog s V stripe ((memL V.m stripe).filter fun k => !(k == member))
def syncFrom (s : ShM) (V : VolM) (i : Nat) : Nat → Int × ShM × VolM
 | 0 => (0, s, V)
 | f + 1 =>
  let r := volFl s V i
  if r.1 = 0 ∨ r.1 = 4 then syncFrom r.2.1 r.2.2 (i + 1) f else r
def volSync (s : ShM) (V : VolM) : Int × ShM × VolM := syncFrom s V 0 V.devs.length
def volClr (s : ShM) (V : VolM) (d n : Nat) : Int × ShM × VolM :=
 let r := logClear s (V.dev d) V.logs n
 (r.1, r.2.1, V.setDev d r.2.2)
def clrIn (s : ShM) (V : VolM) (i n : Nat) : Nat → Int × ShM × VolM
 | 0 => (0, s, V)
 | f + 1 =>
  if V.used.contains (i, n) then
   let r := volClr s V i n
   if r.1 = 0 ∨ r.1 = 4 then clrIn r.2.1 r.2.2 i (n + 1) f else r
  else clrIn s V i (n + 1) f
def clrFrom (s : ShM) (V : VolM) (i : Nat) : Nat → Int × ShM × VolM
 | 0 => (0, s, V)
 | f + 1 =>
  let r := clrIn s V i 0 V.logs
  if r.1 = 0 then clrFrom r.2.1 r.2.2 (i + 1) f else r
def volFlush (s : ShM) (V : VolM) : Int × ShM × VolM :=
 let r := volSync s V
 if r.1 = 0 then
  if r.2.2.used = [] then (0, r.2.1, r.2.2.clean)
  else
   let c := clrFrom r.2.1 r.2.2 0 r.2.2.devs.length
   if c.1 = 0 then
    let q := volSync c.2.1 c.2.2
    if q.1 = 0 then (0, q.2.1, q.2.2.clean) else q
   else c
 else r
def volRead (s : ShM) (V : VolM) (block : Int) : Bytes × Int × ShM × VolM :=
 if 0 ≤ block ∧ block < V.size then
  let at_ := spotN V.m block.toNat
  let g := volGet s V at_.member at_.stripe
  if g.2.1 = 0 ∨ g.2.1 = 3 then (g.1, g.2.1, g.2.2, V)
  else
   let x := volLost g.2.2 V at_.member at_.stripe
   if x.2.1 = 0 then
    if g.2.1 = 5 then
     let p := volPut x.2.2 V at_.member at_.stripe x.1
     if p.1 = 0 then (x.1, 0, p.2.1, p.2.2) else ([], p.1, p.2.1, p.2.2)
    else (x.1, 0, x.2.2, V)
   else ([], x.2.1, x.2.2, V)
 else ([], 1, s, V)
def slotFrom (V : VolM) (d n : Nat) : Nat → Option Nat
 | 0 => none
 | f + 1 => if V.used.contains (d, n) then slotFrom V d (n + 1) f else some n
def volFree (s : ShM) (V : VolM) (d : Nat) : Nat × Int × ShM × VolM :=
 match slotFrom V d 0 V.logs with
 | some n => (n, 0, s, V)
 | none => let r := volFlush s V; (0, r.1, r.2.1, r.2.2)
def volLog (s : ShM) (V : VolM) (d n : Nat) (r : Rec) : Int × ShM × VolM :=
 let x := logPut s (V.dev d) V.logs n r
 (x.1, x.2.1, V.setDev d x.2.2)
def volOnly (s : ShM) (V : VolM) (p stripe : Nat) (rest : List Nat) (b : Bytes) : Int × ShM × VolM :=
 let x := volTog s V stripe rest
 if x.2.1 = 0 then volPut x.2.2 V p stripe (xorB x.1 b) else (x.2.1, x.2.2, V)
def volPart (s : ShM) (V : VolM) (at_ : SpotM) (p : Nat) (rest : List Nat) : Bytes × Int × ShM :=
 let x := volTog s V at_.stripe rest
 if x.2.1 = 10 then volTog x.2.2 V at_.stripe [p, at_.member] else x
def volBoth (s : ShM) (V : VolM) (at_ : SpotM) (p : Nat) (part b : Bytes) : Int × ShM × VolM :=
 let x := volPut s V at_.member at_.stripe b
 if x.1 = 0 then volPut x.2.1 x.2.2 p at_.stripe (xorB part b) else x
def volNote (s : ShM) (V : VolM) (at_ : SpotM) (p : Nat) (part b : Bytes) (on n : Nat) : Int × ShM × VolM :=
 let q := volLog s V on n ⟨at_.stripe, at_.place, part⟩
 if q.1 = 0 then
  let f := volFl q.2.1 (q.2.2.use (on, n)) on
  if f.1 = 0 then volBoth f.2.1 (f.2.2.opn at_.stripe) at_ p part b else f
 else q
def volUpdate (s : ShM) (V : VolM) (at_ : SpotM) (p : Nat) (rest : List Nat) (b : Bytes) : Int × ShM × VolM :=
 let x := volPart s V at_ p rest
 if x.2.1 = 0 then
  let f := volFree x.2.2 V (V.diskOf p at_.stripe)
  if f.2.1 = 0 then volNote f.2.2.1 f.2.2.2 at_ p x.1 b (V.diskOf p at_.stripe) f.1 else (f.2.1, f.2.2.1, f.2.2.2)
 else (x.2.1, x.2.2, V)
def volDo (s : ShM) (V : VolM) (at_ : SpotM) (b : Bytes) : Int × ShM × VolM :=
 let p := parN V.m at_.stripe
 let rest := ((memL V.m at_.stripe).take (V.m - 1)).filter fun k => !(k == at_.member)
 let noData := volDead s V at_.member at_.stripe
 let noParity := volDead s V p at_.stripe
 if noData && noParity then (10, s, V)
 else if noParity then volPut s V at_.member at_.stripe b
 else if noData then volOnly s V p at_.stripe rest b
 else volUpdate s V at_ p rest b
def volOnce (s : ShM) (V : VolM) (at_ : SpotM) (b : Bytes) : Int × ShM × VolM :=
 if s.off then (3, s, V)
 else
  let r := volDo s V at_ b
  if r.1 = 0 then (0, r.2.1, r.2.2.opn at_.stripe) else r
def volWrite (s : ShM) (V : VolM) (block : Int) (b : Bytes) : Int × ShM × VolM :=
 if 0 ≤ block ∧ block < V.size then
  if b.length = 128 then
   let at_ := spotN V.m block.toNat
   if V.opens.contains at_.stripe then
    let f := volFlush s V
    if f.1 = 0 then volOnce f.2.1 f.2.2 at_ b else f
   else volOnce s V at_ b
  else (1, s, V)
 else (1, s, V)
def volSay (s : ShM) (V : VolM) (d : Nat) (x : Sup) : Int × ShM × VolM :=
 let y : Sup := { x with disk := d }
 if rightB y then
  let w := volWr s V d (y.gen % 2) (supBytes y)
  if w.1 = 0 then volFl w.2.1 w.2.2 d else w
 else (1, s, V)
def sayFrom (s : ShM) (V : VolM) (x : Sup) (i : Nat) : Nat → Int × ShM × VolM
 | 0 => (0, s, V)
 | f + 1 =>
  let r := volSay s V i x
  if r.1 = 0 ∨ r.1 = 4 then sayFrom r.2.1 r.2.2 x (i + 1) f else r
def nextSup (V : VolM) (x : Sup) : Sup := { x with gen := V.sup.gen + 1 }
def volSave (s : ShM) (V : VolM) (x : Sup) : Int × ShM × VolM :=
 if V.sup.gen < 4611686018427387904 then
  let r := sayFrom s V (nextSup V x) 0 V.devs.length
  if r.1 = 0 then (0, r.2.1, r.2.2.setSup (nextSup V x)) else r
 else (6, s, V)
def needI (stripes logs : Int) : Int := if 1 ≤ logs ∧ logs ≤ 8 ∧ 1 ≤ stripes ∧ stripes ≤ 1024 then 2 + 2 * logs + stripes else 0
def buildOk (s : ShM) (x : Sup) : Bool := decide (1 ≤ x.logs ∧ x.logs ≤ 8 ∧ 1 ≤ x.stripes ∧ x.stripes ≤ 1024 ∧ 3 ≤ x.members ∧ x.members ≤ 16 ∧ ((s.disks.length : Int) = x.members ∨ (s.disks.length : Int) = x.members + 1) ∧ 2 + 2 * x.logs + x.stripes ≤ blocksI s.sectors)
def devsOf (s : ShM) : List DevM := (List.range s.disks.length).map fun d => ⟨d, (blocksI s.sectors).toNat, -1⟩
def volBuild (s : ShM) (x : Sup) : VolM := ⟨x, devsOf s, [], []⟩
def zeroIn (s : ShM) (V : VolM) (d n : Nat) : Nat → Int × ShM × VolM
 | 0 => (0, s, V)
 | f + 1 =>
  let r := devRead s (V.dev d) n
  if r.2.1 = 0 ∧ r.1 = zeroSec then zeroIn r.2.2 V d (n + 1) f
  else if r.2.1 = 0 ∨ r.2.1 = 5 then
   let w := volWr r.2.2 V d n zeroSec
   if w.1 = 0 then zeroIn w.2.1 w.2.2 d (n + 1) f else w
  else (r.2.1, r.2.2, V)
def zeroFrom (s : ShM) (V : VolM) (d : Nat) : Nat → Int × ShM × VolM
 | 0 => (0, s, V)
 | f + 1 =>
  let r := zeroIn s V d 0 (V.base + V.stripes)
  if r.1 = 0 then zeroFrom r.2.1 r.2.2 (d + 1) f else r
def anyDead (s : ShM) : Bool := s.disks.any (·.dead)
def newSup (members stripes logs : Int) : Sup := ⟨0, members, 0, stripes, logs, -1, 0, 0⟩
def volMake (s : ShM) (V : VolM) : Int × ShM × VolM :=
 if anyDead s then (4, s, V)
 else
  let z := zeroFrom s V 0 V.devs.length
  if z.1 = 0 then
   let y := volSync z.2.1 z.2.2
   if y.1 = 0 then volSave y.2.1 y.2.2 y.2.2.sup else y
  else z
def hearOk (s : ShM) (d n : Nat) (x : Sup) : Bool := decide (x.disk = d ∧ x.gen % 2 = n ∧ ((s.disks.length : Int) = x.members ∨ (s.disks.length : Int) = x.members + 1) ∧ needI x.stripes x.logs ≤ blocksI s.sectors ∧ ¬ (0 ≤ x.spare ∧ (s.disks.length : Int) = x.members))
def heardR (s : ShM) (d n : Nat) : Sup × Int × ShM :=
 let r := devRead s ⟨d, (blocksI s.sectors).toNat, -1⟩ n
 if r.2.1 = 0 then
  if decOK r.1 then (if hearOk s d n (decS r.1) then (decS r.1, 0, r.2.2) else (noSup, 8, r.2.2)) else (noSup, 8, r.2.2)
 else (noSup, r.2.1, r.2.2)
def hearIn (s : ShM) (d n : Nat) : Nat → List Sup × ShM
 | 0 => ([], s)
 | f + 1 =>
  let r := heardR s d n
  let q := hearIn r.2.2 d (n + 1) f
  (if r.2.1 = 0 then r.1 :: q.1 else q.1, q.2)
def hearFrom (s : ShM) (d : Nat) : Nat → List Sup × ShM
 | 0 => ([], s)
 | f + 1 =>
  let r := hearIn s d 0 2
  let q := hearFrom r.2 (d + 1) f
  (r.1 ++ q.1, q.2)
def alikeB (s t : Sup) : Bool := decide (s.gen = t.gen ∧ s.members = t.members ∧ s.stripes = t.stripes ∧ s.logs = t.logs ∧ s.spare = t.spare ∧ s.mark = t.mark ∧ s.cursor = t.cursor)
def tellFrom (s : ShM) (V : VolM) (d : Nat) : Nat → Int × ShM × VolM
 | 0 => (0, s, V)
 | f + 1 =>
  let r := heardR s d (V.sup.gen % 2).toNat
  if r.2.1 = 4 ∨ (r.2.1 = 0 ∧ alikeB r.1 V.sup = true) then tellFrom r.2.2 V (d + 1) f
  else
   let y := volSay r.2.2 V d V.sup
   if y.1 = 0 ∨ y.1 = 4 then tellFrom y.2.1 y.2.2 (d + 1) f else y
def volRedo (s : ShM) (V : VolM) (d : Nat) (r : Rec) : Int × ShM × VolM :=
 if r.stripe < V.sup.stripes ∧ r.place < V.sup.members - 1 then
  let st := r.stripe.toNat
  let p := parN V.m st
  if V.diskOf p st = d then
   let g := volGet s V ((memL V.m st).getD r.place.toNat 0) st
   if g.2.1 = 0 then
    let w := volGet g.2.2 V p st
    if w.2.1 = 0 ∧ w.1 = xorB r.part g.1 then (0, w.2.2, V) else volPut w.2.2 V p st (xorB r.part g.1)
   else if g.2.1 = 3 then (3, g.2.2, V) else (0, g.2.2, V)
  else (0, s, V)
 else (0, s, V)
def recIn (s : ShM) (V : VolM) (i n : Nat) : Nat → Int × ShM × VolM
 | 0 => (0, s, V)
 | f + 1 =>
  let r := logGet s (V.dev i) V.logs n
  if r.2.1 = 4 ∨ r.2.1 = 7 then recIn r.2.2 V i (n + 1) f
  else if r.2.1 = 3 then (3, r.2.2, V)
  else if r.2.1 = 0 then
   let y := volRedo r.2.2 V i r.1
   if y.1 = 0 then recIn y.2.1 (y.2.2.use (i, n)) i (n + 1) f else y
  else recIn r.2.2 (V.use (i, n)) i (n + 1) f
def recFrom (s : ShM) (V : VolM) (i : Nat) : Nat → Int × ShM × VolM
 | 0 => (0, s, V)
 | f + 1 =>
  let r := recIn s V i 0 V.logs
  if r.1 = 0 then recFrom r.2.1 r.2.2 (i + 1) f else r
def volRecover (s : ShM) (V : VolM) : Int × ShM × VolM :=
 let r := recFrom s V 0 V.devs.length
 if r.1 = 0 then volFlush r.2.1 r.2.2 else r
def volOpen (s : ShM) : Int × ShM × VolM :=
 if s.off then (3, s, volBuild s noSup)
 else
  let l := hearFrom s 0 s.disks.length
  if l.1 = [] then (8, l.2, volBuild s noSup)
  else
   let x := l.1.getD (newestTo l.1 l.1.length) noSup
   if buildOk l.2 x then
    let t := tellFrom l.2 (volBuild l.2 x) 0 l.2.disks.length
    if t.1 = 0 then volRecover t.2.1 t.2.2 else t
   else (8, l.2, volBuild s noSup)
def volWhole (s : ShM) (V : VolM) (stripe : Int) : Bool × Int × ShM :=
 if 0 ≤ stripe ∧ stripe < V.sup.stripes then
  let x := volTog s V stripe.toNat (memL V.m stripe.toNat)
  if x.2.1 = 3 then (false, 3, x.2.2) else (x.2.1 == 0 && x.1 == zeroSec, 0, x.2.2)
 else (false, 1, s)
def volLacks (s : ShM) (V : VolM) (member : Nat) : Bool :=
 if (member : Int) = V.sup.spare then (decide (0 < V.sup.mark) && (s.disk V.m).dead) || (decide (V.sup.mark < V.sup.stripes) && (s.disk member).dead)
 else (s.disk member).dead
def volDeads (s : ShM) (V : VolM) : List Nat := (List.range V.m).filter fun k => volLacks s V k
end Go.Proofs.Ytajnlhalanhicaa

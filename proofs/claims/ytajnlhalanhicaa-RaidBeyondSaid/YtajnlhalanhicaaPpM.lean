/-
 A member's log of partial parities, as plain data: a record's head, and what two blocks say. No program in sight.
-/
import Derived.Test.YtajnlhalanhicaaSupM
import Derived.Test.YtajnlhalanhicaaBase
namespace Go.Proofs.Ytajnlhalanhicaa
set_option linter.all false
set_option maxRecDepth 20000
structure Rec where
 stripe : Int
 place : Int
 part : List UInt8
def MayP (r : Rec) : Prop := 0 ≤ r.stripe ∧ r.stripe < 1024 ∧ 0 ≤ r.place ∧ r.place < 15 ∧ r.part.length = 128
instance (r : Rec) : Decidable (MayP r) := by unfold MayP; infer_instance
def mayB (r : Rec) : Bool := decide (MayP r)
def magicP : List UInt8 := [80, 65, 82, 84]
def fieldsP (r : Rec) : List Nat := [r.stripe.toNat, r.place.toNat, crc 0 r.part]
def preP (r : Rec) (k : Nat) : List UInt8 := magicP ++ ((fieldsP r).take k).flatMap fun x => leBytes x 4
def bodyP (r : Rec) : List UInt8 := padL (preP r 3) 124
def hdBytes (r : Rec) : List UInt8 := bodyP r ++ leBytes (crc 0 (bodyP r)) 4
def hdL (r : Rec) : List UInt8 := if mayB r then hdBytes r else []
def hdE (r : Rec) : Int := if mayB r then 0 else 1
theorem preP_len (r : Rec) (k : Nat) (hk : k ≤ 3) : (preP r k).length = 4 + 4 * k := by
 have h : k = 0 ∨ k = 1 ∨ k = 2 ∨ k = 3 := by omega
 rcases h with rfl | rfl | rfl | rfl <;> simp [preP, fieldsP, magicP, leBytes_len]
theorem preP_succ (r : Rec) (k x : Nat) (h : (fieldsP r)[k]? = some x) : preP r (k + 1) = preP r k ++ leBytes x 4 := by
 have hk : k < (fieldsP r).length := (List.getElem?_eq_some_iff.1 h).1
 have he : (fieldsP r)[k] = x := (List.getElem?_eq_some_iff.1 h).2
 unfold preP
 rw [List.take_succ_eq_append_getElem hk, List.flatMap_append, he]
 simp
theorem bodyP_len (r : Rec) : (bodyP r).length = 124 := padL_len _ _ (by rw [preP_len r 3 (by omega)]; omega)
theorem hdBytes_len (r : Rec) : (hdBytes r).length = 128 := by simp [hdBytes, bodyP_len, leBytes_len]
def num4 (bs : List UInt8) (o : Nat) : Nat := leNum ((bs.drop o).take 4)
def recP (head part : List UInt8) : Rec := ⟨(num4 head 4 : Nat), (num4 head 8 : Nat), part⟩
def decOKP (head part : List UInt8) : Bool := mayB (recP head part) && (hdBytes (recP head part) == head)
def noRec : Rec := ⟨0, 0, []⟩
def decR (head part : List UInt8) : Rec := if decOKP head part then recP head part else noRec
def decEP (head part : List UInt8) : Int := if decOKP head part then 0 else 8
theorem decOKP_len {head part : List UInt8} (h : decOKP head part = true) : head.length = 128 := by
 unfold decOKP at h
 simp only [Bool.and_eq_true, beq_iff_eq] at h
 rw [← h.2, hdBytes_len]
theorem decR_bad {h p : List UInt8} (x : decOKP h p = false) : decR h p = noRec := by unfold decR; rw [x]; rfl
theorem decR_ok {h p : List UInt8} (x : decOKP h p = true) : decR h p = recP h p := by unfold decR; rw [x]; rfl
theorem decEP_bad {h p : List UInt8} (x : decOKP h p = false) : decEP h p = 8 := by unfold decEP; rw [x]; rfl
theorem decEP_ok {h p : List UInt8} (x : decOKP h p = true) : decEP h p = 0 := by unfold decEP; rw [x]; rfl
end Go.Proofs.Ytajnlhalanhicaa

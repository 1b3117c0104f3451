/-
 What each disk says of the array, as bytes. No program in sight.
-/
import Derived.Test.YtajnlhalanhicaaBase
namespace Go.Proofs.Ytajnlhalanhicaa
set_option linter.all false
set_option maxRecDepth 20000
structure Sup where
 gen : Int
 members : Int
 disk : Int
 stripes : Int
 logs : Int
 spare : Int
 mark : Int
 cursor : Int
def RightP (s : Sup) : Prop := 1 ≤ s.gen ∧ s.gen ≤ 4611686018427387904 ∧ 3 ≤ s.members ∧ s.members ≤ 16 ∧ 0 ≤ s.disk ∧ s.disk ≤ s.members ∧ 1 ≤ s.stripes ∧ s.stripes ≤ 1024 ∧ 1 ≤ s.logs ∧ s.logs ≤ 8 ∧
 -1 ≤ s.spare ∧ s.spare < s.members ∧ 0 ≤ s.mark ∧ s.mark ≤ s.stripes ∧ (s.spare < 0 → s.mark ≤ 0) ∧ 0 ≤ s.cursor ∧ s.cursor < s.stripes
instance (s : Sup) : Decidable (RightP s) := by unfold RightP; infer_instance
def rightB (s : Sup) : Bool := decide (RightP s)
def spareN (p : Int) : Nat := if p < 0 then 255 else p.toNat
def magicL : List UInt8 := [65, 83, 72, 76]
def fieldsL (s : Sup) : List (Nat × Nat) := [(s.gen.toNat, 8), (s.members.toNat, 1), (s.disk.toNat, 1), (s.logs.toNat, 1), (spareN s.spare, 1), (s.stripes.toNat, 4), (s.mark.toNat, 4), (s.cursor.toNat, 4)]
def preL (s : Sup) (k : Nat) : List UInt8 := magicL ++ ((fieldsL s).take k).flatMap fun x => leBytes x.1 x.2
def padL (bs : List UInt8) (n : Nat) : List UInt8 := bs ++ List.replicate (n - bs.length) 0
def bodyL (s : Sup) : List UInt8 := padL (preL s 8) 124
def supBytes (s : Sup) : List UInt8 := bodyL s ++ leBytes (crc 0 (bodyL s)) 4
def atL : List Nat := [4, 12, 13, 14, 15, 16, 20, 24]
def sizeL : List Nat := [8, 1, 1, 1, 1, 4, 4, 4]
theorem preL_len (s : Sup) (k : Nat) (hk : k < 8) : (preL s k).length = atL.getD k 0 := by
 have h : k = 0 ∨ k = 1 ∨ k = 2 ∨ k = 3 ∨ k = 4 ∨ k = 5 ∨ k = 6 ∨ k = 7 := by omega
 rcases h with rfl | rfl | rfl | rfl | rfl | rfl | rfl | rfl <;> simp [preL, fieldsL, magicL, atL, leBytes_len]
theorem preL_len8 (s : Sup) : (preL s 8).length = 28 := by simp [preL, fieldsL, magicL, leBytes_len]
theorem preL_succ (s : Sup) (k : Nat) (x n : Nat) (h : (fieldsL s)[k]? = some (x, n)) : preL s (k + 1) = preL s k ++ leBytes x n := by
 have hk : k < (fieldsL s).length := (List.getElem?_eq_some_iff.1 h).1
 have he : (fieldsL s)[k] = (x, n) := (List.getElem?_eq_some_iff.1 h).2
 unfold preL
 rw [List.take_succ_eq_append_getElem hk, List.flatMap_append, he]
 simp
theorem padL_len (bs : List UInt8) (n : Nat) (h : bs.length ≤ n) : (padL bs n).length = n := by simp [padL]; omega
theorem bodyL_len (s : Sup) : (bodyL s).length = 124 := padL_len _ _ (by rw [preL_len8]; omega)
theorem supBytes_len (s : Sup) : (supBytes s).length = 128 := by simp [supBytes, bodyL_len, leBytes_len]
theorem padL_put (bs cs : List UInt8) (n : Nat) (h : bs.length + cs.length ≤ n) : (padL bs n).take bs.length ++ cs ++ (padL bs n).drop (bs.length + cs.length) = padL (bs ++ cs) n := by
 unfold padL
 rw [List.take_left, List.drop_append]
 have e1 : bs.drop (bs.length + cs.length) = [] := List.drop_eq_nil_of_le (by omega)
 rw [e1, List.nil_append, List.drop_replicate, List.length_append]
 congr 2
 omega
end Go.Proofs.Ytajnlhalanhicaa

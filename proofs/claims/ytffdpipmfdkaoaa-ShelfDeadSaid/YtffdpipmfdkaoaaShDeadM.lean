/-
  ShelfDead's plain facts.
-/
import Derived.Test.YtffdpipmfdkaoaaShV
import Derived.Test.YtffdpipmfdkaoaaShS
namespace Go.Proofs.Ytffdpipmfdkaoaa
set_option linter.all false

def dd1 (d : Nat) : ShM := ((freshSh 3 8).killR d).2
def dd2 (d : Nat) : ShM := (dd1 d).crash []
def ddo (d : Nat) : Nat := (d + 1) % 3
def dd4 (d : Nat) (b : UInt8) : ShM := ((dd2 d).writeR (ddo d) 7 (secOf b)).2
def dd5 (d : Nat) (b : UInt8) : ShM := ((dd4 d b).readR (ddo d) 7).2.2
theorem dd_cases {d : Nat} (hd : d < 3) : d = 0 ∨ d = 1 ∨ d = 2 := by omega
theorem dd_kill {d : Nat} (hd : d < 3) : ((freshSh 3 8).killR d).1 = 0 := by
  rcases dd_cases hd with rfl | rfl | rfl <;> rfl
theorem dd_read {d : Nat} (hd : d < 3) : (dd2 d).readR d 0 = ([], 4, dd2 d) := by
  rcases dd_cases hd with rfl | rfl | rfl <;> kernel_rfl
set_option maxRecDepth 5000 in
theorem dd_write {d : Nat} (hd : d < 3) (b : UInt8) : ((dd2 d).writeR (ddo d) 7 (secOf b)).1 = 0 := by
  rcases dd_cases hd with rfl | rfl | rfl <;> kernel_rfl
set_option maxRecDepth 5000 in
theorem dd_read2 {d : Nat} (hd : d < 3) (b : UInt8) : (dd4 d b).readR (ddo d) 7 = (secOf b, 0, dd5 d b) := by
  rcases dd_cases hd with rfl | rfl | rfl <;> kernel_rfl
theorem dd_dead {d : Nat} (hd : d < 3) (b : UInt8) : (dd5 d b).deadR d = true := by
  rcases dd_cases hd with rfl | rfl | rfl <;> kernel_rfl
theorem dd_w0 {d : Nat} (hd : d < 3) (b : UInt8) : (dd5 d b).writeR d 0 (secOf 1) = (4, dd5 d b) := by
  rcases dd_cases hd with rfl | rfl | rfl <;> kernel_rfl
theorem dd_flush {d : Nat} (hd : d < 3) (b : UInt8) : (dd5 d b).flushR d = (4, dd5 d b) := by
  rcases dd_cases hd with rfl | rfl | rfl <;> kernel_rfl
theorem dd_waits {d : Nat} (hd : d < 3) (b : UInt8) : (dd5 d b).waitsR d = 0 := by
  rcases dd_cases hd with rfl | rfl | rfl <;> kernel_rfl
theorem dd_wn {d : Nat} (hd : d < 3) (b : UInt8) (n : Int) (hn : ¬ (0 ≤ n ∧ n < 8)) : (dd5 d b).writeR d n (secOf 1) = (1, dd5 d b) := by
  have hs : (dd5 d b).sectors = 8 := by rcases dd_cases hd with rfl | rfl | rfl <;> rfl
  simp only [ShM.writeR, ShM.has, hs]
  rw [if_neg]
  simp only [decide_eq_true_eq]
  omega
theorem dd_r1 {d : Nat} (x : Int) : ((dd2 d).disk x.toNat).waits.length ≤ 1000000000000 := (room_crash (dd1 d) [] 0).mono (by omega) _
theorem dd_r4 {d : Nat} (b : UInt8) (x : Int) : ((dd4 d b).disk x.toNat).waits.length ≤ 1000000000000 := (room_write (room_crash (dd1 d) [] 0) _ _ _).mono (by omega) _
theorem dd_r5 {d : Nat} (b : UInt8) (x : Int) : ((dd5 d b).disk x.toNat).waits.length ≤ 1000000000000 := (room_read (room_write (room_crash (dd1 d) [] 0) _ _ _) _ _).mono (by omega) _
end Go.Proofs.Ytffdpipmfdkaoaa

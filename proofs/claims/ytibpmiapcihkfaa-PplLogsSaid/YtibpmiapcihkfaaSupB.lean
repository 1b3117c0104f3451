/-
  THE WALKS over package super: where the fields stand, and a block.
-/
import Derived.Test.YtibpmiapcihkfaaSupL
import Derived.Test.YtibpmiapcihkfaaBase
import Derived.StillTailTactics
namespace Go.Proofs.Ytibpmiapcihkfaa
set_option linter.all false
open Go.RowKit

theorem and_255 (p : Int) (h1 : -1 ≤ p) (h2 : p < 256) : bits .and .i64 p 255 = (spareN p : Nat) := by
  show IntKind.i64.wrap ((BitVec.ofInt 64 p &&& BitVec.ofInt 64 255).toNat : Int) = _
  rw [BitVec.toNat_and]
  have e1 : (BitVec.ofInt 64 255).toNat = 2 ^ 8 - 1 := by decide
  rw [e1, Nat.and_two_pow_sub_one_eq_mod, BitVec.toNat_ofInt, IntKind.wrap_i64]
  have e2 : ((p % ((2 ^ 64 : Nat) : Int)).toNat % 2 ^ 8 : Nat) = spareN p := by
    have : ((2 ^ 64 : Nat) : Int) = 18446744073709551616 := by decide
    rw [this]
    unfold spareN
    split <;> omega
  rw [e2]
  have : spareN p < 256 := by unfold spareN; split <;> omega
  omega

end Go.Proofs.Ytibpmiapcihkfaa

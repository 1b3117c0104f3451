/-
  THE WALKS over package super: what may be said, and the reference's.
-/
import Derived.Test.YtibpmiapcihkfaaOct
import Derived.Test.YtibpmiapcihkfaaSupM
namespace Go.Proofs.Ytibpmiapcihkfaa
set_option linter.all false
open Go.RowKit

theorem and_one_i64 (a : Int) (_h0 : -9223372036854775808 ≤ a) (_h1 : a ≤ 9223372036854775807) : bits .and .i64 a 1 = a % 2 := by
  show IntKind.i64.wrap ((BitVec.ofInt 64 a &&& BitVec.ofInt 64 1).toNat : Int) = _
  rw [BitVec.toNat_and]
  have e1 : (BitVec.ofInt 64 1).toNat = 2 ^ 1 - 1 := by decide
  rw [e1, Nat.and_two_pow_sub_one_eq_mod, BitVec.toNat_ofInt, IntKind.wrap_i64]
  have e2 : ((a % ((2 ^ 64 : Nat) : Int)).toNat % 2 ^ 1 : Nat) = ((a % 2).toNat : Nat) := by
    have : ((2 ^ 64 : Nat) : Int) = 18446744073709551616 := by decide
    rw [this]; omega
  rw [e2]
  omega
end Go.Proofs.Ytibpmiapcihkfaa

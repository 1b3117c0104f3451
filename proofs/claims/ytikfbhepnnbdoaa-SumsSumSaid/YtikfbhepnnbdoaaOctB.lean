/-
  THE WALKS over package octets, further: the exclusive or, bits.
-/
import Derived.Test.YtikfbhepnnbdoaaProg
import Derived.Test.YtikfbhepnnbdoaaMem
import Derived.Test.YtikfbhepnnbdoaaMath
import Derived.Test.YtikfbhepnnbdoaaOctA
import Derived.StillTailTactics
namespace Go.Proofs.Ytikfbhepnnbdoaa
set_option linter.all false
open Go.RowKit

theorem xor_byte (a b : UInt8) : bits .xor .u8 (a.toNat : Int) (b.toNat : Int) = ((a ^^^ b).toNat : Int) := by
  rw [u8_xor_nat _ _ a.toNat_lt b.toNat_lt, UInt8.toNat_xor]

theorem bit_form (b : UInt8) (i : Nat) : (bits .and .u8 ((b.toNat : Int) / 2 ^ i) 1 == 1) = bitN b.toNat i := by
  have e : (b.toNat : Int) / 2 ^ i = ((b.toNat / 2 ^ i : Nat) : Int) := by simp
  have hl : b.toNat / 2 ^ i < 256 := Nat.lt_of_le_of_lt (Nat.div_le_self _ _) b.toNat_lt
  have h := u8_and_nat (b.toNat / 2 ^ i) 1 hl (by omega)
  rw [Nat.and_one_is_mod] at h
  rw [e]
  have h' : bits .and .u8 ((b.toNat / 2 ^ i : Nat) : Int) 1 = ((b.toNat / 2 ^ i % 2 : Nat) : Int) := h
  rw [h']
  unfold bitN
  rw [Bool.eq_iff_iff, beq_iff_eq, beq_iff_eq]
  omega

theorem pow_u8 (r : Nat) (h : r < 8) : IntKind.u8.wrap ((2 : Int) ^ r) = ((2 ^ r : Nat) : Int) ∧ 2 ^ r < 256 := by
  have hl : 2 ^ r < 256 := Nat.pow_lt_pow_right (n := 8) (by omega) h
  refine ⟨?_, hl⟩
  have e : IntKind.u8.wrap ((2 : Int) ^ r) = ((2 : Int) ^ r) % 256 := by simp [IntKind.wrap, IntKind.bits, IntKind.signed]
  have e2 : (2 : Int) ^ r = ((2 ^ r : Nat) : Int) := by simp
  rw [e, e2]
  generalize 2 ^ r = t at *
  omega
theorem clr_byte (b : UInt8) (r : Nat) (h : r < 8) : bits .andNot .u8 (b.toNat : Int) (IntKind.u8.wrap ((2 : Int) ^ r)) = ((UInt8.ofNat (clrN b.toNat r)).toNat : Int) := by
  obtain ⟨e, hl⟩ := pow_u8 r h
  rw [e, u8_andNot_nat _ _ b.toNat_lt hl]
  have := clrN_lt b.toNat r b.toNat_lt
  unfold clrN at this ⊢
  rw [UInt8.toNat_ofNat_of_lt' this]
theorem set_byte (b : UInt8) (r : Nat) (h : r < 8) : bits .or .u8 ((UInt8.ofNat (clrN b.toNat r)).toNat : Int) (IntKind.u8.wrap ((2 : Int) ^ r)) = ((setB b r true).toNat : Int) := by
  obtain ⟨e, hl⟩ := pow_u8 r h
  have h2 := clrN_lt b.toNat r b.toNat_lt
  rw [e, u8_or_nat _ _ (UInt8.toNat_lt _) hl, UInt8.toNat_ofNat_of_lt' h2]
  have h3 := setN_lt b.toNat r true b.toNat_lt h
  unfold setB
  rw [UInt8.toNat_ofNat_of_lt' h3]
  simp [setN]

end Go.Proofs.Ytikfbhepnnbdoaa

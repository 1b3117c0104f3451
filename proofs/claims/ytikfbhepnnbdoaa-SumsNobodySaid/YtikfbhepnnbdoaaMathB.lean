/-
  Bits, further: what is set is set; the first free one. No program in sight.
-/
import Derived.Test.YtikfbhepnnbdoaaMath
namespace Go.Proofs.Ytikfbhepnnbdoaa
set_option linter.all false

theorem setN_bits : ∀ b : Fin 256, ∀ r : Fin 8, ∀ k : Fin 8, bitN (setN b.val r.val true) k.val = (bitN b.val k.val || k.val == r.val) := by decide +kernel
theorem hasB_with (bs : List UInt8) (i : Nat) (hi : i / 8 < bs.length) (k : Nat) : hasB (withB bs i true) k = (hasB bs k || k == i) := by
  unfold hasB withB
  by_cases h : k / 8 = i / 8
  · have e1 : (bs.set (i / 8) (setB (bs.getD (i / 8) 0) (i % 8) true)).getD (k / 8) 0 = setB (bs.getD (i / 8) 0) (i % 8) true := by
      rw [h]; simp [List.getD, hi]
    rw [e1, h]
    have hb := (bs.getD (i / 8) 0).toNat_lt
    have h1 := setN_lt (bs.getD (i / 8) 0).toNat (i % 8) true hb (by omega)
    have e2 : (setB (bs.getD (i / 8) 0) (i % 8) true).toNat = setN (bs.getD (i / 8) 0).toNat (i % 8) true := by
      unfold setB; rw [UInt8.toNat_ofNat_of_lt' h1]
    rw [e2]
    have h2 := setN_bits ⟨(bs.getD (i / 8) 0).toNat, hb⟩ ⟨i % 8, by omega⟩ ⟨k % 8, by omega⟩
    simp only at h2
    rw [h2]
    congr 1
    rw [Bool.eq_iff_iff, beq_iff_eq, beq_iff_eq]
    omega
  · have e1 : (bs.set (i / 8) (setB (bs.getD (i / 8) 0) (i % 8) true)).getD (k / 8) 0 = bs.getD (k / 8) 0 := by
      simp only [List.getD]
      rw [List.getElem?_set_ne (fun e => h e.symm)]
    rw [e1]
    have e2 : (k == i) = false := by rw [beq_eq_false_iff_ne]; intro e; subst e; exact h rfl
    rw [e2, Bool.or_false]
theorem withB_len (bs : List UInt8) (i : Nat) (on : Bool) : (withB bs i on).length = bs.length := by simp [withB]

theorem freeFrom_some (f : Nat → Bool) : ∀ (k s i : Nat), freeFrom f s k = some i → s ≤ i ∧ i < s + k ∧ f i = false ∧ ∀ j, s ≤ j → j < i → f j = true
  | 0, s, i, h => by cases h
  | k + 1, s, i, h => by
    unfold freeFrom at h
    split at h
    · rename_i hs
      obtain ⟨h1, h2, h3, h4⟩ := freeFrom_some f k (s + 1) i h
      refine ⟨by omega, by omega, h3, fun j hj1 hj2 => ?_⟩
      by_cases e : j = s
      · subst e; exact hs
      · exact h4 j (by omega) hj2
    · rename_i hs
      injection h with h
      subst h
      exact ⟨Nat.le_refl _, by omega, by simpa using hs, fun j h1 h2 => by omega⟩
theorem freeFrom_none (f : Nat → Bool) : ∀ (k s : Nat), freeFrom f s k = none → ∀ j, s ≤ j → j < s + k → f j = true
  | 0, s, _, j, h1, h2 => by omega
  | k + 1, s, h, j, h1, h2 => by
    unfold freeFrom at h
    split at h
    · rename_i hs
      by_cases e : j = s
      · subst e; exact hs
      · exact freeFrom_none f k (s + 1) h j (by omega) (by omega)
    · cases h
theorem countTo_with (f g : Nat → Bool) (i : Nat) (hg : ∀ k, g k = (f k || k == i)) (hf : f i = false) : ∀ k, countTo g k = countTo f k + (if i < k then 1 else 0)
  | 0 => rfl
  | k + 1 => by
    have ih := countTo_with f g i hg hf k
    unfold countTo
    rw [ih, hg k]
    by_cases e : k = i
    · subst e
      simp [hf]
    · have e2 : (k == i) = false := by rw [beq_eq_false_iff_ne]; exact e
      rw [e2, Bool.or_false]
      by_cases h1 : i < k
      · rw [if_pos h1, if_pos (by omega : i < k + 1)]; omega
      · rw [if_neg h1, if_neg (by omega : ¬ i < k + 1)]; omega

/-! the sum bit by bit is the sum nibble by nibble -/
def crcBit (c : Nat) : Nat := if c % 2 = 1 then (c / 2) ^^^ 2197175160 else c / 2
def crcBits : Nat → Nat → Nat
  | 0, c => c
  | k + 1, c => crcBit (crcBits k c)
theorem crcBit_lt (c : Nat) (h : c < 4294967296) : crcBit c < 4294967296 := by
  unfold crcBit
  split
  · exact xor_lt32 (by omega) (by omega)
  · omega
theorem crcBits_lt : ∀ (k c : Nat), c < 4294967296 → crcBits k c < 4294967296
  | 0, _, h => h
  | k + 1, c, h => crcBit_lt _ (crcBits_lt k c h)
theorem crcBits_add : ∀ (j k c : Nat), crcBits (j + k) c = crcBits j (crcBits k c)
  | 0, k, c => by rw [Nat.zero_add]; rfl
  | j + 1, k, c => by rw [Nat.add_right_comm]; simp only [crcBits]; rw [crcBits_add j k c]
theorem xor_left (a b c : Nat) : a ^^^ (b ^^^ c) = b ^^^ (a ^^^ c) := by rw [← Nat.xor_assoc, Nat.xor_comm a b, Nat.xor_assoc]
theorem crcBit_xor (a b : Nat) : crcBit (a ^^^ b) = crcBit a ^^^ crcBit b := by
  have hm : (a ^^^ b) % 2 = (a % 2) ^^^ (b % 2) := by
    have := Nat.xor_mod_two_pow (a := a) (b := b) (n := 1)
    simpa using this
  have hd : (a ^^^ b) / 2 = (a / 2) ^^^ (b / 2) := by
    have := Nat.xor_div_two_pow (a := a) (b := b) (n := 1)
    simpa using this
  unfold crcBit
  rw [hm, hd]
  rcases Nat.mod_two_eq_zero_or_one a with ha | ha <;> rcases Nat.mod_two_eq_zero_or_one b with hb | hb <;> rw [ha, hb]
  · simp
  · simp [Nat.xor_assoc]
  · simp
    rw [Nat.xor_assoc (a / 2), Nat.xor_assoc (a / 2), Nat.xor_comm (b / 2)]
  · simp
    rw [Nat.xor_assoc (a / 2), xor_left 2197175160, Nat.xor_self, Nat.xor_zero]
theorem crcBits_xor : ∀ (k a b : Nat), crcBits k (a ^^^ b) = crcBits k a ^^^ crcBits k b
  | 0, _, _ => rfl
  | k + 1, a, b => by simp only [crcBits]; rw [crcBits_xor k a b, crcBit_xor]
theorem crcBits_low : ∀ l, l < 16 → crcBits 4 l = crcT.getD l 0 := by decide
theorem crcBits_high (h : Nat) : crcBits 4 (16 * h) = h := by
  have e : ∀ m, crcBit (2 * m) = m := by intro m; unfold crcBit; rw [if_neg (by omega)]; omega
  simp only [crcBits]
  have e1 : 16 * h = 2 * (2 * (2 * (2 * h))) := by omega
  rw [e1, e, e, e, e]
theorem crcBits_4 (y : Nat) : crcBits 4 y = nib y := by
  have e : y = (16 * (y / 16)) ^^^ (y % 16) := by
    have h := Nat.two_pow_add_eq_or_of_lt (i := 4) (b := y % 16) (by omega) (y / 16)
    have h2 : (16 * (y / 16)) ^^^ (y % 16) = (16 * (y / 16)) ||| (y % 16) := by
      apply Nat.eq_of_testBit_eq
      intro i
      rw [Nat.testBit_xor, Nat.testBit_or]
      by_cases hi : i < 4
      · have : (16 * (y / 16)).testBit i = false := by
          have e2 : 16 * (y / 16) = 2 ^ 4 * (y / 16) := by omega
          rw [e2, Nat.testBit_two_pow_mul]
          simp; omega
        rw [this]; simp
      · have : (y % 16).testBit i = false := Nat.testBit_lt_two_pow (Nat.lt_of_lt_of_le (by omega : y % 16 < 2 ^ 4) (Nat.pow_le_pow_right (by omega) (by omega)))
        rw [this]; simp
    rw [h2, show (16 : Nat) = 2 ^ 4 from rfl] 
    rw [show (2 : Nat) ^ 4 = 16 from rfl] at *
    rw [← h]; omega
  conv => lhs; rw [e]
  rw [crcBits_xor, crcBits_high, crcBits_low _ (by omega)]
  unfold nib
  rw [Nat.xor_comm]
theorem crcBits_8 (y : Nat) (_h : y < 4294967296) : crcBits 8 y = nib (nib y) := by
  rw [show (8 : Nat) = 4 + 4 from rfl, crcBits_add, crcBits_4, crcBits_4]
end Go.Proofs.Ytikfbhepnnbdoaa

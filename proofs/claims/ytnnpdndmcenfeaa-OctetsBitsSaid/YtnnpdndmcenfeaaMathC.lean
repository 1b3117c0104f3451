/-
  Bits one by one, as the reference has them. No program in sight.
-/
import Derived.Test.YtnnpdndmcenfeaaMathB
import Derived.WalkKit
namespace Go.Proofs.Ytnnpdndmcenfeaa

def bitsP (bs : List UInt8) (k : Nat) : List Value := (List.range k).map fun i => Value.bool (hasB bs i)
theorem bitsP_len (bs : List UInt8) (k : Nat) : (bitsP bs k).length = k := by simp [bitsP]
theorem bitsP_snoc (bs : List UInt8) (k : Nat) : bitsP bs (k + 1) = bitsP bs k ++ [.bool (hasB bs k)] := by simp [bitsP, List.range_succ]
theorem bitsP_get (bs : List UInt8) (k i : Nat) (h : i < (bitsP bs k).length) : (bitsP bs k)[i] = .bool (hasB bs i) := by simp [bitsP]
theorem bit_step (bs : List UInt8) (k j : Nat) (hk : k < bs.length) (hj : j < 8) : (((bs[k].toNat / 2 ^ j : Nat) : Int) % 2 == 1) = hasB bs (8 * k + j) := by
  have e1 : (8 * k + j) / 8 = k := by omega
  have e2 : (8 * k + j) % 8 = j := by omega
  unfold hasB bitN
  rw [e1, e2]
  have e3 : bs.getD k 0 = bs[k] := by simp [List.getD, List.getElem?_eq_getElem hk]
  rw [e3]
  rw [Bool.eq_iff_iff, beq_iff_eq, beq_iff_eq]
  omega

def accN (f : Nat → Bool) : Nat → Nat
  | 0 => 0
  | j + 1 => 2 * accN f j + (if f (7 - j) then 1 else 0)
theorem accN_lt (f : Nat → Bool) : ∀ j, accN f j < 2 ^ j
  | 0 => by simp [accN]
  | j + 1 => by
    have := accN_lt f j
    simp only [accN, Nat.pow_succ]
    split <;> omega
theorem accN_congr {f g : Nat → Bool} (h : ∀ m, m < 8 → f m = g m) : ∀ j, j ≤ 8 → accN f j = accN g j
  | 0, _ => rfl
  | j + 1, hj => by simp only [accN]; rw [accN_congr h j (by omega), h (7 - j) (by omega)]
theorem accN_set : ∀ b : Fin 256, ∀ r : Fin 8, ∀ on : Bool, accN (fun m => if m == r.val then on else bitN b.val m) 8 = setN b.val r.val on := by decide +kernel
theorem accN_same : ∀ b : Fin 256, accN (fun m => bitN b.val m) 8 = b.val := by decide +kernel

/-- the bits of which one is set anew -/
def bitAt (bs : List UInt8) (i : Nat) (on : Bool) (j : Nat) : Bool := if j == i then on else hasB bs j
theorem bitsP_set (bs : List UInt8) (n i : Nat) (on : Bool) (j : Nat) (hj : j < ((bitsP bs n).set i (.bool on)).length) : ((bitsP bs n).set i (.bool on))[j] = .bool (bitAt bs i on j) := by
  rw [List.getElem_set]
  unfold bitAt
  by_cases h : i = j
  · subst h; simp
  · rw [if_neg h]
    have e : (j == i) = false := by rw [beq_eq_false_iff_ne]; exact fun e => h e.symm
    rw [e, bitsP_get]
    rfl
theorem with_byte (bs : List UInt8) (i : Nat) (on : Bool) (k : Nat) (hk : k < bs.length) : (withB bs i on)[k]'(by rw [withB_len]; exact hk) = UInt8.ofNat (accN (fun m => bitAt bs i on (8 * k + m)) 8) := by
  have hb := bs[k].toNat_lt
  have hf : ∀ m, m < 8 → hasB bs (8 * k + m) = bitN bs[k].toNat m := by
    intro m hm
    unfold hasB
    have e1 : (8 * k + m) / 8 = k := by omega
    have e2 : (8 * k + m) % 8 = m := by omega
    rw [e1, e2]
    simp [List.getD, List.getElem?_eq_getElem hk]
  unfold withB
  rw [List.getElem_set]
  by_cases h : i / 8 = k
  · rw [if_pos h]
    have hc : accN (fun m => bitAt bs i on (8 * k + m)) 8 = accN (fun m => if m == i % 8 then on else bitN bs[k].toNat m) 8 := by
      refine accN_congr (fun m hm => ?_) 8 (Nat.le_refl _)
      unfold bitAt
      by_cases h2 : m = i % 8
      · have e1 : (8 * k + m == i) = true := by rw [beq_iff_eq]; omega
        have e2 : (m == i % 8) = true := by rw [beq_iff_eq]; exact h2
        rw [e1, e2]; rfl
      · have e1 : (8 * k + m == i) = false := by rw [beq_eq_false_iff_ne]; omega
        have e2 : (m == i % 8) = false := by rw [beq_eq_false_iff_ne]; exact h2
        rw [e1, e2, hf m hm]
    rw [hc]
    have := accN_set ⟨bs[k].toNat, hb⟩ ⟨i % 8, by omega⟩ on
    simp only at this
    rw [this, h]
    have e3 : bs.getD k 0 = bs[k] := by simp [List.getD, List.getElem?_eq_getElem hk]
    rw [e3]; rfl
  · rw [if_neg h]
    have hc : accN (fun m => bitAt bs i on (8 * k + m)) 8 = accN (fun m => bitN bs[k].toNat m) 8 := by
      refine accN_congr (fun m hm => ?_) 8 (Nat.le_refl _)
      unfold bitAt
      have e1 : (8 * k + m == i) = false := by rw [beq_eq_false_iff_ne]; omega
      rw [e1, hf m hm]; rfl
    rw [hc]
    have := accN_same ⟨bs[k].toNat, hb⟩
    simp only at this
    rw [this]
    exact (UInt8.ofNat_toNat).symm
end Go.Proofs.Ytnnpdndmcenfeaa

/-
  Bits, further: what is set is set; the first free one. No program in sight.
-/
import Derived.Test.YtnnpdndmcenfeaaMath
namespace Go.Proofs.Ytnnpdndmcenfeaa

theorem setN_bits : ∀ b : Fin 256, ∀ r : Fin 8, ∀ k : Fin 8, bitN (setN b.val r.val true) k.val = (bitN b.val k.val || k.val == r.val) := by decide +kernel
theorem hasB_with (bs : List UInt8) (i : Nat) (hi : i / 8 < bs.length) (k : Nat) : hasB (withB bs i true) k = (hasB bs k || k == i) := by
  unfold hasB withB
  by_cases h : k / 8 = i / 8
  · have e1 : (bs.set (i / 8) (setB (bs.getD (i / 8) 0) (i % 8) true)).getD (k / 8) 0 = setB (bs.getD (i / 8) 0) (i % 8) true := by
      rw [h]; simp [List.getD, hi]
    rw [e1, h]
    have hb := (bs.getD (i / 8) 0).toNat_lt
    have h1 := setN_lt (bs.getD (i / 8) 0).toNat (i % 8) true hb (by omega)
    have e2 : (setB (bs.getD (i / 8) 0) (i % 8) true).toNat = setN (bs.getD (i / 8) 0).toNat (i % 8) true := by
      unfold setB; rw [UInt8.toNat_ofNat_of_lt' h1]
    rw [e2]
    have h2 := setN_bits ⟨(bs.getD (i / 8) 0).toNat, hb⟩ ⟨i % 8, by omega⟩ ⟨k % 8, by omega⟩
    simp only at h2
    rw [h2]
    congr 1
    rw [Bool.eq_iff_iff, beq_iff_eq, beq_iff_eq]
    omega
  · have e1 : (bs.set (i / 8) (setB (bs.getD (i / 8) 0) (i % 8) true)).getD (k / 8) 0 = bs.getD (k / 8) 0 := by
      simp only [List.getD]
      rw [List.getElem?_set_ne (fun e => h e.symm)]
    rw [e1]
    have e2 : (k == i) = false := by rw [beq_eq_false_iff_ne]; intro e; subst e; exact h rfl
    rw [e2, Bool.or_false]
theorem withB_len (bs : List UInt8) (i : Nat) (on : Bool) : (withB bs i on).length = bs.length := by simp [withB]

theorem freeFrom_some (f : Nat → Bool) : ∀ (k s i : Nat), freeFrom f s k = some i → s ≤ i ∧ i < s + k ∧ f i = false ∧ ∀ j, s ≤ j → j < i → f j = true
  | 0, s, i, h => by cases h
  | k + 1, s, i, h => by
    unfold freeFrom at h
    split at h
    · rename_i hs
      obtain ⟨h1, h2, h3, h4⟩ := freeFrom_some f k (s + 1) i h
      refine ⟨by omega, by omega, h3, fun j hj1 hj2 => ?_⟩
      by_cases e : j = s
      · subst e; exact hs
      · exact h4 j (by omega) hj2
    · rename_i hs
      injection h with h
      subst h
      exact ⟨Nat.le_refl _, by omega, by simpa using hs, fun j h1 h2 => by omega⟩
theorem freeFrom_none (f : Nat → Bool) : ∀ (k s : Nat), freeFrom f s k = none → ∀ j, s ≤ j → j < s + k → f j = true
  | 0, s, _, j, h1, h2 => by omega
  | k + 1, s, h, j, h1, h2 => by
    unfold freeFrom at h
    split at h
    · rename_i hs
      by_cases e : j = s
      · subst e; exact hs
      · exact freeFrom_none f k (s + 1) h j (by omega) (by omega)
    · cases h
theorem countTo_with (f g : Nat → Bool) (i : Nat) (hg : ∀ k, g k = (f k || k == i)) (hf : f i = false) : ∀ k, countTo g k = countTo f k + (if i < k then 1 else 0)
  | 0 => rfl
  | k + 1 => by
    have ih := countTo_with f g i hg hf k
    unfold countTo
    rw [ih, hg k]
    by_cases e : k = i
    · subst e
      simp [hf]
    · have e2 : (k == i) = false := by rw [beq_eq_false_iff_ne]; exact e
      rw [e2, Bool.or_false]
      by_cases h1 : i < k
      · rw [if_pos h1, if_pos (by omega : i < k + 1)]; omega
      · rw [if_neg h1, if_neg (by omega : ¬ i < k + 1)]; omega
end Go.Proofs.Ytnnpdndmcenfeaa

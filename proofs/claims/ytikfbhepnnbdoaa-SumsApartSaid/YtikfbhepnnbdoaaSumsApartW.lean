/-
  THE WALK of SumsApart.
-/
import Derived.Test.YtikfbhepnnbdoaaSuL
namespace Go.Proofs.Ytikfbhepnnbdoaa
set_option linter.all false
open Go.RowKit

theorem place_apart {a b : Nat} (ha : a < 4096) (hb : b < 4096) : (dataAt a = dataAt b ↔ a = b) ∧ dataAt a ≠ sumAt b ∧ sumAt a ≠ dataAt b ∧ sumAt a ≤ dataAt a ∧ dataAt a ≤ sumAt a + 16 ∧ dataAt a ≤ 10000 ∧ dataAt b ≤ 10000 ∧ sumAt b ≤ 10000 := by
  unfold dataAt sumAt
  omega
set_option maxRecDepth 100000 in
set_option maxHeartbeats 1000000 in
theorem sumsApart_walk (a b : Int) (w : World) (_h1 : -9223372036854775808 ≤ a) (_h2 : a ≤ 9223372036854775807) (_h3 : -9223372036854775808 ≤ b) (_h4 : b ≤ 9223372036854775807) :
    Calls Try.prog 4 #[.int .i64 a, .int .i64 b] w fun e w' => e = .returned (.bool true) ∧ Below w.heap.size w w' := by
  have hbad : Hid (∀ (x : Int), (x < 0 ∨ 4096 ≤ x) → ∀ W, Calls Try.prog 11 #[.int .i64 x] W fun e w' => e = .returned (.tuple #[.int .i64 0, .int .i64 0, .int .i64 1]) ∧ W = w') := Lib.hid fun x hx W => su_place_bad x W hx
  have hgood : Hid (∀ (x : Nat), x < 4096 → ∀ W, Calls Try.prog 11 #[.int .i64 x] W fun e w' => e = .returned (.tuple #[.int .i64 (sumAt x : Nat), .int .i64 (dataAt x : Nat), .int .i64 0]) ∧ W = w') := Lib.hid fun x hx W => su_place x W hx
  have hpl : Hid (∀ (x : Int), ∃ p q z : Int, (z = 0 ∨ z = 1) ∧ ∀ W, Calls Try.prog 11 #[.int .i64 x] W fun e w' => e = .returned (.tuple #[.int .i64 p, .int .i64 q, .int .i64 z]) ∧ W = w') := Lib.hid fun x => by
    by_cases hx : x < 0 ∨ 4096 ≤ x
    · exact ⟨0, 0, 1, .inr rfl, hbad.out x hx⟩
    · obtain ⟨k, rfl⟩ := Int.eq_ofNat_of_zero_le (by omega : 0 ≤ x)
      exact ⟨_, _, 0, .inl rfl, hgood.out k (by omega)⟩
  by_cases ha : a < 0 ∨ 4096 ≤ a
  · have h1 := hbad.out a ha
    obtain ⟨p, q, z, _, h2⟩ := hpl.out b
    replace h1 := Lib.hid h1
    replace h2 := Lib.hid h2
    replace ha := Lib.hid ha
    go_enter Try.func4, Try.ntmps4
    go_wp2_with fail
    refine (lives06 w).mono ?_
    rintro e w1 ⟨rfl, hb1⟩
    go_wp2_with fail
    refine (h1.out w1).mono ?_
    rintro e w' ⟨rfl, rfl⟩
    go_wp2_with fail
    refine (h2.out w1).mono ?_
    rintro e w' ⟨rfl, rfl⟩
    go_wp2
    go_ret
    exact ⟨rfl, hb1⟩
  · obtain ⟨a, rfl⟩ := Int.eq_ofNat_of_zero_le (by omega : 0 ≤ a)
    have h1 := Lib.hid (hgood.out a (by omega))
    by_cases hb : b < 0 ∨ 4096 ≤ b
    · have h2 := Lib.hid (hbad.out b hb)
      replace ha := Lib.hid ha
      replace hb := Lib.hid hb
      go_enter Try.func4, Try.ntmps4
      go_wp2_with fail
      refine (lives06 w).mono ?_
      rintro e w1 ⟨rfl, hb1⟩
      go_wp2_with fail
      refine (h1.out w1).mono ?_
      rintro e w' ⟨rfl, rfl⟩
      go_wp2_with fail
      refine (h2.out w1).mono ?_
      rintro e w' ⟨rfl, rfl⟩
      go_wp2
      go_ret
      exact ⟨rfl, hb1⟩
    · obtain ⟨b, rfl⟩ := Int.eq_ofNat_of_zero_le (by omega : 0 ≤ b)
      have h2 := Lib.hid (hgood.out b (by omega))
      obtain ⟨k1, k2, k3, k4, k5, k6, k7, k8⟩ := place_apart (by omega : a < 4096) (by omega : b < 4096)
      have e3 : (((dataAt a : Nat) : Int) != ((sumAt b : Nat) : Int)) = true := by rw [bne_iff_ne]; omega
      have e4 : (((sumAt a : Nat) : Int) != ((dataAt b : Nat) : Int)) = true := by rw [bne_iff_ne]; omega
      generalize dataAt a = q at *
      generalize dataAt b = s at *
      generalize sumAt a = p at *
      generalize sumAt b = r at *
      have hab : (((q : Int) == (s : Int)) = true ∧ ((a : Int) == (b : Int)) = true) ∨ (((q : Int) == (s : Int)) = false ∧ ((a : Int) == (b : Int)) = false) := by
        by_cases e : a = b
        · have e' := k1.2 e
          exact .inl ⟨by rw [e']; simp, by rw [e]; simp⟩
        · have e' : q ≠ s := fun h => e (k1.1 h)
          exact .inr ⟨beq_eq_false_iff_ne.2 (by omega), beq_eq_false_iff_ne.2 (by omega)⟩
      have k9 : (q : Int) - (p : Int) ≤ 16 := by omega
      have k10 : 0 ≤ (q : Int) - (p : Int) := by omega
      clear k1 k2 k3 hbad hgood hpl
      rcases hab with ⟨e1, e2⟩ | ⟨e1, e2⟩
      all_goals
        go_enter Try.func4, Try.ntmps4
        go_wp2_with fail
        refine (lives06 w).mono ?_
        rintro e w1 ⟨rfl, hb1⟩
        go_wp2_with fail
        refine (h1.out w1).mono ?_
        rintro e w' ⟨rfl, rfl⟩
        go_wp2_with fail
        refine (h2.out w1).mono ?_
        rintro e w' ⟨rfl, rfl⟩
        go_wp2
        go_ret
        exact ⟨by (simp <;> omega), hb1⟩
end Go.Proofs.Ytikfbhepnnbdoaa

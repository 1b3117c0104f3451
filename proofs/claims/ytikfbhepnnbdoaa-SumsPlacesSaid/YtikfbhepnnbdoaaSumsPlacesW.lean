/-
  THE WALK of SumsPlaces.
-/
import Derived.Test.YtikfbhepnnbdoaaSuL
import Derived.Test.YtikfbhepnnbdoaaSuR
namespace Go.Proofs.Ytikfbhepnnbdoaa
set_option linter.all false
open Go.RowKit

set_option maxRecDepth 100000 in
set_option maxHeartbeats 1000000 in
theorem sumsPlaces_walk (sectors b : Int) (w : World) (_h1 : -9223372036854775808 ≤ sectors) (_h2 : sectors ≤ 9223372036854775807) (_h3 : -9223372036854775808 ≤ b) (_h4 : b ≤ 9223372036854775807) :
    Calls Try.prog 3 #[.int .i64 sectors, .int .i64 b] w fun e w' => e = .returned (.bool true) ∧ Below w.heap.size w w' := by
  have ht : -100000 < sectors.tmod 100000 ∧ sectors.tmod 100000 < 100000 := by
    have := Int.tmod_lt_of_pos sectors (b := 100000) (by omega)
    have := Int.lt_tmod_of_pos sectors (b := 100000) (by omega)
    omega
  obtain ⟨t1, t2⟩ := ht
  have hpl : ∃ x y z : Int, (∀ W, Calls Try.prog 11 #[.int .i64 b] W fun e w' => e = .returned (.tuple #[.int .i64 x, .int .i64 y, .int .i64 z]) ∧ W = w') ∧ ∀ W, Calls Try.prog 12 #[.int .i64 b] W fun e w' => e = .returned (.tuple #[.int .i64 x, .int .i64 y, .int .i64 z]) ∧ W = w' := by
    by_cases hb : b < 0 ∨ 4096 ≤ b
    · exact ⟨0, 0, 1, fun W => su_place_bad b W hb, fun W => rsu_place_bad b W hb⟩
    · obtain ⟨k, rfl⟩ := Int.eq_ofNat_of_zero_le (by omega : 0 ≤ b)
      exact ⟨_, _, _, fun W => su_place k W (by omega), fun W => rsu_place k W (by omega)⟩
  obtain ⟨x, y, z, hp1, hp2⟩ := hpl
  replace hp1 := Lib.hid hp1
  replace hp2 := Lib.hid hp2
  have hb1 : Hid (∀ W, _) := Lib.hid fun W => su_blocks (sectors.tmod 100000) W (by omega) (by omega)
  have hb2 : Hid (∀ W, _) := Lib.hid fun W => rsu_blocks (sectors.tmod 100000) W (by omega)
  go_enter Try.func3, Try.ntmps3
  go_wp2_with fail
  refine (hp1.out w).mono ?_
  rintro e w' ⟨rfl, rfl⟩
  go_wp2_with fail
  refine (hp2.out w).mono ?_
  rintro e w' ⟨rfl, rfl⟩
  go_wp2_with fail
  refine (lives06 w).mono ?_
  rintro e w1 ⟨rfl, hb⟩
  go_wp2_with fail
  refine (hb1.out w1).mono ?_
  rintro e w' ⟨rfl, rfl⟩
  go_wp2_with fail
  refine (hb2.out w1).mono ?_
  rintro e w' ⟨rfl, rfl⟩
  go_wp2
  go_ret
  exact ⟨by simp, hb⟩
end Go.Proofs.Ytikfbhepnnbdoaa

/-
  THE WALK of SuperSlots: a generation and the next one stand in unlike blocks.
-/
import Derived.Test.YtnnpdndmcenfeaaSupLv
namespace Go.Proofs.Ytnnpdndmcenfeaa
open Go.RowKit

set_option maxRecDepth 100000 in
set_option maxHeartbeats 1000000 in
theorem superSlots_walk (a : Int) (W : World) (lo : -9223372036854775808 ≤ a) (hi : a ≤ 9223372036854775807) :
    Calls Try.prog 16 #[.int .i64 a] W fun e W' => e = .returned (.bool true) ∧ Below W.heap.size W W' := by
  by_cases h : 4611686018427387904 ≤ a
  · go_enter Try.func16, Try.ntmps16
    go_wp2_with fail
    refine (lives04 _).mono ?_
    rintro e w1 ⟨rfl, hb1⟩
    go_wp2_with fail
    go_ret
    exact ⟨rfl, hb1⟩
  · have h1 := and_one_i64 a lo hi
    have h2 := and_one_i64 (a + 1) (by omega) (by omega)
    have hw : IntKind.i64.wrap (a + 1) = a + 1 := by rw [IntKind.wrap_i64]; omega
    have hr : 0 ≤ a % 2 ∧ a % 2 ≤ 1 := by omega
    have hne : (a % 2 != (a + 1) % 2) = true := by rw [bne_iff_ne]; omega
    obtain ⟨r, hr0⟩ : ∃ r, r = a % 2 := ⟨_, rfl⟩
    obtain ⟨r', hr1⟩ : ∃ r, r = (a + 1) % 2 := ⟨_, rfl⟩
    rw [← hr0] at h1 hr hne
    rw [← hr1] at h2 hne
    clear hr0 hr1
    obtain ⟨g1, g2⟩ := hr
    go_enter Try.func16, Try.ntmps16
    go_wp2_with fail
    refine (lives04 _).mono ?_
    rintro e w1 ⟨rfl, hb1⟩
    go_wp2_with fail
    refine (slot_any a _).mono ?_
    rintro e w2 ⟨rfl, rfl⟩
    rw [h1]
    go_wp2_with fail
    refine (slot_any (a + 1) _).mono ?_
    rintro e w2 ⟨rfl, rfl⟩
    rw [h2]
    go_wp2_with fail
    refine (slot_any a _).mono ?_
    rintro e w2 ⟨rfl, rfl⟩
    rw [h1]
    go_wp2_with fail
    refine (slot_any a _).mono ?_
    rintro e w2 ⟨rfl, rfl⟩
    rw [h1]
    go_wp2_with fail
    go_ret
    exact ⟨rfl, hb1⟩
end Go.Proofs.Ytnnpdndmcenfeaa

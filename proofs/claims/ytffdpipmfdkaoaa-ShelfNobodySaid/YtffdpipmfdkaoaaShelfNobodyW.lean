/-
  THE WALK of ShelfNobody.
-/
import Derived.Test.YtffdpipmfdkaoaaShL
import Derived.Test.YtffdpipmfdkaoaaShOp
namespace Go.Proofs.Ytffdpipmfdkaoaa
set_option linter.all false
open Go.RowKit

set_option maxRecDepth 10000 in
set_option maxHeartbeats 4000000 in
theorem shelfNobody_walk (o : OpM) (disks sectors : Int) (w : World) (_ : KeepL w w.heap.size o.ka o.keep) (_ : -9223372036854775808 ≤ disks) (_ : disks ≤ 9223372036854775807) (_ : -9223372036854775808 ≤ sectors) (_ : sectors ≤ 9223372036854775807) :
    Calls Try.prog 9 #[.agg (opCells o).toArray, .int .i64 disks, .int .i64 sectors] w fun e w' => e = .returned (.bool true) ∧ Below w.heap.size w w' := by
  obtain ⟨kind, dd, nn, at_, bx, keep, ka, kc⟩ := o
  unfold opCells
  dsimp only
  go_enter Try.func9, Try.ntmps9
  go_wp2_with fail
  refine (sh_read_nil _ dd nn).mono ?_
  rintro e w2 ⟨rfl, hb2⟩
  have c1 : w2.cell? ⟨w.heap.size, 1, none⟩ = some (.int .i64 dd) := by rw [hb2.cell (p := ⟨w.heap.size, 1, none⟩) (by simp)]; go_simp
  have c2 : w2.cell? ⟨w.heap.size, 2, none⟩ = some (.int .i64 nn) := by rw [hb2.cell (p := ⟨w.heap.size, 2, none⟩) (by simp)]; go_simp
  have c3 : w2.cell? ⟨w.heap.size, 3, none⟩ = some (.int .i64 at_) := by rw [hb2.cell (p := ⟨w.heap.size, 3, none⟩) (by simp)]; go_simp
  have c4 : w2.cell? ⟨w.heap.size, 4, none⟩ = some (.int .u8 (bx.toNat : Int)) := by rw [hb2.cell (p := ⟨w.heap.size, 4, none⟩) (by simp)]; go_simp
  have c5 : w2.cell? ⟨w.heap.size, 5, none⟩ = some (.slice ka keep.length kc) := by rw [hb2.cell (p := ⟨w.heap.size, 5, none⟩) (by simp)]; go_simp
  have hB2 : Below w.heap.size w w2 := ((Below.refl _ _).alloc (Nat.le_refl _) _).trans (hb2.mono (by simp))
  have hlt : w.heap.size < w2.heap.size := World.block_lt_of_cell? w2 _ c1
  clear hb2
  go_wp2_with fail
  refine (sh_stop_nil _ nn).mono ?_
  rintro e w' ⟨rfl, rfl⟩
  go_wp2_with fail
  refine (sh_crash_nil _ _).mono ?_
  rintro e w' ⟨rfl, rfl⟩
  go_wp2_with fail
  refine (sh_size_nil _).mono ?_
  rintro e w' ⟨rfl, rfl⟩
  have hk : ∀ W, Below w2.heap.size w2 W → W.cell? ⟨w.heap.size, 1, none⟩ = some (.int .i64 dd) ∧ W.cell? ⟨w.heap.size, 2, none⟩ = some (.int .i64 nn) ∧ W.cell? ⟨w.heap.size, 3, none⟩ = some (.int .i64 at_) ∧ W.cell? ⟨w.heap.size, 4, none⟩ = some (.int .u8 (bx.toNat : Int)) := fun W hW =>
    ⟨(hW.cell (p := ⟨w.heap.size, 1, none⟩) hlt).trans c1, (hW.cell (p := ⟨w.heap.size, 2, none⟩) hlt).trans c2, (hW.cell (p := ⟨w.heap.size, 3, none⟩) hlt).trans c3, (hW.cell (p := ⟨w.heap.size, 4, none⟩) hlt).trans c4⟩
  replace hk := Lib.hid hk
  by_cases hr : 1 ≤ disks ∧ disks ≤ 17 ∧ 1 ≤ sectors ∧ sectors ≤ 4096
  · obtain ⟨d1, d17, s1, s4⟩ := hr
    obtain ⟨disks, rfl⟩ := Int.eq_ofNat_of_zero_le (by omega : 0 ≤ disks)
    obtain ⟨sectors, rfl⟩ := Int.eq_ofNat_of_zero_le (by omega : 0 ≤ sectors)
    clear c1 c2 c3 c4
    go_wp2_with fail
    refine (lw_new _ disks sectors (by omega) (by omega) (by omega) (by omega)).mono ?_
    rintro e w3 ⟨g, rfl, hS3, hB3⟩
    clear hS3
    go_wp2_with fail
    refine (lives05 _).mono ?_
    rintro e wx ⟨rfl, hb9⟩
    have hB9 : Below w2.heap.size w2 wx := below_to hB3 hb9
    obtain ⟨k1, k2, k3, k4⟩ := hk.out _ hB9
    clear hb9
    go_wp2_with (first | (go_at_call 12; with_reducible refine (sh_write_nil _ _ _ _).mono ?_; rintro e wx ⟨rfl, rfl⟩) | (go_at_call 14; with_reducible refine (sh_flush_nil _ _).mono ?_; rintro e wx ⟨rfl, rfl⟩) | (go_at_call 20; with_reducible refine (sh_kill_nil _ _).mono ?_; rintro e wx ⟨rfl, rfl⟩) | (go_at_call 21; with_reducible refine (sh_dead_nil _ _).mono ?_; rintro e wx ⟨rfl, rfl⟩) | (go_at_call 27; with_reducible refine (sh_corrupt_nil _ _ _ _ _).mono ?_; rintro e wx ⟨rfl, rfl⟩) | (go_at_call 19; with_reducible refine (sh_off_nil _).mono ?_; rintro e wx ⟨rfl, rfl⟩) | (go_at_call 17; with_reducible refine (sh_waits_nil _ _).mono ?_; rintro e wx ⟨rfl, rfl⟩) | (go_at_call 28; with_reducible refine (sh_count_nil _).mono ?_; rintro e wx ⟨rfl, rfl⟩) | (go_at_call 24; with_reducible refine (sh_fork_nil _).mono ?_; rintro e wx ⟨rfl, rfl⟩))
    go_ret
    exact ⟨by (simp <;> omega), hB2.trans (hB9.mono hB2.size)⟩
  · have hnb := sh_new_bad w2 disks sectors hr
    clear c1 c2 c3 c4
    go_wp2_with fail
    refine hnb.mono ?_
    rintro e w' ⟨rfl, rfl⟩
    clear hnb
    have hx : disks < 1 ∨ (1 ≤ disks ∧ 17 < disks) ∨ (1 ≤ disks ∧ disks ≤ 17 ∧ sectors < 1) ∨ (1 ≤ disks ∧ disks ≤ 17 ∧ 1 ≤ sectors ∧ 4096 < sectors) := by omega
    clear hr
    rcases hx with hx | ⟨hx, hx2⟩ | ⟨hx, hx2, hx3⟩ | ⟨hx, hx2, hx3, hx4⟩
    all_goals
      go_wp2_with fail
      refine (lives05 _).mono ?_
      rintro e wx ⟨rfl, hb9⟩
      have hB9 : Below w2.heap.size w2 wx := hb9
      obtain ⟨k1, k2, k3, k4⟩ := hk.out _ hB9
      clear hb9
      go_wp2_with (first | (go_at_call 12; with_reducible refine (sh_write_nil _ _ _ _).mono ?_; rintro e wx ⟨rfl, rfl⟩) | (go_at_call 14; with_reducible refine (sh_flush_nil _ _).mono ?_; rintro e wx ⟨rfl, rfl⟩) | (go_at_call 20; with_reducible refine (sh_kill_nil _ _).mono ?_; rintro e wx ⟨rfl, rfl⟩) | (go_at_call 21; with_reducible refine (sh_dead_nil _ _).mono ?_; rintro e wx ⟨rfl, rfl⟩) | (go_at_call 27; with_reducible refine (sh_corrupt_nil _ _ _ _ _).mono ?_; rintro e wx ⟨rfl, rfl⟩) | (go_at_call 19; with_reducible refine (sh_off_nil _).mono ?_; rintro e wx ⟨rfl, rfl⟩) | (go_at_call 17; with_reducible refine (sh_waits_nil _ _).mono ?_; rintro e wx ⟨rfl, rfl⟩) | (go_at_call 28; with_reducible refine (sh_count_nil _).mono ?_; rintro e wx ⟨rfl, rfl⟩) | (go_at_call 24; with_reducible refine (sh_fork_nil _).mono ?_; rintro e wx ⟨rfl, rfl⟩))
      go_ret
      exact ⟨by (simp <;> omega), hB2.trans (hB9.mono hB2.size)⟩
end Go.Proofs.Ytffdpipmfdkaoaa

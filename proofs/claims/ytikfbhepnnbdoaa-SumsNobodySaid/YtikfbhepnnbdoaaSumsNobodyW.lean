/-
  THE WALK of SumsNobody.
-/
import Derived.Test.YtikfbhepnnbdoaaSuL
namespace Go.Proofs.Ytikfbhepnnbdoaa
set_option linter.all false
open Go.RowKit

set_option maxRecDepth 100000 in
set_option maxHeartbeats 4000000 in
theorem sumsNobody_walk (block disk : Int) (A : Option Addr) (n c : Nat) (bs : List UInt8) (w : World) (_h1 : -9223372036854775808 ≤ block) (_h2 : block ≤ 9223372036854775807) (_h3 : -9223372036854775808 ≤ disk) (_h4 : disk ≤ 9223372036854775807) (_hr : Rd w A bs) (_hn : bs.length = n) (_h47 : n ≤ 140737488351232) :
    Calls Try.prog 7 #[.int .i64 block, .int .i64 disk, .slice A n c] w fun e w' => e = .returned (.bool true) ∧ Below w.heap.size w w' := by
  have hnew := lx_new (X := fun b => b < w.heap.size) (w := w) (fun _ h => h) 3 5 (by omega) (by omega) (by omega) (by omega)
  rw [show ((3 : Nat) : Int) = 3 from rfl, show ((5 : Nat) : Int) = 5 from rfl] at hnew
  clear _hr _hn
  have hdl : (freshSh 3 5).disks.length = 3 := rfl
  have hx : (0 ≤ disk ∧ disk < 3) ∨ disk < 0 ∨ (0 ≤ disk ∧ 3 ≤ disk) := by omega
  have hon : Hid (∀ W, _) := Lib.hid fun W => su_open_nil W disk
  rcases hx with ⟨hx1, hx2⟩ | hx | ⟨hx1, hx2⟩
  · obtain ⟨disk, rfl⟩ := Int.eq_ofNat_of_zero_le hx1
    go_enter Try.func7, Try.ntmps7
    go_wp2_with fail
    refine (su_read_nil w block).mono ?_
    rintro e w' ⟨rfl, rfl⟩
    go_wp2_with fail
    refine hnew.mono ?_
    rintro e w1 ⟨g, rfl, hS1, hB1⟩
    clear hnew
    have hct := su_open hS1 disk (by rw [hdl]; omega)
    go_wp2_with fail
    refine hct.mono ?_
    rintro e w2 ⟨a, rfl, _, h2, hb2⟩
    have hB2 := below_to hB1 hb2
    clear hct hS1 h2 hb2
    go_wp2_with fail
    refine (hon.out w2).mono ?_
    rintro e w' ⟨rfl, rfl⟩
    go_wp2_with fail
    refine (lives06 w2).mono ?_
    rintro e w3 ⟨rfl, hb3⟩
    have hB3 := below_to hB2 hb3
    clear hb3 hon
    go_wp2_with (first
      | (go_at_call 21; with_reducible refine (su_write_nil _ _ _).mono ?_; rintro e wx ⟨rfl, rfl⟩)
      | (go_at_call 23; with_reducible refine (su_flush_nil _).mono ?_; rintro e wx ⟨rfl, rfl⟩)
      | (go_at_call 20; with_reducible refine (su_dblocks_nil _).mono ?_; rintro e wx ⟨rfl, rfl⟩)
      | (go_at_call 28; with_reducible refine (su_dead_nil _).mono ?_; rintro e wx ⟨rfl, nq, rfl⟩))
    go_ret
    exact ⟨by (simp <;> omega), below_drewN hB3 _⟩
  all_goals
    have hop : Hid (∀ W g, ShX (fun b => b < w.heap.size) g W (freshSh 3 5) → _) := Lib.hid fun W g h => su_open_bad h disk (by rw [hdl]; omega)
    go_enter Try.func7, Try.ntmps7
    go_wp2_with fail
    refine (su_read_nil w block).mono ?_
    rintro e w' ⟨rfl, rfl⟩
    go_wp2_with fail
    refine hnew.mono ?_
    rintro e w1 ⟨g, rfl, hS1, hB1⟩
    clear hnew
    have hct := hop.out w1 g hS1
    go_wp2_with fail
    refine hct.mono ?_
    rintro e w2 ⟨rfl, hb2⟩
    have hB2 := below_to hB1 hb2
    clear hct hS1 hb2 hop
    go_wp2_with fail
    refine (hon.out w2).mono ?_
    rintro e w' ⟨rfl, rfl⟩
    go_wp2_with fail
    refine (lives06 w2).mono ?_
    rintro e w3 ⟨rfl, hb3⟩
    have hB3 := below_to hB2 hb3
    clear hb3 hon
    go_wp2_with (first
      | (go_at_call 21; with_reducible refine (su_write_nil _ _ _).mono ?_; rintro e wx ⟨rfl, rfl⟩)
      | (go_at_call 23; with_reducible refine (su_flush_nil _).mono ?_; rintro e wx ⟨rfl, rfl⟩)
      | (go_at_call 20; with_reducible refine (su_dblocks_nil _).mono ?_; rintro e wx ⟨rfl, rfl⟩)
      | (go_at_call 28; with_reducible refine (su_dead_nil _).mono ?_; rintro e wx ⟨rfl, nq, rfl⟩))
    go_ret
    exact ⟨by (simp <;> omega), below_drewN hB3 _⟩
end Go.Proofs.Ytikfbhepnnbdoaa

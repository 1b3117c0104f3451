/-
  THE WALKS over the small functions of the sums: Blocks, Place, Sum.
-/
import Derived.Test.YtikfbhepnnbdoaaProg
import Derived.Test.YtikfbhepnnbdoaaSuM
import Derived.Test.YtikfbhepnnbdoaaOctA
namespace Go.Proofs.Ytikfbhepnnbdoaa
set_option linter.all false
open Go.RowKit

theorem su_blocks (n : Int) (w : World) (_h1 : -9223372036854775808 ≤ n) (_h2 : n ≤ 9223372036854775807) : Calls Try.prog 14 #[.int .i64 n] w fun e w' => e = .returned (.int .i64 (blocksI n)) ∧ w = w' := by
  unfold blocksI
  by_cases h : n < 1
  · rw [if_pos h]
    go_enter Try.func14, Try.ntmps14
    go_wp2
    go_ret
    exact ⟨by simp, rfl⟩
  · rw [if_neg h]
    have h0 : 1 ≤ n := by omega
    go_enter Try.func14, Try.ntmps14
    go_wp2
    all_goals
      go_ret
      exact ⟨by (simp; omega), rfl⟩

theorem su_place_bad (b : Int) (w : World) (h : b < 0 ∨ 4096 ≤ b) : Calls Try.prog 11 #[.int .i64 b] w fun e w' => e = .returned (.tuple #[.int .i64 0, .int .i64 0, .int .i64 1]) ∧ w = w' := by
  have h' : b < 0 ∨ (0 ≤ b ∧ 4096 ≤ b) := by omega
  clear h
  rcases h' with h | ⟨h1, h2⟩
  all_goals
    go_enter Try.func11, Try.ntmps11
    go_wp2
    go_ret3
    exact ⟨by simp, rfl⟩
theorem su_place (b : Nat) (w : World) (h : b < 4096) : Calls Try.prog 11 #[.int .i64 b] w fun e w' => e = .returned (.tuple #[.int .i64 (sumAt b : Nat), .int .i64 (dataAt b : Nat), .int .i64 0]) ∧ w = w' := by
  unfold sumAt dataAt
  go_enter Try.func11, Try.ntmps11
  go_wp2
  go_ret3
  exact ⟨by simp, rfl⟩

theorem u32I_lt (x : Int) : u32I x < 4294967296 := by unfold u32I; omega
theorem u32_wrap (x : Int) : IntKind.u32.wrap x = ((u32I x : Nat) : Int) := by
  have : IntKind.u32.wrap x = x % 4294967296 := by simp [IntKind.wrap, IntKind.bits, IntKind.signed]
  rw [this]
  unfold u32I
  omega
theorem u64_u32 (x : Nat) (h : x < 4294967296) : IntKind.u64.wrap (x : Int) = (x : Int) := by
  have : IntKind.u64.wrap (x : Int) = (x : Int) % 18446744073709551616 := by simp [IntKind.wrap, IntKind.bits, IntKind.signed]
  rw [this]
  omega
theorem crc_three (a b c : Bytes) : crc (crc (crc 0 a) b) c = crc 0 (a ++ b ++ c) := by
  rw [crc_app 0 (by omega) (a ++ b) c, crc_app 0 (by omega) a b]

set_option maxHeartbeats 1000000 in
theorem su_sum (disk block : Int) (A : Option Addr) (L c : Nat) (bs : Bytes) (w : World) (hr : Rd w A bs) (hL : bs.length = L) :
    Calls Try.prog 16 #[.int .i64 disk, .int .i64 block, .slice A L c] w fun e w' => e = .returned (.int .u32 (sumB disk block bs : Nat)) ∧ Below w.heap.size w w' := by
  have i0 : ∀ w, (Instr.index 60 (.agg #[.int .i64 disk, .int .i64 block]) (.int .i64 0)).run Try.prog w = .ok (.int .i64 disk) w := fun _ => by kernel_rfl
  have i1 : ∀ w, (Instr.index 60 (.agg #[.int .i64 disk, .int .i64 block]) (.int .i64 1)).run Try.prog w = .ok (.int .i64 block) w := fun _ => by kernel_rfl
  have w1 := u32_wrap disk
  have w2 := u32_wrap block
  have w3 := u64_u32 _ (u32I_lt disk)
  have w4 := u64_u32 _ (u32I_lt block)
  have p1 : Hid (∀ w, _) := Lib.hid fun w => put_ok (u32I disk) 4 w (by omega) (by omega) (u32I_lt disk)
  have p2 : Hid (∀ w, _) := Lib.hid fun w => put_ok (u32I block) 4 w (by omega) (by omega) (u32I_lt block)
  unfold sumB sumL
  rw [← crc_three]
  have l1 := Lib.hid (leBytes_len 4 (u32I disk))
  have l2 := Lib.hid (leBytes_len 4 (u32I block))
  have c0 : Hid (∀ s bs, _) := Lib.hid crc_lt
  generalize leBytes (u32I disk) 4 = n1 at *
  generalize leBytes (u32I block) 4 = n2 at *
  replace hr := Lib.hid hr
  replace hL := Lib.hid hL
  go_enter Try.func16, Try.ntmps16
  go_wp2_with fail
  refine wp_loop_rounds 3 ?_
  rw [rounds_succ]
  go_wp2_with fail
  refine (p1.out w).mono ?_
  rintro e wa ⟨A1, c1, rfl, ho1, hb1⟩
  clear p1
  go_wp2_with fail
  refine (crc_any A1 4 c1 n1 0 wa ho1.rd l1.out (by omega)).mono ?_
  rintro e wb ⟨rfl, hb2⟩
  have hB1 := below_to hb1 hb2
  have k1 := Lib.hid (c0.out 0 n1)
  generalize hs1 : crc 0 n1 = s1 at *
  replace hs1 := Lib.hid hs1
  clear ho1 hb1 hb2
  go_wp2_with fail
  rw [rounds_succ]
  go_wp2_with fail
  refine (p2.out wb).mono ?_
  rintro e wa ⟨A1, c1, rfl, ho1, hb1⟩
  clear p2
  go_wp2_with fail
  refine (crc_any A1 4 c1 n2 s1 wa ho1.rd l2.out k1.out).mono ?_
  rintro e wd ⟨rfl, hb2⟩
  have hB2 := below_to hB1 (below_to hb1 hb2)
  have k2 := Lib.hid (c0.out s1 n2)
  generalize hs2 : crc s1 n2 = s2 at *
  replace hs2 := Lib.hid hs2
  clear ho1 hb1 hb2 hB1
  go_wp2_with fail
  rw [rounds_succ]
  go_wp2_with fail
  refine (crc_any A L c bs s2 wd (hr.out.below hB2) hL.out k2.out).mono ?_
  rintro e wx ⟨rfl, hb2⟩
  go_wp2
  go_ret
  exact ⟨by have e1 := hs1.out; have e2 := hs2.out; subst e2 e1; rfl, below_to hB2 hb2⟩
end Go.Proofs.Ytikfbhepnnbdoaa

/-
  THE WALKS over the reference of the sums: Blocks, Place, Sum.
-/
import Derived.Test.YtikfbhepnnbdoaaSuA
import Derived.Test.YtikfbhepnnbdoaaOctR
import Derived.Test.YtikfbhepnnbdoaaMemB
import Derived.Test.YtikfbhepnnbdoaaMemC
namespace Go.Proofs.Ytikfbhepnnbdoaa
set_option linter.all false
open Go.RowKit

def blkN (k : Nat) : Nat := k / 17 * 16 + (k % 17 - 1)
theorem blocksI_nat (k : Nat) : blocksI (k : Int) = ((blkN k : Nat) : Int) := by
  unfold blocksI blkN
  split <;> omega
theorem blocks_step (k : Nat) : blkN (k + 1) = blkN k + (if k % 17 = 0 then 0 else 1) := by
  unfold blkN
  split <;> omega
theorem blkN_le (k : Nat) : blkN k ≤ k := by unfold blkN; omega
set_option maxHeartbeats 1000000 in
theorem rsu_blocks (n : Int) (w : World) (hn : n ≤ 9223372036854775807) : Calls Try.prog 15 #[.int .i64 n] w fun e w' => e = .returned (.int .i64 (blocksI n)) ∧ w = w' := by
  by_cases h : n < 1
  · have e0 : blocksI n = 0 := by unfold blocksI; rw [if_pos h]
    rw [e0]
    go_enter Try.func15, Try.ntmps15
    go_wp2
    refine wp_loop_rounds 1 ?_
    rw [rounds_succ]
    go_wp2
    go_ret
    exact ⟨rfl, rfl⟩
  · obtain ⟨n, rfl⟩ := Int.eq_ofNat_of_zero_le (by omega : 0 ≤ n)
    rw [blocksI_nat]
    go_enter Try.func15, Try.ntmps15
    go_wp2
    go_loop [3, 4] (fun p q => ∃ k : Nat, k ≤ n ∧ q = .int .i64 k ∧ p = .int .i64 ((blkN k : Nat) : Int)) (fun _ q => (n - intOf q).toNat)
    case atStart => exact ⟨0, by omega, rfl, rfl⟩
    case round =>
      obtain ⟨k, hk, rfl, rfl⟩ := hrel
      have hst := blocks_step k
      have hb := blkN_le k
      by_cases hlt : k < n
      · by_cases h17 : k % 17 = 0
        · rw [if_pos h17] at hst
          have hs := Lib.hid hst
          have h17b : ((k : Int) % 17 != 0) = false := by simp; omega
          clear hst
          go_wp2
          go_round
          case rel => exact ⟨k + 1, by omega, by go_num, by rw [hs.out, Nat.add_zero]⟩
          case measure => simp [intOf]; omega
        · rw [if_neg h17] at hst
          have hs := Lib.hid hst
          have h17b : ((k : Int) % 17 != 0) = true := by simp; omega
          clear hst
          go_wp2
          go_round
          case rel => exact ⟨k + 1, by omega, by go_num, by rw [hs.out]; go_num⟩
          case measure => simp [intOf]; omega
      · obtain rfl : k = n := by omega
        clear hst
        go_wp2
        go_ret
        exact ⟨rfl, rfl⟩
theorem rsu_place_bad (b : Int) (w : World) (h : b < 0 ∨ 4096 ≤ b) : Calls Try.prog 12 #[.int .i64 b] w fun e w' => e = .returned (.tuple #[.int .i64 0, .int .i64 0, .int .i64 1]) ∧ w = w' := by
  have h' : b < 0 ∨ (0 ≤ b ∧ 4095 < b) := by omega
  clear h
  rcases h' with h | ⟨h1, h2⟩
  all_goals
    go_enter Try.func12, Try.ntmps12
    go_wp2
    go_ret3
    exact ⟨by simp, rfl⟩
theorem rsu_place (b : Nat) (w : World) (h : b < 4096) : Calls Try.prog 12 #[.int .i64 b] w fun e w' => e = .returned (.tuple #[.int .i64 (sumAt b : Nat), .int .i64 (dataAt b : Nat), .int .i64 0]) ∧ w = w' := by
  unfold sumAt dataAt
  have h2 : (b : Int) ≤ 4095 := by omega
  go_enter Try.func12, Try.ntmps12
  go_wp2
  go_ret3
  exact ⟨by (simp <;> omega), rfl⟩
theorem rsu_four (x : Int) (w : World) : Calls Try.prog 34 #[.int .i64 x] w fun e w' => ∃ A c, e = .returned (.slice A 4 c) ∧ Own w' 5 w.heap.size (.slice A 4 c) (leBytes (u32I x) 4) ∧ Below w.heap.size w w' := by
  have w1 := u32_wrap x
  have w3 := u64_u32 _ (u32I_lt x)
  have p1 := rput_all (u32I x) 4 w (by have := u32I_lt x; omega) (by omega) (by omega)
  have hlt := Lib.hid (u32I_lt x)
  rw [show ((4 : Nat) : Int) = 4 from rfl] at p1
  go_enter Try.func34, Try.ntmps34
  go_wp2_with fail
  refine p1.mono ?_
  rintro e w' ⟨hb, _, h2⟩
  obtain ⟨A, c, rfl, ho⟩ := h2 hlt.out
  go_wp2
  go_ret
  exact ⟨A, c, rfl, ho, hb⟩
set_option maxRecDepth 10000 in
set_option maxHeartbeats 2000000 in
theorem rsu_sum (disk block : Int) (A : Option Addr) (L c : Nat) (bs : Bytes) (w : World) (hr : Rd w A bs) (hL : bs.length = L) (h47 : L ≤ 140737488351232) :
    Calls Try.prog 17 #[.int .i64 disk, .int .i64 block, .slice A L c] w fun e w' => e = .returned (.int .u32 (sumB disk block bs : Nat)) ∧ Below w.heap.size w w' := by
  have l1 := Lib.hid (leBytes_len 4 (u32I disk))
  have l2 := Lib.hid (leBytes_len 4 (u32I block))
  have f1 := rsu_four disk w
  have f2 : Hid (∀ W, _) := Lib.hid fun W => rsu_four block W
  have hs : Hid (sumB disk block bs = crc 0 (leBytes (u32I disk) 4 ++ leBytes (u32I block) 4 ++ bs)) := Lib.hid rfl
  generalize sumB disk block bs = sm at *
  generalize leBytes (u32I disk) 4 = n1 at *
  generalize leBytes (u32I block) 4 = n2 at *
  replace hr := Lib.hid hr
  replace hL := Lib.hid hL
  go_enter Try.func17, Try.ntmps17
  go_wp2_with fail
  refine f1.mono ?_
  rintro e w1 ⟨A1, c1, rfl, ho1, hb1⟩
  go_wp2_with fail
  refine (f2.out w1).mono ?_
  rintro e w2 ⟨A2, c2, rfl, ho2, hb2⟩
  have ho1 := ho1.below hb2
  have hB2 := below_to hb1 hb2
  clear f1 f2 hb1 hb2
  go_wp2_with (first
    | (at_builtin; refine wpList_append_rd rfl _ _ 28 rfl w.heap.size 5 Try.underlying28 Try.infoU8 _ n1 n2 A2 4 c2 rfl rfl ho1 ho2.rd l2.out (by rw [l1.out]; omega) hB2.size ?_; intro v3 w3 ho3 hg3; have hB3 := hB2.trans (ho1.grow hg3 hB2.size); obtain ⟨A3, c3, rfl, _, _⟩ := ho3.form; have e8 : (n1 ++ n2).length = 8 := (by rw [List.length_append, l1.out, l2.out]); rw [e8] at ho3 ⊢; clear hg3 ho1 ho2 e8)
    | (at_builtin; refine wpList_append_rd rfl _ _ 28 rfl w.heap.size 5 Try.underlying28 Try.infoU8 _ (n1 ++ n2) bs A L c rfl rfl ho3 (hr.out.below hB3) hL.out (by rw [List.length_append, l1.out, l2.out]; omega) hB3.size ?_; intro v4 w4 ho4 hg4; have hB4 := hB3.trans (ho3.grow hg4 hB3.size); clear hg4 ho3))
  obtain ⟨A4, c4, rfl, hr4, _⟩ := ho4.form
  have hcr := rcrc_any A4 _ c4 (n1 ++ n2 ++ bs) 0 w4 hr4 rfl (by omega)
  clear hr4
  go_wp2_with fail
  refine hcr.mono ?_
  rintro e w5 ⟨rfl, rfl⟩
  go_wp2
  go_ret
  exact ⟨by rw [hs.out, List.append_assoc]; rfl, hB4⟩
end Go.Proofs.Ytikfbhepnnbdoaa

/-
  THE WALKS over package octets, the last ones: bits looked for and counted.
-/
import Derived.Test.YtnnpdndmcenfeaaOctB
namespace Go.Proofs.Ytnnpdndmcenfeaa
open Go.RowKit

set_option maxHeartbeats 400000 in
theorem free_any (A : Option Addr) (L c : Nat) (bs : List UInt8) (o n : Int) (w : World) (hr : Rd w A bs) (hL : bs.length = L) (h60 : L ≤ 1152921504606846975) (ho : o ≤ 9223372036854775807) (hn0 : -9223372036854775808 ≤ n) (hn : n ≤ 9223372036854775807) :
    Calls Try.prog 29 #[.slice A L c, .int .i64 o, .int .i64 n] w fun e w' => e = .returned (.tuple #[.int .i64 ((freeI bs o n).getD 0 : Nat), .bool (freeI bs o n).isSome]) ∧ w = w' := by
  subst hL
  have HR := Lib.hid hr
  clear hr
  have hcase : o < 0 ∨ ∃ s : Nat, 0 ≤ s ∧ o = (s : Int) := by
    by_cases h : o < 0
    · exact .inl h
    · exact .inr ⟨o.toNat, by omega, by omega⟩
  have hmn : 8 * (bs.length : Int) < n ∨ n ≤ 8 * (bs.length : Int) := by omega
  obtain ⟨s, hs⟩ : ∃ s, s = (max o 0).toNat := ⟨_, rfl⟩
  have HF : Hid (freeI bs o n = freeFrom (hasB bs) s (stopAt n bs.length - s)) := by subst hs; exact Lib.hid rfl
  generalize freeI bs o n = r at *
  rcases hcase with h0 | ⟨t, ht, rfl⟩
  all_goals
    first
    | (have hst : s = 0 := by omega
       clear hs
       subst hst)
    | (have hst : s = t := by omega
       clear hs
       subst hst)
    rcases hmn with hmn | hmn
    all_goals
      go_enter Try.func29, Try.ntmps29
      go_wp2
      go_loop [8] (fun i => ∃ k : Nat, i = .int .i64 k ∧ Hid (r = freeFrom (hasB bs) k (stopAt n bs.length - k))) (fun i => stopAt n bs.length - (intOf i).toNat)
      case atStart => exact ⟨_, rfl, HF⟩
      case round =>
        obtain ⟨k, rfl, hfr⟩ := hrel
        by_cases hlt : k < stopAt n bs.length
        · have hlt2 : (k : Int) < n := by unfold stopAt at hlt; omega
          have hlt3 : (k : Int) < 8 * (bs.length : Int) := by unfold stopAt at hlt; omega
          have hstep : stopAt n bs.length - k = (stopAt n bs.length - (k + 1)) + 1 := by omega
          have HST := Lib.hid hstep
          have HLT := Lib.hid hlt
          clear hlt hstep
          cases hb : hasB bs k
          · have hI : hasI bs (k : Int) = false := by simp [hasI, hb]
            have HB := Lib.hid hb
            clear hb
            go_wp2_with (go_at_call 31; refine (has_any A bs.length c bs (k : Int) w HR.out rfl (by omega)).mono ?_; rintro e w' ⟨rfl, rfl⟩)
            go_ret2
            have hrr : r = some k := by
              rw [hfr.out, HST.out, freeFrom, HB.out]; rfl
            subst hrr
            exact ⟨rfl, rfl⟩
          · have hI : hasI bs (k : Int) = true := by simp [hasI, hb]
            have HB := Lib.hid hb
            clear hb
            go_wp2_with (go_at_call 31; refine (has_any A bs.length c bs (k : Int) w HR.out rfl (by omega)).mono ?_; rintro e w' ⟨rfl, rfl⟩)
            go_round
            case rel => exact ⟨k + 1, by go_num, Lib.hid (by rw [hfr.out, HST.out, freeFrom, HB.out]; rfl)⟩
            case measure => have := HLT.out; simp [intOf]; omega
        · have hrr : r = none := by
            have : stopAt n bs.length - k = 0 := by omega
            rw [hfr.out, this]; rfl
          have hlt4 : ¬ (k : Int) < n ∨ ¬ (k : Int) < 8 * (bs.length : Int) := by unfold stopAt at hlt; omega
          subst hrr
          clear hlt
          go_wp2_with fail
          go_ret2
          exact ⟨rfl, rfl⟩


set_option maxHeartbeats 400000 in
theorem count_any (A : Option Addr) (L c : Nat) (bs : List UInt8) (n : Int) (w : World) (hr : Rd w A bs) (hL : bs.length = L) (h60 : L ≤ 1152921504606846975) (hn0 : -9223372036854775808 ≤ n) (hn : n ≤ 9223372036854775807) :
    Calls Try.prog 33 #[.slice A L c, .int .i64 n] w fun e w' => e = .returned (.int .i64 (countI bs n : Nat)) ∧ w = w' := by
  subst hL
  have HR := Lib.hid hr
  clear hr
  have hcase : n ≤ 0 ∨ (0 < n ∧ bs.length ≤ 0) ∨ (∃ m : Nat, n = (m : Int) ∧ 0 < m ∧ (m : Int) ≤ 8 * (bs.length : Int)) ∨ (8 * (bs.length : Int) < n ∧ 0 < bs.length) := by
    by_cases h : n ≤ 0
    · exact .inl h
    by_cases h1 : bs.length ≤ 0
    · exact .inr (.inl ⟨by omega, h1⟩)
    by_cases h2 : n ≤ 8 * (bs.length : Int)
    · exact .inr (.inr (.inl ⟨n.toNat, by omega, by omega, by omega⟩))
    · exact .inr (.inr (.inr ⟨by omega, by omega⟩))
  obtain ⟨s, hs⟩ : ∃ s, s = stopAt n bs.length := ⟨_, rfl⟩
  have HC : Hid (countI bs n = countTo (hasB bs) s) := by subst hs; exact Lib.hid rfl
  generalize countI bs n = r at *
  have hs0 : n < 0 → s = 0 := by intro h; unfold stopAt at hs; omega
  have hs1 : 8 * (bs.length : Int) < n → s = 8 * bs.length := by intro h; unfold stopAt at hs; omega
  have hs2 : 0 ≤ n → n ≤ 8 * (bs.length : Int) → (s : Int) = n := by intro h h'; unfold stopAt at hs; omega
  clear hs
  have hs3 : bs.length ≤ 0 → s = 0 := by
    intro h
    by_cases h1 : n < 0
    · exact hs0 h1
    by_cases h2 : 8 * (bs.length : Int) < n
    · have := hs1 h2; omega
    · have := hs2 (by omega) (by omega); omega
  rcases hcase with h0 | ⟨hp, h0⟩ | ⟨m, rfl, hm0, hm⟩ | ⟨h0, hl0⟩
  · obtain rfl : s = 0 := by
      by_cases h1 : n < 0
      · exact hs0 h1
      · have := hs2 (by omega) (by omega); omega
    clear hs0 hs1 hs2 hs3
    go_enter Try.func33, Try.ntmps33
    go_wp2
    refine wp_loop_rounds 1 ?_
    rw [rounds_succ]
    go_wp2
    go_ret
    have hrr : r = 0 := HC.out
    subst hrr
    exact ⟨rfl, rfl⟩
  · obtain rfl := hs3 h0
    clear hs0 hs1 hs2 hs3
    go_enter Try.func33, Try.ntmps33
    go_wp2
    refine wp_loop_rounds 1 ?_
    rw [rounds_succ]
    go_wp2
    go_ret
    have hrr : r = 0 := HC.out
    subst hrr
    exact ⟨rfl, rfl⟩
  · obtain rfl : s = m := by have := hs2 (by omega) hm; omega
    clear hs0 hs1 hs2 hs3
    go_enter Try.func33, Try.ntmps33
    go_wp2
    go_loop [5, 13] (fun t i => ∃ k : Nat, k ≤ s ∧ i = .int .i64 k ∧ t = .int .i64 (countTo (hasB bs) k : Nat)) (fun _ i => s - (intOf i).toNat)
    case atStart => exact ⟨0, by omega, rfl, rfl⟩
    case round =>
      obtain ⟨k, hk, rfl, rfl⟩ := hrel
      have hle := countTo_le (hasB bs) k
      by_cases hlt : k < s
      · cases hb : hasB bs k
        · have hI : hasI bs (k : Int) = false := by simp [hasI, hb]
          have HB : Hid (countTo (hasB bs) (k + 1) = countTo (hasB bs) k) := Lib.hid (by simp [countTo, hb])
          clear hb
          go_wp2_with (go_at_call 31; refine (has_any A bs.length c bs (k : Int) w HR.out rfl (by omega)).mono ?_; rintro e w' ⟨rfl, rfl⟩)
          go_round
          case rel => exact ⟨k + 1, by omega, by go_num, by rw [HB.out]⟩
          case measure => simp [intOf]; omega
        · have hI : hasI bs (k : Int) = true := by simp [hasI, hb]
          have HB : Hid (countTo (hasB bs) (k + 1) = countTo (hasB bs) k + 1) := Lib.hid (by simp [countTo, hb])
          clear hb
          go_wp2_with (go_at_call 31; refine (has_any A bs.length c bs (k : Int) w HR.out rfl (by omega)).mono ?_; rintro e w' ⟨rfl, rfl⟩)
          go_round
          case rel => exact ⟨k + 1, by omega, by go_num, by rw [HB.out]; go_num⟩
          case measure => simp [intOf]; omega
      · have hks : k = s := by omega
        subst hks
        go_wp2_with fail
        go_ret
        rw [HC.out]
        exact ⟨rfl, rfl⟩
  · obtain rfl := hs1 h0
    clear hs0 hs1 hs2 hs3
    go_enter Try.func33, Try.ntmps33
    go_wp2
    go_loop [5, 13] (fun t i => ∃ k : Nat, k ≤ 8 * bs.length ∧ i = .int .i64 k ∧ t = .int .i64 (countTo (hasB bs) k : Nat)) (fun _ i => 8 * bs.length - (intOf i).toNat)
    case atStart => exact ⟨0, by omega, rfl, rfl⟩
    case round =>
      obtain ⟨k, hk, rfl, rfl⟩ := hrel
      have hle := countTo_le (hasB bs) k
      by_cases hlt : k < 8 * bs.length
      · cases hb : hasB bs k
        · have hI : hasI bs (k : Int) = false := by simp [hasI, hb]
          have HB : Hid (countTo (hasB bs) (k + 1) = countTo (hasB bs) k) := Lib.hid (by simp [countTo, hb])
          clear hb
          go_wp2_with (go_at_call 31; refine (has_any A bs.length c bs (k : Int) w HR.out rfl (by omega)).mono ?_; rintro e w' ⟨rfl, rfl⟩)
          go_round
          case rel => exact ⟨k + 1, by omega, by go_num, by rw [HB.out]⟩
          case measure => simp [intOf]; omega
        · have hI : hasI bs (k : Int) = true := by simp [hasI, hb]
          have HB : Hid (countTo (hasB bs) (k + 1) = countTo (hasB bs) k + 1) := Lib.hid (by simp [countTo, hb])
          clear hb
          go_wp2_with (go_at_call 31; refine (has_any A bs.length c bs (k : Int) w HR.out rfl (by omega)).mono ?_; rintro e w' ⟨rfl, rfl⟩)
          go_round
          case rel => exact ⟨k + 1, by omega, by go_num, by rw [HB.out]; go_num⟩
          case measure => simp [intOf]; omega
      · have hks : k = 8 * bs.length := by omega
        rw [hks]
        clear hks hk hle hlt
        go_wp2_with fail
        go_ret
        rw [HC.out]
        exact ⟨rfl, rfl⟩

end Go.Proofs.Ytnnpdndmcenfeaa

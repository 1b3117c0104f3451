/-
  THE WALK of OctetsTaken: the first free bit is free, all between are set; when it is set there is one more, and it comes no more.
-/
import Derived.Test.YtnnpdndmcenfeaaOctL
import Derived.Test.YtnnpdndmcenfeaaMathB
namespace Go.Proofs.Ytnnpdndmcenfeaa
open Go.RowKit

set_option maxRecDepth 100000 in
set_option maxHeartbeats 1000000 in
theorem octetsTaken_none (A : Option Addr) (L c : Nat) (bs : List UInt8) (o : Nat) (n : Int) (W : World) (hr : Rd W A bs) (hL : bs.length = L) (h12 : L ≤ 4096) (ho : o ≤ 9223372036854775807) (hn0 : -9223372036854775808 ≤ n) (hn : n ≤ 9223372036854775807)
    (hf : freeI bs o n = none) :
    Calls Try.prog 11 #[.slice A L c, .int .i64 o, .int .i64 n] W fun e W' => e = .returned (.bool true) ∧ Below W.heap.size W W' := by
  subst hL
  have HR := Lib.hid hr
  have hall : ∀ j : Nat, o ≤ j → (j : Int) < n → j < 8 * bs.length → hasB bs j = true := by
    intro j h1 h2 h3
    unfold freeI at hf
    refine freeFrom_none _ _ _ hf j (by omega) ?_
    unfold stopAt; omega
  have HALL := Lib.hid hall
  have HF := Lib.hid hf
  clear hr hall hf
  go_enter Try.func11, Try.ntmps11
  go_wp2_with (go_at_call 22; refine (lives01 _).mono ?_; rintro e w1 ⟨rfl, hb1⟩)
  refine (free_any A bs.length c bs o n _ (HR.out.below hb1) rfl (by omega) (by omega) hn0 hn).mono ?_
  rintro e w' ⟨rfl, rfl⟩
  rw [HF.out]
  go_wp2_with fail
  go_loop [9] (fun i => ∃ k : Nat, o ≤ k ∧ i = .int .i64 k) (fun i => 8 * bs.length - (intOf i).toNat)
  case atStart => exact ⟨o, by omega, rfl⟩
  case round =>
    obtain ⟨k, hk, rfl⟩ := hrel
    by_cases h1 : (k : Int) < n
    · by_cases h2 : k < 8 * bs.length
      · have hb := HALL.out k hk h1 h2
        have hI : hasI bs (k : Int) = true := by simp [hasI, hb]
        clear hb
        go_wp2_with (go_at_call 31; refine (has_any A bs.length c bs (k : Int) w1 (HR.out.below hb1) rfl (by omega)).mono ?_; rintro e w' ⟨rfl, rfl⟩)
        go_round
        case rel => exact ⟨k + 1, by omega, by go_num⟩
        case measure => simp [intOf]; omega
      · have h3 : 8 * (bs.length : Int) ≤ (k : Int) := by omega
        clear h2
        go_wp2_with fail
        go_ret
        exact ⟨rfl, hb1⟩
    · have h3 : decide ((k : Int) < n) = false := by simp; omega
      clear h1
      go_wp2_with fail
      go_ret
      exact ⟨rfl, hb1⟩

set_option maxRecDepth 100000 in
set_option maxHeartbeats 2000000 in
theorem octetsTaken_some (A : Option Addr) (L c : Nat) (bs : List UInt8) (o : Nat) (n : Int) (W : World) (hr : Rd W A bs) (hL : bs.length = L) (h12 : L ≤ 4096) (ho : o ≤ 9223372036854775807) (hn0 : -9223372036854775808 ≤ n) (hn : n ≤ 9223372036854775807)
    (i : Nat) (hf : freeI bs o n = some i) :
    Calls Try.prog 11 #[.slice A L c, .int .i64 o, .int .i64 n] W fun e W' => e = .returned (.bool true) ∧ Below W.heap.size W W' := by
  subst hL
  have HR := Lib.hid hr
  have hall : o ≤ i ∧ (i : Int) < n ∧ i < 8 * bs.length ∧ hasB bs i = false ∧ ∀ j : Nat, o ≤ j → j < i → hasB bs j = true := by
    have h0 := hf
    unfold freeI at h0
    obtain ⟨h1, h2, h3, h4⟩ := freeFrom_some _ _ _ _ h0
    unfold stopAt at h2
    exact ⟨by omega, by omega, by omega, h3, fun j h5 h6 => h4 j (by omega) h6⟩
  obtain ⟨hoi, hin, hil, hfi, hset⟩ := hall
  have hw := hasB_with bs i (by omega)
  have hcnt : countI (withB bs i true) n = countI bs n + 1 := by
    unfold countI
    rw [withB_len, countTo_with (hasB bs) (hasB (withB bs i true)) i hw hfi, if_pos (by unfold stopAt; omega)]
  have hcle : countI bs n ≤ 8 * bs.length := Nat.le_trans (countTo_le _ _) (by unfold stopAt; omega)
  have hI2 : hasI (withB bs i true) (i : Int) = true := by simp [hasI, hw]
  have hI1 : hasI bs (i : Int) = false := by simp [hasI, hfi]
  have hmore : ∀ j, freeI (withB bs i true) o n = some j → i < j := by
    intro j h0
    unfold freeI at h0
    obtain ⟨h1, h2, h3, h4⟩ := freeFrom_some _ _ _ _ h0
    rw [hw] at h3
    simp only [Bool.or_eq_false_iff, beq_eq_false_iff_ne] at h3
    rcases Nat.lt_or_ge i j with h5 | h5
    · exact h5
    · exfalso
      have := hset j (by omega) (by omega)
      rw [this] at h3
      cases h3.1
  have hl2 : (withB bs i true).length = bs.length := withB_len _ _ _
  have HSET := Lib.hid hset
  have HF := Lib.hid hf
  have HL2 := Lib.hid hl2
  generalize hws : withB bs i true = ws at *
  have HWS := Lib.hid hws
  have HM := Lib.hid hmore
  have HC := Lib.hid hcnt
  clear hr hset hf hfi hw hws hmore hl2 hcnt
  go_enter Try.func11, Try.ntmps11
  go_wp2_with (go_at_call 22; refine (lives01 _).mono ?_; rintro e w1 ⟨rfl, hb1⟩)
  refine (free_any A bs.length c bs o n _ (HR.out.below hb1) rfl (by omega) (by omega) hn0 hn).mono ?_
  rintro e w' ⟨rfl, rfl⟩
  rw [HF.out]
  go_wp2_with fail
  go_loop [10] (fun t => ∃ k : Nat, o ≤ k ∧ t = .int .i64 k) (fun t => i - (intOf t).toNat)
  case atStart => exact ⟨o, by omega, rfl⟩
  case round =>
    obtain ⟨k, hk, rfl⟩ := hrel
    by_cases h1 : k < i
    · have hb := HSET.out k hk h1
      have hI : hasI bs (k : Int) = true := by simp [hasI, hb]
      clear hb hI1 hI2
      go_wp2_with (go_at_call 31; refine (has_any A bs.length c bs (k : Int) w1 (HR.out.below hb1) rfl (by omega)).mono ?_; rintro e w' ⟨rfl, rfl⟩)
      go_round
      case rel => exact ⟨k + 1, by omega, by go_num⟩
      case measure => simp [intOf]; omega
    · go_wp2_with fail
      refine (with_ok A bs.length c bs i true _ (HR.out.below hb1) rfl (by omega) (by omega)).mono ?_
      rintro e w2 ⟨A2, c2, rfl, hown2, hb2⟩
      rw [HWS.out] at hown2
      have hr2 := Lib.hid hown2.rd
      have hb12 := below_to hb1 hb2
      have hrb := Lib.hid (HR.out.below hb12)
      clear hown2
      go_wp2_with fail
      refine (free_any A2 bs.length c2 ws o n _ hr2.out HL2.out (by omega) (by omega) hn0 hn).mono ?_
      rintro e w' ⟨rfl, rfl⟩
      have hjm := HM.out
      generalize freeI ws o n = r2 at *
      have hmid : ∀ j, r2 = some j → i < j := hjm
      clear hjm HM
      have HMID := Lib.hid hmid
      clear hmid
      cases r2 with
      | none =>
        go_wp2_with fail
        refine (has_any A bs.length c bs (i : Int) w2 hrb.out rfl (by omega)).mono ?_
        rintro e w' ⟨rfl, rfl⟩
        rw [hI1]
        go_wp2_with fail
        refine (has_any A2 bs.length c2 ws (i : Int) w2 hr2.out HL2.out (by omega)).mono ?_
        rintro e w' ⟨rfl, rfl⟩
        rw [hI2]
        go_wp2_with fail
        refine (count_any A2 bs.length c2 ws n w2 hr2.out HL2.out (by omega) hn0 hn).mono ?_
        rintro e w' ⟨rfl, rfl⟩
        rw [HC.out]
        go_wp2_with fail
        refine (count_any A bs.length c bs n w2 hrb.out rfl (by omega) hn0 hn).mono ?_
        rintro e w' ⟨rfl, rfl⟩
        generalize countI bs n = ct at *
        go_wp2_with fail
        go_ret
        exact ⟨rfl, hb12⟩
      | some j =>
        have hj := HMID.out j rfl
        go_wp2_with fail
        refine (has_any A bs.length c bs (i : Int) w2 hrb.out rfl (by omega)).mono ?_
        rintro e w' ⟨rfl, rfl⟩
        rw [hI1]
        go_wp2_with fail
        refine (has_any A2 bs.length c2 ws (i : Int) w2 hr2.out HL2.out (by omega)).mono ?_
        rintro e w' ⟨rfl, rfl⟩
        rw [hI2]
        go_wp2_with fail
        refine (count_any A2 bs.length c2 ws n w2 hr2.out HL2.out (by omega) hn0 hn).mono ?_
        rintro e w' ⟨rfl, rfl⟩
        rw [HC.out]
        go_wp2_with fail
        refine (count_any A bs.length c bs n w2 hrb.out rfl (by omega) hn0 hn).mono ?_
        rintro e w' ⟨rfl, rfl⟩
        generalize countI bs n = ct at *
        go_wp2_with fail
        go_ret
        exact ⟨rfl, hb12⟩

theorem octetsTaken_walk (A : Option Addr) (L c : Nat) (bs : List UInt8) (o n : Int) (W : World) (hr : Rd W A bs) (hL : bs.length = L) (_h47 : L ≤ 140737488351232) (_lo : -9223372036854775808 ≤ o) (ho : o ≤ 9223372036854775807) (hn0 : -9223372036854775808 ≤ n) (hn : n ≤ 9223372036854775807) :
    Calls Try.prog 11 #[.slice A L c, .int .i64 o, .int .i64 n] W fun e W' => e = .returned (.bool true) ∧ Below W.heap.size W W' := by
  by_cases h1 : 4096 < L
  · have hmax := hr.le
    rw [hL] at hmax
    clear hr
    go_enter Try.func11, Try.ntmps11
    go_wp2_with (go_at_call 22; refine (lives01 _).mono ?_; rintro e w1 ⟨rfl, hb1⟩)
    go_ret
    exact ⟨rfl, hb1⟩
  by_cases h2 : o < 0
  · have h1' : L ≤ 4096 := by omega
    clear hr h1
    go_enter Try.func11, Try.ntmps11
    go_wp2_with (go_at_call 22; refine (lives01 _).mono ?_; rintro e w1 ⟨rfl, hb1⟩)
    go_ret
    exact ⟨rfl, hb1⟩
  obtain ⟨s, rfl⟩ := Int.eq_ofNat_of_zero_le (show 0 ≤ o by omega)
  cases hf : freeI bs (s : Int) n with
  | none => exact octetsTaken_none A L c bs s n W hr hL (by omega) (by omega) hn0 hn hf
  | some i => exact octetsTaken_some A L c bs s n W hr hL (by omega) (by omega) hn0 hn i hf

end Go.Proofs.Ytnnpdndmcenfeaa

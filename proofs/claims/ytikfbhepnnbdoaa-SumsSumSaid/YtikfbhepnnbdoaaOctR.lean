/-
  THE WALKS over package ashlarref01, the first ones: numbers, the sum, the exclusive or.
-/
import Derived.Test.YtikfbhepnnbdoaaOctC
import Derived.Test.YtikfbhepnnbdoaaMathB
import Derived.Deep.AppendLies
import Derived.RegionTactic
namespace Go.Proofs.Ytikfbhepnnbdoaa
set_option linter.all false
open Go.RowKit


set_option maxHeartbeats 400000 in
theorem rput_bad0 (x : Nat) (n : Int) (w : World) (h : n < 1 ∨ 8 < n) :
    Calls Try.prog 52 #[.int .u64 x, .int .i64 n] w fun e w' => e = .returned (.tuple #[.slice none 0 0, .int .i64 1]) ∧ w = w' := by
  by_cases h1 : n < 1
  · clear h
    go_enter Try.func52, Try.ntmps52
    go_wp2
    go_ret2
    exact ⟨rfl, rfl⟩
  · have h2 : 8 < n := by omega
    have h1' : 1 ≤ n := by omega
    clear h h1
    go_enter Try.func52, Try.ntmps52
    go_wp2
    go_ret2
    exact ⟨rfl, rfl⟩

theorem rput_byte (x : Nat) : IntKind.u8.wrap ((x : Int) % 256) = ((UInt8.ofNat (x % 256)).toNat : Int) := by
  have e : IntKind.u8.wrap ((x : Int) % 256) = ((x : Int) % 256) % 256 := by simp [IntKind.wrap, IntKind.bits, IntKind.signed]
  rw [e]
  simp

set_option maxRecDepth 100000 in
set_option maxHeartbeats 1000000 in
theorem rput_all (x n : Nat) (w : World) (hx : x < 18446744073709551616) (h1 : 1 ≤ n) (h8 : n ≤ 8) :
    Calls Try.prog 52 #[.int .u64 x, .int .i64 n] w fun e w' => Below w.heap.size w w' ∧
      (256 ^ n ≤ x → e = .returned (.tuple #[.slice none 0 0, .int .i64 1])) ∧
      (x < 256 ^ n → ∃ A c, e = .returned (.tuple #[.slice A n c, .int .i64 0]) ∧ Own w' 5 w.heap.size (.slice A n c) (leBytes x n)) := by
  have h3 : (decide ((n:Int) < 1)) = false := by simp; omega
  go_enter Try.func52, Try.ntmps52
  go_wp2
  go_loopw [0, 6, 7] (fun t v i wr => ∃ k : Nat, k ≤ n ∧ i = .int .i64 k ∧ t = .int .u64 (x / 256 ^ k : Nat) ∧ Own wr 5 w.heap.size v (leBytes x k) ∧ Below w.heap.size w wr) (fun _ _ i _ => n - (intOf i).toNat)
  case atStart => exact ⟨0, by omega, rfl, by simp, World.ownsRow_nil _ _ _ _, Below.refl _ _⟩
  case round =>
    obtain ⟨k, hk, rfl, rfl, hown, hbel⟩ := hrel
    have hsn := leBytes_snoc k x
    have hle : x / 256 ^ k ≤ x := Nat.div_le_self _ _
    have hdd : x / 256 ^ (k + 1) = x / 256 ^ k / 256 := by rw [Nat.pow_succ, Nat.div_div_eq_div_mul]
    have hlk := leBytes_len k x
    by_cases hlt : k < n
    · generalize x / 256 ^ k = y at *
      have hrb := rput_byte y
      generalize UInt8.ofNat (y % 256) = b at *
      have HSN := Lib.hid hsn
      have HDD := Lib.hid hdd
      have HLK := Lib.hid hlk
      clear hsn hdd hlk
      go_wp2_with (at_builtin; refine wpList_append_rd rfl (.tmp 19) (.tmp 23) 28 rfl w.heap.size 5 Try.underlying28 Try.infoU8 _ (leBytes x k) [b] (some ⟨wr.heap.size, 0, none⟩) 1 1 rfl rfl (own_lit hown _) (Rd.lit wr _ [b] (by simp)) rfl (by have := HLK.out; simp; omega) (by have := hbel.size; simp; omega) ?_; intro v1 w1 hown1 hg1)
      have hb1 : Below w.heap.size w w1 := (hbel.alloc hbel.size _).trans ((own_lit hown _).grow hg1 (by have := hbel.size; simp; omega))
      rw [← HSN.out] at hown1
      go_roundw
      case rel => exact ⟨k + 1, by omega, by go_num, by rw [HDD.out]; simp, hown1, hb1⟩
      case measure => simp [intOf]; omega
    · have hkn : k = n := by omega
      subst hkn
      clear hsn hdd hle
      by_cases hf : x < 256 ^ k
      · have hz : x / 256 ^ k = 0 := Nat.div_eq_of_lt hf
        rw [hz]
        obtain ⟨A, c, rfl, hr, _⟩ := hown.form
        rw [hlk] at hown
        have HLK := Lib.hid hlk
        clear hz hlk hr
        go_wp2
        go_ret2
        rw [HLK.out]
        exact ⟨hbel, fun h => absurd hf (by omega), fun _ => ⟨A, c, rfl, hown⟩⟩
      · have hz : 0 < x / 256 ^ k := Nat.div_pos (by omega) (Nat.pow_pos (by omega))
        generalize x / 256 ^ k = y at *
        clear hlk
        go_wp2
        go_ret2
        exact ⟨hbel, fun _ => rfl, fun h => absurd h hf⟩

set_option maxHeartbeats 400000 in
theorem rget_ok (A : Option Addr) (L c : Nat) (bs : List UInt8) (o n : Nat) (w : World) (hr : Rd w A bs) (hL : bs.length = L) (hn1 : 1 ≤ n) (hn8 : n ≤ 8) (hat : o + n ≤ L) :
    Calls Try.prog 57 #[.slice A L c, .int .i64 o, .int .i64 n] w fun e w' => e = .returned (.tuple #[.int .u64 (leNum ((bs.drop o).take n)), .int .i64 0]) ∧ w = w' := by
  subst hL
  have hmax := hr.le
  obtain ⟨ad, rfl⟩ := hr.some_ (i := o) (by omega)
  have HR := Lib.hid hr
  clear hr
  have h3 : (decide ((n:Int) < 1)) = false := by simp; omega
  go_enter Try.func57, Try.ntmps57
  go_wp2
  go_loop [8, 9] (fun x i => ∃ k : Nat, k ≤ n ∧ i = .int .i64 ((n : Int) - k - 1) ∧ x = .int .u64 (leNum ((bs.drop (o + (n - k))).take k))) (fun _ i => (intOf i + 1).toNat)
  case atStart => exact ⟨0, by omega, by go_num, by simp [leNum]⟩
  case round =>
    obtain ⟨k, hk, rfl, rfl⟩ := hrel
    by_cases hlt : k < n
    · have hcell := HR.out.cell (o + (n - k - 1)) (by omega)
      have htb := take_back bs o n k hlt hat
      have hlt2 := leNum_lt ((bs.drop (o + (n - k))).take k)
      have hlen : ((bs.drop (o + (n - k))).take k).length ≤ 7 := by rw [List.length_take]; omega
      have hsm : leNum ((bs.drop (o + (n - k))).take k) < 72057594037927936 := Nat.lt_of_lt_of_le hlt2 (Nat.le_trans (Nat.pow_le_pow_right (by omega) hlen) (by decide))
      have hb := (bs[o + (n - k - 1)]'(by omega)).toNat_lt
      clear hlt2 hlen
      generalize leNum ((bs.drop (o + (n - k))).take k) = x0 at *
      generalize (bs[o + (n - k - 1)]'(by omega)).toNat = b0 at *
      have HT := Lib.hid htb
      clear htb
      go_wp2
      go_round
      case rel => exact ⟨k + 1, by omega, by go_num, by rw [HT.out]; go_num⟩
      case measure => simp [intOf]; omega
    · have hkn : k = n := by omega
      subst hkn
      go_wp2
      go_ret2
      exact ⟨by simp, rfl⟩

set_option maxHeartbeats 400000 in
theorem rget_bad (A : Option Addr) (L c : Nat) (o n : Int) (w : World) (h : n < 1 ∨ 8 < n ∨ o < 0 ∨ (L : Int) - n < o) :
    Calls Try.prog 57 #[.slice A L c, .int .i64 o, .int .i64 n] w fun e w' => e = .returned (.tuple #[.int .u64 0, .int .i64 1]) ∧ w = w' := by
  by_cases h1 : n < 1
  · clear h
    go_enter Try.func57, Try.ntmps57
    go_wp2
    go_ret2
    exact ⟨rfl, rfl⟩
  by_cases h2 : 8 < n
  · clear h
    have h1' : 1 ≤ n := by omega
    clear h1
    go_enter Try.func57, Try.ntmps57
    go_wp2
    go_ret2
    exact ⟨rfl, rfl⟩
  have h1' : 1 ≤ n := by omega
  have h2' : n ≤ 8 := by omega
  clear h1 h2
  by_cases h3 : o < 0
  · clear h
    go_enter Try.func57, Try.ntmps57
    go_wp2
    go_ret2
    exact ⟨rfl, rfl⟩
  have h3' : 0 ≤ o := by omega
  clear h3
  by_cases h4 : (L : Int) < o
  · clear h
    go_enter Try.func57, Try.ntmps57
    go_wp2
    go_ret2
    exact ⟨rfl, rfl⟩
  · have h5 : (L : Int) - o < n := by omega
    have h4' : o ≤ (L : Int) := by omega
    clear h4 h
    go_enter Try.func57, Try.ntmps57
    go_wp2
    go_ret2
    exact ⟨rfl, rfl⟩


theorem crc_round (c k : Nat) (h : c < 4294967296) : crcBits (k + 1) c = crcBit (crcBits k c) ∧ crcBits k c < 4294967296 := ⟨rfl, crcBits_lt k c h⟩
theorem xor32p (c : Nat) (hc : c < 4294967296) : bits .xor .u32 ((c : Int) / 2) 2197175160 = (((c / 2) ^^^ 2197175160 : Nat) : Int) := by
  have e : (c : Int) / 2 = ((c / 2 : Nat) : Int) := by simp
  rw [e]
  exact u32_xor_nat _ 2197175160 (by omega) (by omega)
theorem u32_not2 (x : Nat) (h : x < 4294967296) : bits .xor .u32 (x : Int) 4294967295 = ((4294967295 - x : Nat) : Int) := by
  have e := u32_not x h
  have e1 : IntKind.u32.max = ((4294967295 : Nat) : Int) := by decide
  rw [e1, u32_xor_nat _ _ (by omega) h] at e
  have e2 := u32_xor_nat x 4294967295 h (by omega)
  rw [Nat.xor_comm] at e2
  exact e2.trans e

set_option maxRecDepth 100000 in
set_option maxHeartbeats 1000000 in
theorem rcrc_any (A : Option Addr) (L c : Nat) (bs : List UInt8) (seed : Nat) (w : World) (hr : Rd w A bs) (hL : bs.length = L) (hs : seed < 4294967296) :
    Calls Try.prog 35 #[.int .u32 seed, .slice A L c] w fun e w' => e = .returned (.int .u32 (crc seed bs)) ∧ w = w' := by
  subst hL
  have hmax := hr.le
  have hn := u32_not2 seed hs
  obtain ⟨s0, hs0⟩ : ∃ s0, s0 = 4294967295 - seed := ⟨_, rfl⟩
  rw [← hs0] at hn
  have HS0 := Lib.hid hs0
  have hs0l : s0 < 4294967296 := by omega
  clear hs0
  have HR := Lib.hid hr
  clear hr
  go_enter Try.func35, Try.ntmps35
  go_wp2
  go_loop [5, 6] (fun x i => ∃ k : Nat, k ≤ bs.length ∧ i = .int .i64 k ∧ x = .int .u32 (crcL s0 (bs.take k))) (fun _ i => bs.length - (intOf i).toNat)
  case atStart => exact ⟨0, by omega, rfl, rfl⟩
  case round =>
    obtain ⟨k, hk, rfl, rfl⟩ := hrel
    by_cases hlt : k < bs.length
    · obtain ⟨ad, rfl⟩ := HR.out.some_ hlt
      have hcell := HR.out.cell k hlt
      have hsn := crcL_snoc s0 bs k hlt
      have hcl := crcL_lt (bs.take k) s0 hs0l
      generalize crcL s0 (bs.take k) = c0 at *
      generalize bs[k] = b at *
      have hb := b.toNat_lt
      obtain ⟨c1, hc1⟩ : ∃ c1, c1 = c0 ^^^ b.toNat := ⟨_, rfl⟩
      have hc1l : c1 < 4294967296 := by rw [hc1]; exact xor_lt32 hcl (by omega)
      have hsn2 : crcL s0 (List.take (k + 1) bs) = crcBits 8 c1 := by rw [hsn, crcBits_8 c1 hc1l, hc1]; rfl
      have HSN := Lib.hid hsn2
      have f1 := xor32 c0 b.toNat hcl (by omega)
      rw [← hc1] at f1
      clear hsn hsn2 hc1
      go_wp2
      go_loop [5, 7, 8] (fun x i o => ∃ j : Nat, j ≤ 8 ∧ i = .int .i64 j ∧ x = .int .u32 (crcBits j c1)) (fun _ i _ => 8 - (intOf i).toNat)
      case atStart => exact ⟨0, by omega, rfl, rfl⟩
      case round =>
        obtain ⟨j, hj, rfl, rfl⟩ := hrel
        obtain ⟨hr1, hr2⟩ := crc_round c1 j hc1l
        by_cases hj8 : j < 8
        · generalize crcBits j c1 = d at *
          have hp := xor32p d hr2
          have HR1 := Lib.hid hr1
          clear hr1
          by_cases ho : d % 2 = 1
          · have h1 : ((d : Int) % 2 == 1) = true := by rw [beq_iff_eq]; omega
            have HO := Lib.hid ho
            clear ho
            go_wp2
            go_round
            case rel => exact ⟨j + 1, by omega, by go_num, by rw [HR1.out, crcBit, if_pos HO.out]⟩
            case measure => simp [intOf]; omega
          · have h1 : ((d : Int) % 2 == 1) = false := by rw [beq_eq_false_iff_ne]; omega
            have HO := Lib.hid ho
            clear ho
            go_wp2
            go_round
            case rel => exact ⟨j + 1, by omega, by go_num, by rw [HR1.out, crcBit, if_neg HO.out]; simp⟩
            case measure => simp [intOf]; omega
        · have hj8' : j = 8 := by omega
          subst hj8'
          rw [← HSN.out]
          clear hr1 hr2
          go_wp2
          go_round
          case rel => exact ⟨k + 1, by omega, by go_num, rfl⟩
          case measure => simp [intOf]; omega
    · have hkn : k = bs.length := by omega
      have hfin : crcL s0 (bs.take k) = crcL s0 bs := by rw [hkn, List.take_length]
      rw [hfin]
      have hlt2 := crcL_lt bs s0 hs0l
      have hn2 := u32_not2 _ hlt2
      have hout : 4294967295 - crcL s0 bs = crc seed bs := by rw [HS0.out]; rfl
      rw [hout] at hn2
      clear hout hfin
      go_wp2
      go_ret
      exact ⟨rfl, rfl⟩

end Go.Proofs.Ytikfbhepnnbdoaa

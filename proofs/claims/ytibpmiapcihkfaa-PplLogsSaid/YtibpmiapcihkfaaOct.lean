/-
  Several texts of this work in one (merge.py): OctA, OctB, OctC, OctR.
-/
import Derived.Test.YtibpmiapcihkfaaProg
import Derived.Test.YtibpmiapcihkfaaBase
import Derived.StillTailTactics
import Derived.Deep.AppendLies
import Derived.RegionTactic
namespace Go.Proofs.Ytibpmiapcihkfaa
set_option linter.all false
section
/-
  THE WALKS over package octets: what each call computes, said of lists of bytes.
-/
open Go.RowKit

theorem Try.infoU8 : (Try.prog.info? 5).map (fun i => (i.zero, i.size, i.bytes)) = some (some (.int .u8 0), 1, 1) := by kernel_rfl

theorem or_byte (x : Nat) (b : UInt8) (h : x < 72057594037927936) : bits .or .u64 (IntKind.u64.wrap ((x : Int) * 256)) (IntKind.u64.wrap (b.toNat : Int)) = ((x * 256 + b.toNat : Nat) : Int) := by
  have hb := b.toNat_lt
  have eb : IntKind.u64.wrap (b.toNat : Int) = ((b.toNat : Nat) : Int) := by
    have : IntKind.u64.wrap (b.toNat : Int) = (b.toNat : Int) % 18446744073709551616 := by simp [IntKind.wrap, IntKind.bits, IntKind.signed]
    rw [this]; omega
  rw [eb]
  have e : IntKind.u64.wrap ((x : Int) * 256) = ((x * 256 : Nat) : Int) := by
    have : IntKind.u64.wrap ((x : Int) * 256) = ((x : Int) * 256) % 18446744073709551616 := by simp [IntKind.wrap, IntKind.bits, IntKind.signed]
    rw [this]; omega
  rw [e, u64_or_nat _ _ (by omega) (by omega)]
  congr 1
  have := Nat.two_pow_add_eq_or_of_lt (i := 8) (b := b.toNat) (by omega) x
  have h2 : x * 256 = 2 ^ 8 * x := by omega
  rw [h2, ← this]

theorem take_back (bs : List UInt8) (o n k : Nat) (hk : k < n) (ho : o + n ≤ bs.length) :
    leNum ((bs.drop (o + (n - (k + 1)))).take (k + 1)) = leNum ((bs.drop (o + (n - k))).take k) * 256 + (bs[o + (n - k - 1)]'(by omega)).toNat := by
  have e : o + (n - (k + 1)) = o + (n - k - 1) := by omega
  have e2 : o + (n - k) = o + (n - k - 1) + 1 := by omega
  rw [e, e2, List.drop_eq_getElem_cons (by omega), List.take_succ_cons]
  simp only [leNum]
  omega

set_option maxHeartbeats 400000 in
theorem get_ok (A : Option Addr) (L c : Nat) (bs : List UInt8) (o n : Nat) (w : World) (hr : Rd w A bs) (hL : bs.length = L) (hn1 : 1 ≤ n) (hn8 : n ≤ 8) (hat : o + n ≤ L) :
    Calls Try.prog 35 #[.slice A L c, .int .i64 o, .int .i64 n] w fun e w' => e = .returned (.tuple #[.int .u64 (leNum ((bs.drop o).take n)), .int .i64 0]) ∧ w = w' := by
  subst hL
  have hmax := hr.le
  obtain ⟨ad, rfl⟩ := hr.some_ (i := o) (by omega)
  have HR := Lib.hid hr
  clear hr
  have h3 : (decide ((n:Int) < 1)) = false := by simp; omega
  go_enter Try.func35, Try.ntmps35
  go_wp2
  go_loop [8, 9] (fun x i => ∃ k : Nat, k ≤ n ∧ i = .int .i64 ((n : Int) - k - 1) ∧ x = .int .u64 (leNum ((bs.drop (o + (n - k))).take k))) (fun _ i => (intOf i + 1).toNat)
  case atStart => exact ⟨0, by omega, by go_num, by simp [leNum]⟩
  case round =>
    obtain ⟨k, hk, rfl, rfl⟩ := hrel
    by_cases hlt : k < n
    · have hcell := HR.out.cell (o + (n - k - 1)) (by omega)
      have htb := take_back bs o n k hlt hat
      have hlt2 := leNum_lt ((bs.drop (o + (n - k))).take k)
      have hlen : ((bs.drop (o + (n - k))).take k).length ≤ 7 := by rw [List.length_take]; omega
      have hsm : leNum ((bs.drop (o + (n - k))).take k) < 72057594037927936 := Nat.lt_of_lt_of_le hlt2 (Nat.le_trans (Nat.pow_le_pow_right (by omega) hlen) (by decide))
      have HO := Lib.hid (or_byte _ (bs[o + (n - k - 1)]'(by omega)) hsm)
      have HT := Lib.hid htb
      clear htb hlt2 hlen hsm
      go_wp2
      go_round
      case rel => exact ⟨k + 1, by omega, by go_num, by rw [HT.out, HO.out]⟩
      case measure => simp [intOf]; omega
    · have hkn : k = n := by omega
      subst hkn
      go_wp2
      go_ret2
      exact ⟨by simp, rfl⟩


set_option maxHeartbeats 400000 in
theorem get_bad (A : Option Addr) (L c : Nat) (o n : Int) (w : World) (hL : L ≤ 9223372036854775807) (h : n < 1 ∨ 8 < n ∨ o < 0 ∨ (L : Int) - n < o) :
    Calls Try.prog 35 #[.slice A L c, .int .i64 o, .int .i64 n] w fun e w' => e = .returned (.tuple #[.int .u64 0, .int .i64 1]) ∧ w = w' := by
  by_cases h1 : n < 1
  · clear h
    go_enter Try.func35, Try.ntmps35
    go_wp2
    go_ret2
    exact ⟨rfl, rfl⟩
  by_cases h2 : 8 < n
  · clear h
    have h1' : 1 ≤ n := by omega
    clear h1
    go_enter Try.func35, Try.ntmps35
    go_wp2
    go_ret2
    exact ⟨rfl, rfl⟩
  by_cases h3 : o < 0
  · clear h
    have h1' : 1 ≤ n := by omega
    have h2' : n ≤ 8 := by omega
    clear h1 h2
    go_enter Try.func35, Try.ntmps35
    go_wp2
    go_ret2
    exact ⟨rfl, rfl⟩
  · have h4 : (L : Int) - n < o := by omega
    have h1' : 1 ≤ n := by omega
    have h2' : n ≤ 8 := by omega
    have h3' : 0 ≤ o := by omega
    clear h1 h2 h3 h
    go_enter Try.func35, Try.ntmps35
    go_wp2
    go_ret2
    exact ⟨rfl, rfl⟩

set_option maxHeartbeats 400000 in
theorem put_bad (x : Nat) (n : Int) (w : World) (h : n < 1 ∨ 8 < n ∨ (n < 8 ∧ 256 ^ n.toNat ≤ x)) :
    Calls Try.prog 33 #[.int .u64 x, .int .i64 n] w fun e w' => e = .returned (.tuple #[.slice none 0 0, .int .i64 1]) ∧ w = w' := by
  by_cases h1 : n < 1
  · clear h
    go_enter Try.func33, Try.ntmps33
    go_wp2
    go_ret2
    exact ⟨rfl, rfl⟩
  by_cases h2 : 8 < n
  · clear h
    have h1' : 1 ≤ n := by omega
    clear h1
    go_enter Try.func33, Try.ntmps33
    go_wp2
    go_ret2
    exact ⟨rfl, rfl⟩
  · have h4 : n < 8 ∧ 256 ^ n.toNat ≤ x := by omega
    obtain ⟨h5, h6⟩ := h4
    have h1' : 1 ≤ n := by omega
    clear h1 h2 h
    have h7 : ((x : Int) / 2 ^ (8 * n).toNat != 0) = true := by
      obtain ⟨m, rfl⟩ := Int.eq_ofNat_of_zero_le (show 0 ≤ n by omega)
      simp only [Int.toNat_natCast] at h6
      have e8 : (8 * (m : Int)).toNat = 8 * m := by omega
      rw [e8, bne_iff_ne]
      have hp : 0 < 256 ^ m := Nat.pow_pos (by omega)
      have hd : 0 < x / 256 ^ m := Nat.div_pos h6 hp
      have e9 : (x : Int) / 2 ^ (8 * m) = ((x / 256 ^ m : Nat) : Int) := by
        rw [← pow8]; simp
      rw [e9]; omega
    clear h6
    go_enter Try.func33, Try.ntmps33
    go_wp2
    go_ret2
    exact ⟨rfl, rfl⟩

theorem put_byte (x k : Nat) : IntKind.u8.wrap ((x : Int) / 2 ^ (8 * k)) = ((UInt8.ofNat (x / 256 ^ k % 256)).toNat : Int) := by
  have e : IntKind.u8.wrap ((x : Int) / 2 ^ (8 * k)) = ((x : Int) / 2 ^ (8 * k)) % 256 := by simp [IntKind.wrap, IntKind.bits, IntKind.signed]
  have e2 : ((x : Int) / 2 ^ (8 * k)) = ((x / 256 ^ k : Nat) : Int) := by rw [← pow8]; simp
  rw [e, e2]
  simp

set_option maxHeartbeats 400000 in
theorem put_ok (x n : Nat) (w : World) (h1 : 1 ≤ n) (h8 : n ≤ 8) (hf : x < 256 ^ n) :
    Calls Try.prog 33 #[.int .u64 x, .int .i64 n] w fun e w' => ∃ A c, e = .returned (.tuple #[.slice A n c, .int .i64 0]) ∧
      Own w' 5 w.heap.size (.slice A n c) (leBytes x n) ∧ Below w.heap.size w w' := by
  have h3 : (decide ((n:Int) < 1)) = false := by simp; omega
  have hmk := run_make_rd (P := Try.prog) 22 5 Try.underlying22 Try.infoU8 .i64 .i64 n (by omega)
  have hcase : 8 ≤ n ∨ n < 8 ∧ ((x : Int) / 2 ^ (8 * n) != 0) = false := by
    by_cases h : 8 ≤ n
    · exact .inl h
    · refine .inr ⟨by omega, ?_⟩
      have e9 : (x : Int) / 2 ^ (8 * n) = ((x / 256 ^ n : Nat) : Int) := by rw [← pow8]; simp
      rw [e9, Nat.div_eq_of_lt hf]; rfl
  have hl := leBytes_len n x
  have HL := Lib.hid hl
  have hm := Own.made w 5 n (by omega)
  have HM := Lib.hid hm
  have HB : Below w.heap.size w (w.alloc (.cells (bVs (List.replicate n 0)).toArray 5)) := (Below.refl _ _).alloc (Nat.le_refl _) _
  clear hl hm hf
  rcases hcase with h7 | ⟨h7, h9⟩
  all_goals
    go_enter Try.func33, Try.ntmps33
    go_wp2
    generalize w.alloc (.cells (bVs (List.replicate _ 0)).toArray 5) = w1 at *
    go_loopw [29] (fun i wr => ∃ k : Nat, k ≤ n ∧ i = .int .i64 k ∧ Own wr 5 w.heap.size (.slice (some ⟨w.heap.size, 0, none⟩) (part (leBytes x n) k n).length n) (part (leBytes x n) k n) ∧ Below w.heap.size w wr) (fun i _ => n - (intOf i).toNat)
    case atStart => exact ⟨0, by omega, rfl, by rw [part_zero]; simpa using HM.out, HB⟩
    case round =>
      obtain ⟨k, hk, rfl, hown, hbel⟩ := hrel
      by_cases hlt : k < n
      · have hpl := part_len (leBytes x n) k n HL.out hk
        obtain ⟨u, hc⟩ := hown.cellEx k (by omega)
        have hf := hown.frozenG k
        have hs := hown.set k ((leBytes x n)[k]'(by rw [HL.out]; exact hlt))
        have hps := part_set (leBytes x n) k n HL.out hlt
        have hbt := leBytes_at x k n (by rw [HL.out]; exact hlt)
        have hpb := put_byte x k
        have hbel2 : Below w.heap.size w (wr.setCell ⟨w.heap.size, k, none⟩ (.int .u8 (((leBytes x n)[k]'(by rw [HL.out]; exact hlt)).toNat : Int))) := hbel.setCell (Nat.le_refl _) _
        rw [hps] at hs
        rw [hbt, ← hpb] at hs hbel2
        have HS := Lib.hid hs
        have HB2 := Lib.hid hbel2
        clear hs hps hbt hpb hbel2 hpl hown hbel HM HB
        go_wp2
        go_roundw
        case rel => exact ⟨k + 1, by omega, by go_num, HS.out, HB2.out⟩
        case measure => simp [intOf]; omega
      · have hkn : k = n := by omega
        subst hkn
        rw [part_all _ _ HL.out, HL.out] at hown
        go_wp2
        go_ret2
        exact ⟨_, _, rfl, hown, hbel⟩


theorem u32_not (x : Nat) (h : x < 4294967296) : bits .xor .u32 IntKind.u32.max (x : Int) = ((4294967295 - x : Nat) : Int) := by
  have e : IntKind.u32.max = ((4294967295 : Nat) : Int) := by decide
  rw [e, u32_xor_nat _ _ (by omega) h]
  have h2 := congrArg BitVec.toNat (BitVec.allOnes_xor (x := BitVec.ofNat 32 x))
  rw [BitVec.toNat_xor, BitVec.toNat_not, BitVec.toNat_allOnes, BitVec.toNat_ofNat, Nat.mod_eq_of_lt h] at h2
  have h3 : 4294967295 ^^^ x = 4294967295 - x := h2
  rw [h3]

theorem and15 (c : Nat) (h : c < 4294967296) : bits .and .u32 (c : Int) 15 = ((c % 16 : Nat) : Int) := by
  have := u32_and_nat c 15 h (by omega)
  rw [Nat.and_two_pow_sub_one_eq_mod c 4] at this
  exact this
theorem xor32 (a b : Nat) (ha : a < 4294967296) (hb : b < 4294967296) : bits .xor .u32 (a : Int) (b : Int) = ((a ^^^ b : Nat) : Int) := u32_xor_nat a b ha hb
theorem xor32s (t c : Nat) (ht : t < 4294967296) (hc : c < 4294967296) : bits .xor .u32 (t : Int) ((c : Int) / 16) = ((t ^^^ (c / 16) : Nat) : Int) := by
  have e : (c : Int) / 16 = ((c / 16 : Nat) : Int) := by simp
  rw [e, u32_xor_nat _ _ ht (by omega)]

set_option maxHeartbeats 400000 in
theorem crc_any (A : Option Addr) (L c : Nat) (bs : List UInt8) (seed : Nat) (w : World) (hr : Rd w A bs) (hL : bs.length = L) (hs : seed < 4294967296) :
    Calls Try.prog 32 #[.int .u32 seed, .slice A L c] w fun e w' => e = .returned (.int .u32 (crc seed bs)) ∧ Below w.heap.size w w' := by
  subst hL
  have hmax := hr.le
  have hn := u32_not seed hs
  obtain ⟨s0, hs0⟩ : ∃ s0, s0 = 4294967295 - seed := ⟨_, rfl⟩
  rw [← hs0] at hn
  have HS0 := Lib.hid hs0
  have hs0l : s0 < 4294967296 := by omega
  clear hs0
  have HR := Lib.hid hr
  clear hr
  go_enter Try.func32, Try.ntmps32
  go_wp2
  generalize hW : w.alloc (.cells #[.int .u32 0, .int .u32 274646895, .int .u32 549293790, .int .u32 820201905, .int .u32 1098587580, .int .u32 1361435347, .int .u32 1640403810, .int .u32 1905808397, .int .u32 2197175160, .int .u32 2460548119, .int .u32 2722870694, .int .u32 2987750089, .int .u32 3280807620, .int .u32 3553878443, .int .u32 3811616794, .int .u32 4084100981] 101) = W0
  have HC : Hid (∀ j, j < 16 → W0.cell? ⟨w.heap.size, j, none⟩ = some (.int .u32 (crcT.getD j 0 : Nat))) := by
    subst hW
    intro j hj
    rw [World.cell?_alloc_mark]
    have e : (#[.int .u32 0, .int .u32 274646895, .int .u32 549293790, .int .u32 820201905, .int .u32 1098587580, .int .u32 1361435347, .int .u32 1640403810, .int .u32 1905808397, .int .u32 2197175160, .int .u32 2460548119, .int .u32 2722870694, .int .u32 2987750089, .int .u32 3280807620, .int .u32 3553878443, .int .u32 3811616794, .int .u32 4084100981] : Array Value) = (crcT.map fun (n : Nat) => Value.int .u32 (n : Int)).toArray := rfl
    rw [e]
    have hl : crcT.length = 16 := rfl
    simp only [List.getElem?_toArray, List.getElem?_map, List.getD]
    rw [List.getElem?_eq_getElem (by omega)]
    rfl
  have HR0 : Hid (Rd W0 A bs) := by subst hW; exact HR.out.alloc _
  have HB : Below w.heap.size w W0 := by subst hW; exact (Below.refl _ _).alloc (Nat.le_refl _) _
  clear hW
  go_loop [6, 14] (fun x i => ∃ k : Nat, k ≤ bs.length ∧ i = .int .i64 k ∧ x = .int .u32 (crcL s0 (bs.take k))) (fun _ i => bs.length - (intOf i).toNat)
  case atStart => exact ⟨0, by omega, rfl, rfl⟩
  case round =>
    obtain ⟨k, hk, rfl, rfl⟩ := hrel
    by_cases hlt : k < bs.length
    · obtain ⟨ad, rfl⟩ := HR0.out.some_ hlt
      have hcell := HR0.out.cell k hlt
      have hsn := crcL_snoc s0 bs k hlt
      have hcl := crcL_lt (bs.take k) s0 hs0l
      generalize crcL s0 (bs.take k) = c0 at *
      generalize bs[k] = b at *
      have hb := b.toNat_lt
      obtain ⟨c1, hc1⟩ : ∃ c1, c1 = c0 ^^^ b.toNat := ⟨_, rfl⟩
      have hc1l : c1 < 4294967296 := by rw [hc1]; exact xor_lt32 hcl (by omega)
      obtain ⟨c2, hc2⟩ : ∃ c2, c2 = nib c1 := ⟨_, rfl⟩
      have hc2l : c2 < 4294967296 := by rw [hc2]; exact nib_lt _ hc1l
      have hsn2 : crcL s0 (List.take (k + 1) bs) = nib c2 := by rw [hsn, hc2, hc1]; rfl
      have HSN := Lib.hid hsn2
      have f1 := xor32 c0 b.toNat hcl (by omega)
      rw [← hc1] at f1
      have f2 := and15 c1 hc1l
      have f3 := xor32s (crcT.getD (c1 % 16) 0) c1 (crcT_lt _) hc1l
      have e3 : crcT.getD (c1 % 16) 0 ^^^ (c1 / 16) = c2 := hc2.symm
      rw [e3] at f3
      have f4 := and15 c2 hc2l
      have f5 := xor32s (crcT.getD (c2 % 16) 0) c2 (crcT_lt _) hc2l
      have e5 : crcT.getD (c2 % 16) 0 ^^^ (c2 / 16) = nib c2 := rfl
      rw [e5] at f5
      have g1 := HC.out (c1 % 16) (by omega)
      have g2 := HC.out (c2 % 16) (by omega)
      have b1 : c1 % 16 < 16 := by omega
      have b2 : c2 % 16 < 16 := by omega
      clear e3 e5 hsn hsn2 hc1 hc2
      generalize crcT.getD (c1 % 16) 0 = t1 at *
      generalize crcT.getD (c2 % 16) 0 = t2 at *
      generalize c1 % 16 = j1 at *
      generalize c2 % 16 = j2 at *
      generalize nib c2 = c3 at *
      go_wp2
      go_round
      case rel => exact ⟨k + 1, by omega, by go_num, by rw [HSN.out]⟩
      case measure => simp [intOf]; omega
    · have hkn : k = bs.length := by omega
      have hfin : crcL s0 (bs.take k) = crcL s0 bs := by rw [hkn, List.take_length]
      rw [hfin]
      have hlt2 := crcL_lt bs s0 hs0l
      have hn2 := u32_not _ hlt2
      have hout : 4294967295 - crcL s0 bs = crc seed bs := by rw [HS0.out]; rfl
      rw [hout] at hn2
      clear hout hfin
      go_wp2
      go_ret
      exact ⟨rfl, HB⟩
end
section
/-
  THE WALKS over package octets, further: the exclusive or, bits.
-/
open Go.RowKit

theorem xor_byte (a b : UInt8) : bits .xor .u8 (a.toNat : Int) (b.toNat : Int) = ((a ^^^ b).toNat : Int) := by
  rw [u8_xor_nat _ _ a.toNat_lt b.toNat_lt, UInt8.toNat_xor]

theorem bit_form (b : UInt8) (i : Nat) : (bits .and .u8 ((b.toNat : Int) / 2 ^ i) 1 == 1) = bitN b.toNat i := by
  have e : (b.toNat : Int) / 2 ^ i = ((b.toNat / 2 ^ i : Nat) : Int) := by simp
  have hl : b.toNat / 2 ^ i < 256 := Nat.lt_of_le_of_lt (Nat.div_le_self _ _) b.toNat_lt
  have h := u8_and_nat (b.toNat / 2 ^ i) 1 hl (by omega)
  rw [Nat.and_one_is_mod] at h
  rw [e]
  have h' : bits .and .u8 ((b.toNat / 2 ^ i : Nat) : Int) 1 = ((b.toNat / 2 ^ i % 2 : Nat) : Int) := h
  rw [h']
  unfold bitN
  rw [Bool.eq_iff_iff, beq_iff_eq, beq_iff_eq]
  omega

theorem pow_u8 (r : Nat) (h : r < 8) : IntKind.u8.wrap ((2 : Int) ^ r) = ((2 ^ r : Nat) : Int) ∧ 2 ^ r < 256 := by
  have hl : 2 ^ r < 256 := Nat.pow_lt_pow_right (n := 8) (by omega) h
  refine ⟨?_, hl⟩
  have e : IntKind.u8.wrap ((2 : Int) ^ r) = ((2 : Int) ^ r) % 256 := by simp [IntKind.wrap, IntKind.bits, IntKind.signed]
  have e2 : (2 : Int) ^ r = ((2 ^ r : Nat) : Int) := by simp
  rw [e, e2]
  generalize 2 ^ r = t at *
  omega
theorem clr_byte (b : UInt8) (r : Nat) (h : r < 8) : bits .andNot .u8 (b.toNat : Int) (IntKind.u8.wrap ((2 : Int) ^ r)) = ((UInt8.ofNat (clrN b.toNat r)).toNat : Int) := by
  obtain ⟨e, hl⟩ := pow_u8 r h
  rw [e, u8_andNot_nat _ _ b.toNat_lt hl]
  have := clrN_lt b.toNat r b.toNat_lt
  unfold clrN at this ⊢
  rw [UInt8.toNat_ofNat_of_lt' this]
theorem set_byte (b : UInt8) (r : Nat) (h : r < 8) : bits .or .u8 ((UInt8.ofNat (clrN b.toNat r)).toNat : Int) (IntKind.u8.wrap ((2 : Int) ^ r)) = ((setB b r true).toNat : Int) := by
  obtain ⟨e, hl⟩ := pow_u8 r h
  have h2 := clrN_lt b.toNat r b.toNat_lt
  rw [e, u8_or_nat _ _ (UInt8.toNat_lt _) hl, UInt8.toNat_ofNat_of_lt' h2]
  have h3 := setN_lt b.toNat r true b.toNat_lt h
  unfold setB
  rw [UInt8.toNat_ofNat_of_lt' h3]
  simp [setN]

end
section
/-
  THE WALKS over package octets, the last ones: bits looked for and counted.
-/
open Go.RowKit

end
section
/-
  THE WALKS over package ashlarref01, the first ones: numbers, the sum, the exclusive or.
-/
open Go.RowKit


set_option maxHeartbeats 400000 in
theorem rput_bad0 (x : Nat) (n : Int) (w : World) (h : n < 1 ∨ 8 < n) :
    Calls Try.prog 51 #[.int .u64 x, .int .i64 n] w fun e w' => e = .returned (.tuple #[.slice none 0 0, .int .i64 1]) ∧ w = w' := by
  by_cases h1 : n < 1
  · clear h
    go_enter Try.func51, Try.ntmps51
    go_wp2
    go_ret2
    exact ⟨rfl, rfl⟩
  · have h2 : 8 < n := by omega
    have h1' : 1 ≤ n := by omega
    clear h h1
    go_enter Try.func51, Try.ntmps51
    go_wp2
    go_ret2
    exact ⟨rfl, rfl⟩

theorem rput_byte (x : Nat) : IntKind.u8.wrap ((x : Int) % 256) = ((UInt8.ofNat (x % 256)).toNat : Int) := by
  have e : IntKind.u8.wrap ((x : Int) % 256) = ((x : Int) % 256) % 256 := by simp [IntKind.wrap, IntKind.bits, IntKind.signed]
  rw [e]
  simp

set_option maxRecDepth 100000 in
set_option maxHeartbeats 1000000 in
theorem rput_all (x n : Nat) (w : World) (hx : x < 18446744073709551616) (h1 : 1 ≤ n) (h8 : n ≤ 8) :
    Calls Try.prog 51 #[.int .u64 x, .int .i64 n] w fun e w' => Below w.heap.size w w' ∧
      (256 ^ n ≤ x → e = .returned (.tuple #[.slice none 0 0, .int .i64 1])) ∧
      (x < 256 ^ n → ∃ A c, e = .returned (.tuple #[.slice A n c, .int .i64 0]) ∧ Own w' 5 w.heap.size (.slice A n c) (leBytes x n)) := by
  have h3 : (decide ((n:Int) < 1)) = false := by simp; omega
  go_enter Try.func51, Try.ntmps51
  go_wp2
  go_loopw [0, 6, 7] (fun t v i wr => ∃ k : Nat, k ≤ n ∧ i = .int .i64 k ∧ t = .int .u64 (x / 256 ^ k : Nat) ∧ Own wr 5 w.heap.size v (leBytes x k) ∧ Below w.heap.size w wr) (fun _ _ i _ => n - (intOf i).toNat)
  case atStart => exact ⟨0, by omega, rfl, by simp, World.ownsRow_nil _ _ _ _, Below.refl _ _⟩
  case round =>
    obtain ⟨k, hk, rfl, rfl, hown, hbel⟩ := hrel
    have hsn := leBytes_snoc k x
    have hle : x / 256 ^ k ≤ x := Nat.div_le_self _ _
    have hdd : x / 256 ^ (k + 1) = x / 256 ^ k / 256 := by rw [Nat.pow_succ, Nat.div_div_eq_div_mul]
    have hlk := leBytes_len k x
    by_cases hlt : k < n
    · generalize x / 256 ^ k = y at *
      have hrb := rput_byte y
      generalize UInt8.ofNat (y % 256) = b at *
      have HSN := Lib.hid hsn
      have HDD := Lib.hid hdd
      have HLK := Lib.hid hlk
      clear hsn hdd hlk
      go_wp2_with (at_builtin; refine wpList_append_rd rfl (.tmp 19) (.tmp 23) 22 rfl w.heap.size 5 Try.underlying22 Try.infoU8 _ (leBytes x k) [b] (some ⟨wr.heap.size, 0, none⟩) 1 1 rfl rfl (own_lit hown _) (Rd.lit wr _ [b] (by simp)) rfl (by have := HLK.out; simp; omega) (by have := hbel.size; simp; omega) ?_; intro v1 w1 hown1 hg1)
      have hb1 : Below w.heap.size w w1 := (hbel.alloc hbel.size _).trans ((own_lit hown _).grow hg1 (by have := hbel.size; simp; omega))
      rw [← HSN.out] at hown1
      go_roundw
      case rel => exact ⟨k + 1, by omega, by go_num, by rw [HDD.out]; simp, hown1, hb1⟩
      case measure => simp [intOf]; omega
    · have hkn : k = n := by omega
      subst hkn
      clear hsn hdd hle
      by_cases hf : x < 256 ^ k
      · have hz : x / 256 ^ k = 0 := Nat.div_eq_of_lt hf
        rw [hz]
        obtain ⟨A, c, rfl, hr, _⟩ := hown.form
        rw [hlk] at hown
        have HLK := Lib.hid hlk
        clear hz hlk hr
        go_wp2
        go_ret2
        rw [HLK.out]
        exact ⟨hbel, fun h => absurd hf (by omega), fun _ => ⟨A, c, rfl, hown⟩⟩
      · have hz : 0 < x / 256 ^ k := Nat.div_pos (by omega) (Nat.pow_pos (by omega))
        generalize x / 256 ^ k = y at *
        clear hlk
        go_wp2
        go_ret2
        exact ⟨hbel, fun _ => rfl, fun h => absurd h hf⟩

set_option maxHeartbeats 400000 in
theorem rget_ok (A : Option Addr) (L c : Nat) (bs : List UInt8) (o n : Nat) (w : World) (hr : Rd w A bs) (hL : bs.length = L) (hn1 : 1 ≤ n) (hn8 : n ≤ 8) (hat : o + n ≤ L) :
    Calls Try.prog 36 #[.slice A L c, .int .i64 o, .int .i64 n] w fun e w' => e = .returned (.tuple #[.int .u64 (leNum ((bs.drop o).take n)), .int .i64 0]) ∧ w = w' := by
  subst hL
  have hmax := hr.le
  obtain ⟨ad, rfl⟩ := hr.some_ (i := o) (by omega)
  have HR := Lib.hid hr
  clear hr
  have h3 : (decide ((n:Int) < 1)) = false := by simp; omega
  go_enter Try.func36, Try.ntmps36
  go_wp2
  go_loop [8, 9] (fun x i => ∃ k : Nat, k ≤ n ∧ i = .int .i64 ((n : Int) - k - 1) ∧ x = .int .u64 (leNum ((bs.drop (o + (n - k))).take k))) (fun _ i => (intOf i + 1).toNat)
  case atStart => exact ⟨0, by omega, by go_num, by simp [leNum]⟩
  case round =>
    obtain ⟨k, hk, rfl, rfl⟩ := hrel
    by_cases hlt : k < n
    · have hcell := HR.out.cell (o + (n - k - 1)) (by omega)
      have htb := take_back bs o n k hlt hat
      have hlt2 := leNum_lt ((bs.drop (o + (n - k))).take k)
      have hlen : ((bs.drop (o + (n - k))).take k).length ≤ 7 := by rw [List.length_take]; omega
      have hsm : leNum ((bs.drop (o + (n - k))).take k) < 72057594037927936 := Nat.lt_of_lt_of_le hlt2 (Nat.le_trans (Nat.pow_le_pow_right (by omega) hlen) (by decide))
      have hb := (bs[o + (n - k - 1)]'(by omega)).toNat_lt
      clear hlt2 hlen
      generalize leNum ((bs.drop (o + (n - k))).take k) = x0 at *
      generalize (bs[o + (n - k - 1)]'(by omega)).toNat = b0 at *
      have HT := Lib.hid htb
      clear htb
      go_wp2
      go_round
      case rel => exact ⟨k + 1, by omega, by go_num, by rw [HT.out]; go_num⟩
      case measure => simp [intOf]; omega
    · have hkn : k = n := by omega
      subst hkn
      go_wp2
      go_ret2
      exact ⟨by simp, rfl⟩

set_option maxHeartbeats 400000 in
theorem rget_bad (A : Option Addr) (L c : Nat) (o n : Int) (w : World) (h : n < 1 ∨ 8 < n ∨ o < 0 ∨ (L : Int) - n < o) :
    Calls Try.prog 36 #[.slice A L c, .int .i64 o, .int .i64 n] w fun e w' => e = .returned (.tuple #[.int .u64 0, .int .i64 1]) ∧ w = w' := by
  by_cases h1 : n < 1
  · clear h
    go_enter Try.func36, Try.ntmps36
    go_wp2
    go_ret2
    exact ⟨rfl, rfl⟩
  by_cases h2 : 8 < n
  · clear h
    have h1' : 1 ≤ n := by omega
    clear h1
    go_enter Try.func36, Try.ntmps36
    go_wp2
    go_ret2
    exact ⟨rfl, rfl⟩
  have h1' : 1 ≤ n := by omega
  have h2' : n ≤ 8 := by omega
  clear h1 h2
  by_cases h3 : o < 0
  · clear h
    go_enter Try.func36, Try.ntmps36
    go_wp2
    go_ret2
    exact ⟨rfl, rfl⟩
  have h3' : 0 ≤ o := by omega
  clear h3
  by_cases h4 : (L : Int) < o
  · clear h
    go_enter Try.func36, Try.ntmps36
    go_wp2
    go_ret2
    exact ⟨rfl, rfl⟩
  · have h5 : (L : Int) - o < n := by omega
    have h4' : o ≤ (L : Int) := by omega
    clear h4 h
    go_enter Try.func36, Try.ntmps36
    go_wp2
    go_ret2
    exact ⟨rfl, rfl⟩


theorem crc_round (c k : Nat) (h : c < 4294967296) : crcBits (k + 1) c = crcBit (crcBits k c) ∧ crcBits k c < 4294967296 := ⟨rfl, crcBits_lt k c h⟩
theorem xor32p (c : Nat) (hc : c < 4294967296) : bits .xor .u32 ((c : Int) / 2) 2197175160 = (((c / 2) ^^^ 2197175160 : Nat) : Int) := by
  have e : (c : Int) / 2 = ((c / 2 : Nat) : Int) := by simp
  rw [e]
  exact u32_xor_nat _ 2197175160 (by omega) (by omega)
theorem u32_not2 (x : Nat) (h : x < 4294967296) : bits .xor .u32 (x : Int) 4294967295 = ((4294967295 - x : Nat) : Int) := by
  have e := u32_not x h
  have e1 : IntKind.u32.max = ((4294967295 : Nat) : Int) := by decide
  rw [e1, u32_xor_nat _ _ (by omega) h] at e
  have e2 := u32_xor_nat x 4294967295 h (by omega)
  rw [Nat.xor_comm] at e2
  exact e2.trans e

set_option maxRecDepth 100000 in
set_option maxHeartbeats 1000000 in
theorem rcrc_any (A : Option Addr) (L c : Nat) (bs : List UInt8) (seed : Nat) (w : World) (hr : Rd w A bs) (hL : bs.length = L) (hs : seed < 4294967296) :
    Calls Try.prog 29 #[.int .u32 seed, .slice A L c] w fun e w' => e = .returned (.int .u32 (crc seed bs)) ∧ w = w' := by
  subst hL
  have hmax := hr.le
  have hn := u32_not2 seed hs
  obtain ⟨s0, hs0⟩ : ∃ s0, s0 = 4294967295 - seed := ⟨_, rfl⟩
  rw [← hs0] at hn
  have HS0 := Lib.hid hs0
  have hs0l : s0 < 4294967296 := by omega
  clear hs0
  have HR := Lib.hid hr
  clear hr
  go_enter Try.func29, Try.ntmps29
  go_wp2
  go_loop [5, 6] (fun x i => ∃ k : Nat, k ≤ bs.length ∧ i = .int .i64 k ∧ x = .int .u32 (crcL s0 (bs.take k))) (fun _ i => bs.length - (intOf i).toNat)
  case atStart => exact ⟨0, by omega, rfl, rfl⟩
  case round =>
    obtain ⟨k, hk, rfl, rfl⟩ := hrel
    by_cases hlt : k < bs.length
    · obtain ⟨ad, rfl⟩ := HR.out.some_ hlt
      have hcell := HR.out.cell k hlt
      have hsn := crcL_snoc s0 bs k hlt
      have hcl := crcL_lt (bs.take k) s0 hs0l
      generalize crcL s0 (bs.take k) = c0 at *
      generalize bs[k] = b at *
      have hb := b.toNat_lt
      obtain ⟨c1, hc1⟩ : ∃ c1, c1 = c0 ^^^ b.toNat := ⟨_, rfl⟩
      have hc1l : c1 < 4294967296 := by rw [hc1]; exact xor_lt32 hcl (by omega)
      have hsn2 : crcL s0 (List.take (k + 1) bs) = crcBits 8 c1 := by rw [hsn, crcBits_8 c1 hc1l, hc1]; rfl
      have HSN := Lib.hid hsn2
      have f1 := xor32 c0 b.toNat hcl (by omega)
      rw [← hc1] at f1
      clear hsn hsn2 hc1
      go_wp2
      go_loop [5, 7, 8] (fun x i o => ∃ j : Nat, j ≤ 8 ∧ i = .int .i64 j ∧ x = .int .u32 (crcBits j c1)) (fun _ i _ => 8 - (intOf i).toNat)
      case atStart => exact ⟨0, by omega, rfl, rfl⟩
      case round =>
        obtain ⟨j, hj, rfl, rfl⟩ := hrel
        obtain ⟨hr1, hr2⟩ := crc_round c1 j hc1l
        by_cases hj8 : j < 8
        · generalize crcBits j c1 = d at *
          have hp := xor32p d hr2
          have HR1 := Lib.hid hr1
          clear hr1
          by_cases ho : d % 2 = 1
          · have h1 : ((d : Int) % 2 == 1) = true := by rw [beq_iff_eq]; omega
            have HO := Lib.hid ho
            clear ho
            go_wp2
            go_round
            case rel => exact ⟨j + 1, by omega, by go_num, by rw [HR1.out, crcBit, if_pos HO.out]⟩
            case measure => simp [intOf]; omega
          · have h1 : ((d : Int) % 2 == 1) = false := by rw [beq_eq_false_iff_ne]; omega
            have HO := Lib.hid ho
            clear ho
            go_wp2
            go_round
            case rel => exact ⟨j + 1, by omega, by go_num, by rw [HR1.out, crcBit, if_neg HO.out]; simp⟩
            case measure => simp [intOf]; omega
        · have hj8' : j = 8 := by omega
          subst hj8'
          rw [← HSN.out]
          clear hr1 hr2
          go_wp2
          go_round
          case rel => exact ⟨k + 1, by omega, by go_num, rfl⟩
          case measure => simp [intOf]; omega
    · have hkn : k = bs.length := by omega
      have hfin : crcL s0 (bs.take k) = crcL s0 bs := by rw [hkn, List.take_length]
      rw [hfin]
      have hlt2 := crcL_lt bs s0 hs0l
      have hn2 := u32_not2 _ hlt2
      have hout : 4294967295 - crcL s0 bs = crc seed bs := by rw [HS0.out]; rfl
      rw [hout] at hn2
      clear hout hfin
      go_wp2
      go_ret
      exact ⟨rfl, rfl⟩
end
end Go.Proofs.Ytibpmiapcihkfaa

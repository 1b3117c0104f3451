/-
 Several texts of this work in one (merge.py): OctA, OctB, OctC, OctR.
-/
import Derived.Test.YtajnlhalanhicaaProg
import Derived.Test.YtajnlhalanhicaaBase
import Derived.StillTailTactics
import Derived.Deep.AppendLies
import Derived.RegionTactic
namespace Go.Proofs.Ytajnlhalanhicaa
set_option linter.all false
set_option maxRecDepth 20000
section
open Go.RowKit
theorem Try.infoU8 : (Try.prog.info? 5).map (fun i => (i.zero, i.size, i.bytes)) = some (some (.int .u8 0), 1, 1) := by kernel_rfl
theorem or_byte (x : Nat) (b : UInt8) (h : x < 72057594037927936) : bits .or .u64 (IntKind.u64.wrap ((x : Int) * 256)) (IntKind.u64.wrap (b.toNat : Int)) = ((x * 256 + b.toNat : Nat) : Int) := by
 have hb := b.toNat_lt
 have eb : IntKind.u64.wrap (b.toNat : Int) = ((b.toNat : Nat) : Int) := by
  have : IntKind.u64.wrap (b.toNat : Int) = (b.toNat : Int) % 18446744073709551616 := by simp [IntKind.wrap, IntKind.bits, IntKind.signed]
  rw [this]; omega
 rw [eb]
 have e : IntKind.u64.wrap ((x : Int) * 256) = ((x * 256 : Nat) : Int) := by
  have : IntKind.u64.wrap ((x : Int) * 256) = ((x : Int) * 256) % 18446744073709551616 := by simp [IntKind.wrap, IntKind.bits, IntKind.signed]
  rw [this]; omega
 rw [e, u64_or_nat _ _ (by omega) (by omega)]
 congr 1
 have := Nat.two_pow_add_eq_or_of_lt (i := 8) (b := b.toNat) (by omega) x
 have h2 : x * 256 = 2 ^ 8 * x := by omega
 rw [h2, ← this]
theorem take_back (bs : List UInt8) (o n k : Nat) (hk : k < n) (ho : o + n ≤ bs.length) :
  leNum ((bs.drop (o + (n - (k + 1)))).take (k + 1)) = leNum ((bs.drop (o + (n - k))).take k) * 256 + (bs[o + (n - k - 1)]'(by omega)).toNat := by
 have e : o + (n - (k + 1)) = o + (n - k - 1) := by omega
 have e2 : o + (n - k) = o + (n - k - 1) + 1 := by omega
 rw [e, e2, List.drop_eq_getElem_cons (by omega), List.take_succ_cons]
 simp only [leNum]
 omega
set_option maxHeartbeats 400000 in
theorem get_ok (A : Option Addr) (L c : Nat) (bs : List UInt8) (o n : Nat) (w : World) (hr : Rd w A bs) (hL : bs.length = L) (hn1 : 1 ≤ n) (hn8 : n ≤ 8) (hat : o + n ≤ L) :
  Calls Try.prog 86 #[.slice A L c, .int .i64 o, .int .i64 n] w fun e w' => e = .returned (.tuple #[.int .u64 (leNum ((bs.drop o).take n)), .int .i64 0]) ∧ w = w' := by
 subst hL
 have hmax := hr.le
 obtain ⟨ad, rfl⟩ := hr.some_ (i := o) (by omega)
 have HR := Lib.hid hr
 clear hr
 have h3 : (decide ((n:Int) < 1)) = false := by simp; omega
 go_enter Try.func86, Try.ntmps86
 go_wp2
 go_loop [8, 9] (fun x i => ∃ k : Nat, k ≤ n ∧ i = .int .i64 ((n : Int) - k - 1) ∧ x = .int .u64 (leNum ((bs.drop (o + (n - k))).take k))) (fun _ i => (intOf i + 1).toNat)
 case atStart => exact ⟨0, by omega, by go_num, by simp [leNum]⟩
 case round =>
  obtain ⟨k, hk, rfl, rfl⟩ := hrel
  by_cases hlt : k < n
  ·have hcell := HR.out.cell (o + (n - k - 1)) (by omega)
   have htb := take_back bs o n k hlt hat
   have hlt2 := leNum_lt ((bs.drop (o + (n - k))).take k)
   have hlen : ((bs.drop (o + (n - k))).take k).length ≤ 7 := by rw [List.length_take]; omega
   have hsm : leNum ((bs.drop (o + (n - k))).take k) < 72057594037927936 := Nat.lt_of_lt_of_le hlt2 (Nat.le_trans (Nat.pow_le_pow_right (by omega) hlen) (by decide))
   have HO := Lib.hid (or_byte _ (bs[o + (n - k - 1)]'(by omega)) hsm)
   have HT := Lib.hid htb
   clear htb hlt2 hlen hsm
   go_wp2
   go_round
   case rel => exact ⟨k + 1, by omega, by go_num, by rw [HT.out, HO.out]⟩
   case measure => simp [intOf]; omega
  ·have hkn : k = n := by omega
   subst hkn
   go_wp2
   go_ret2
   exact ⟨by simp, rfl⟩
set_option maxHeartbeats 400000 in
theorem get_bad (A : Option Addr) (L c : Nat) (o n : Int) (w : World) (hL : L ≤ 9223372036854775807) (h : n < 1 ∨ 8 < n ∨ o < 0 ∨ (L : Int) - n < o) :
  Calls Try.prog 86 #[.slice A L c, .int .i64 o, .int .i64 n] w fun e w' => e = .returned (.tuple #[.int .u64 0, .int .i64 1]) ∧ w = w' := by
 by_cases h1 : n < 1
 ·clear h
  go_enter Try.func86, Try.ntmps86
  go_wp2
  go_ret2
  exact ⟨rfl, rfl⟩
 by_cases h2 : 8 < n
 ·clear h
  have h1' : 1 ≤ n := by omega
  clear h1
  go_enter Try.func86, Try.ntmps86
  go_wp2
  go_ret2
  exact ⟨rfl, rfl⟩
 by_cases h3 : o < 0
 ·clear h
  have h1' : 1 ≤ n := by omega
  have h2' : n ≤ 8 := by omega
  clear h1 h2
  go_enter Try.func86, Try.ntmps86
  go_wp2
  go_ret2
  exact ⟨rfl, rfl⟩
 ·have h4 : (L : Int) - n < o := by omega
  have h1' : 1 ≤ n := by omega
  have h2' : n ≤ 8 := by omega
  have h3' : 0 ≤ o := by omega
  clear h1 h2 h3 h
  go_enter Try.func86, Try.ntmps86
  go_wp2
  go_ret2
  exact ⟨rfl, rfl⟩
theorem put_byte (x k : Nat) : IntKind.u8.wrap ((x : Int) / 2 ^ (8 * k)) = ((UInt8.ofNat (x / 256 ^ k % 256)).toNat : Int) := by
 have e : IntKind.u8.wrap ((x : Int) / 2 ^ (8 * k)) = ((x : Int) / 2 ^ (8 * k)) % 256 := by simp [IntKind.wrap, IntKind.bits, IntKind.signed]
 have e2 : ((x : Int) / 2 ^ (8 * k)) = ((x / 256 ^ k : Nat) : Int) := by rw [← pow8]; simp
 rw [e, e2]
 simp
set_option maxHeartbeats 400000 in
theorem put_ok (x n : Nat) (w : World) (h1 : 1 ≤ n) (h8 : n ≤ 8) (hf : x < 256 ^ n) :
  Calls Try.prog 49 #[.int .u64 x, .int .i64 n] w fun e w' => ∃ A c, e = .returned (.tuple #[.slice A n c, .int .i64 0]) ∧
   Own w' 5 w.heap.size (.slice A n c) (leBytes x n) ∧ Below w.heap.size w w' := by
 have h3 : (decide ((n:Int) < 1)) = false := by simp; omega
 have hmk := run_make_rd (P := Try.prog) 32 5 Try.underlying32 Try.infoU8 .i64 .i64 n (by omega)
 have hcase : 8 ≤ n ∨ n < 8 ∧ ((x : Int) / 2 ^ (8 * n) != 0) = false := by
  by_cases h : 8 ≤ n
  ·exact .inl h
  ·refine .inr ⟨by omega, ?_⟩
   have e9 : (x : Int) / 2 ^ (8 * n) = ((x / 256 ^ n : Nat) : Int) := by rw [← pow8]; simp
   rw [e9, Nat.div_eq_of_lt hf]; rfl
 have hl := leBytes_len n x
 have HL := Lib.hid hl
 have hm := Own.made w 5 n (by omega)
 have HM := Lib.hid hm
 have HB : Below w.heap.size w (w.alloc (.cells (bVs (List.replicate n 0)).toArray 5)) := (Below.refl _ _).alloc (Nat.le_refl _) _
 clear hl hm hf
 rcases hcase with h7 | ⟨h7, h9⟩
 all_goals
  go_enter Try.func49, Try.ntmps49
  go_wp2
  generalize w.alloc (.cells (bVs (List.replicate _ 0)).toArray 5) = w1 at *
  go_loopw [29] (fun i wr => ∃ k : Nat, k ≤ n ∧ i = .int .i64 k ∧ Own wr 5 w.heap.size (.slice (some ⟨w.heap.size, 0, none⟩) (part (leBytes x n) k n).length n) (part (leBytes x n) k n) ∧ Below w.heap.size w wr) (fun i _ => n - (intOf i).toNat)
  case atStart => exact ⟨0, by omega, rfl, by rw [part_zero]; simpa using HM.out, HB⟩
  case round =>
   obtain ⟨k, hk, rfl, hown, hbel⟩ := hrel
   by_cases hlt : k < n
   ·have hpl := part_len (leBytes x n) k n HL.out hk
    obtain ⟨u, hc⟩ := hown.cellEx k (by omega)
    have hf := hown.frozenG k
    have hs := hown.set k ((leBytes x n)[k]'(by rw [HL.out]; exact hlt))
    have hps := part_set (leBytes x n) k n HL.out hlt
    have hbt := leBytes_at x k n (by rw [HL.out]; exact hlt)
    have hpb := put_byte x k
    have hbel2 : Below w.heap.size w (wr.setCell ⟨w.heap.size, k, none⟩ (.int .u8 (((leBytes x n)[k]'(by rw [HL.out]; exact hlt)).toNat : Int))) := hbel.setCell (Nat.le_refl _) _
    rw [hps] at hs
    rw [hbt, ← hpb] at hs hbel2
    have HS := Lib.hid hs
    have HB2 := Lib.hid hbel2
    clear hs hps hbt hpb hbel2 hpl hown hbel HM HB
    go_wp2
    go_roundw
    case rel => exact ⟨k + 1, by omega, by go_num, HS.out, HB2.out⟩
    case measure => simp [intOf]; omega
   ·have hkn : k = n := by omega
    subst hkn
    rw [part_all _ _ HL.out, HL.out] at hown
    go_wp2
    go_ret2
    exact ⟨_, _, rfl, hown, hbel⟩
theorem u32_not (x : Nat) (h : x < 4294967296) : bits .xor .u32 IntKind.u32.max (x : Int) = ((4294967295 - x : Nat) : Int) := by
 have e : IntKind.u32.max = ((4294967295 : Nat) : Int) := by decide
 rw [e, u32_xor_nat _ _ (by omega) h]
 have h2 := congrArg BitVec.toNat (BitVec.allOnes_xor (x := BitVec.ofNat 32 x))
 rw [BitVec.toNat_xor, BitVec.toNat_not, BitVec.toNat_allOnes, BitVec.toNat_ofNat, Nat.mod_eq_of_lt h] at h2
 have h3 : 4294967295 ^^^ x = 4294967295 - x := h2
 rw [h3]
theorem and15 (c : Nat) (h : c < 4294967296) : bits .and .u32 (c : Int) 15 = ((c % 16 : Nat) : Int) := by
 have := u32_and_nat c 15 h (by omega)
 rw [Nat.and_two_pow_sub_one_eq_mod c 4] at this
 exact this
theorem xor32 (a b : Nat) (ha : a < 4294967296) (hb : b < 4294967296) : bits .xor .u32 (a : Int) (b : Int) = ((a ^^^ b : Nat) : Int) := u32_xor_nat a b ha hb
theorem xor32s (t c : Nat) (ht : t < 4294967296) (hc : c < 4294967296) : bits .xor .u32 (t : Int) ((c : Int) / 16) = ((t ^^^ (c / 16) : Nat) : Int) := by
 have e : (c : Int) / 16 = ((c / 16 : Nat) : Int) := by simp
 rw [e, u32_xor_nat _ _ ht (by omega)]
set_option maxHeartbeats 400000 in
theorem crc_any (A : Option Addr) (L c : Nat) (bs : List UInt8) (seed : Nat) (w : World) (hr : Rd w A bs) (hL : bs.length = L) (hs : seed < 4294967296) :
  Calls Try.prog 50 #[.int .u32 seed, .slice A L c] w fun e w' => e = .returned (.int .u32 (crc seed bs)) ∧ Below w.heap.size w w' := by
 subst hL
 have hmax := hr.le
 have hn := u32_not seed hs
 obtain ⟨s0, hs0⟩ : ∃ s0, s0 = 4294967295 - seed := ⟨_, rfl⟩
 rw [← hs0] at hn
 have HS0 := Lib.hid hs0
 have hs0l : s0 < 4294967296 := by omega
 clear hs0
 have HR := Lib.hid hr
 clear hr
 go_enter Try.func50, Try.ntmps50
 go_wp2
 generalize hW : w.alloc (.cells #[.int .u32 0, .int .u32 274646895, .int .u32 549293790, .int .u32 820201905, .int .u32 1098587580, .int .u32 1361435347, .int .u32 1640403810, .int .u32 1905808397, .int .u32 2197175160, .int .u32 2460548119, .int .u32 2722870694, .int .u32 2987750089, .int .u32 3280807620, .int .u32 3553878443, .int .u32 3811616794, .int .u32 4084100981] 156) = W0
 have HC : Hid (∀ j, j < 16 → W0.cell? ⟨w.heap.size, j, none⟩ = some (.int .u32 (crcT.getD j 0 : Nat))) := by
  subst hW
  intro j hj
  rw [World.cell?_alloc_mark]
  have e : (#[.int .u32 0, .int .u32 274646895, .int .u32 549293790, .int .u32 820201905, .int .u32 1098587580, .int .u32 1361435347, .int .u32 1640403810, .int .u32 1905808397, .int .u32 2197175160, .int .u32 2460548119, .int .u32 2722870694, .int .u32 2987750089, .int .u32 3280807620, .int .u32 3553878443, .int .u32 3811616794, .int .u32 4084100981] : Array Value) = (crcT.map fun (n : Nat) => Value.int .u32 (n : Int)).toArray := rfl
  rw [e]
  have hl : crcT.length = 16 := rfl
  simp only [List.getElem?_toArray, List.getElem?_map, List.getD]
  rw [List.getElem?_eq_getElem (by omega)]
  rfl
 have HR0 : Hid (Rd W0 A bs) := by subst hW; exact HR.out.alloc _
 have HB : Below w.heap.size w W0 := by subst hW; exact (Below.refl _ _).alloc (Nat.le_refl _) _
 clear hW
 go_loop [6, 14] (fun x i => ∃ k : Nat, k ≤ bs.length ∧ i = .int .i64 k ∧ x = .int .u32 (crcL s0 (bs.take k))) (fun _ i => bs.length - (intOf i).toNat)
 case atStart => exact ⟨0, by omega, rfl, rfl⟩
 case round =>
  obtain ⟨k, hk, rfl, rfl⟩ := hrel
  by_cases hlt : k < bs.length
  ·obtain ⟨ad, rfl⟩ := HR0.out.some_ hlt
   have hcell := HR0.out.cell k hlt
   have hsn := crcL_snoc s0 bs k hlt
   have hcl := crcL_lt (bs.take k) s0 hs0l
   generalize crcL s0 (bs.take k) = c0 at *
   generalize bs[k] = b at *
   have hb := b.toNat_lt
   obtain ⟨c1, hc1⟩ : ∃ c1, c1 = c0 ^^^ b.toNat := ⟨_, rfl⟩
   have hc1l : c1 < 4294967296 := by rw [hc1]; exact xor_lt32 hcl (by omega)
   obtain ⟨c2, hc2⟩ : ∃ c2, c2 = nib c1 := ⟨_, rfl⟩
   have hc2l : c2 < 4294967296 := by rw [hc2]; exact nib_lt _ hc1l
   have hsn2 : crcL s0 (List.take (k + 1) bs) = nib c2 := by rw [hsn, hc2, hc1]; rfl
   have HSN := Lib.hid hsn2
   have f1 := xor32 c0 b.toNat hcl (by omega)
   rw [← hc1] at f1
   have f2 := and15 c1 hc1l
   have f3 := xor32s (crcT.getD (c1 % 16) 0) c1 (crcT_lt _) hc1l
   have e3 : crcT.getD (c1 % 16) 0 ^^^ (c1 / 16) = c2 := hc2.symm
   rw [e3] at f3
   have f4 := and15 c2 hc2l
   have f5 := xor32s (crcT.getD (c2 % 16) 0) c2 (crcT_lt _) hc2l
   have e5 : crcT.getD (c2 % 16) 0 ^^^ (c2 / 16) = nib c2 := rfl
   rw [e5] at f5
   have g1 := HC.out (c1 % 16) (by omega)
   have g2 := HC.out (c2 % 16) (by omega)
   have b1 : c1 % 16 < 16 := by omega
   have b2 : c2 % 16 < 16 := by omega
   clear e3 e5 hsn hsn2 hc1 hc2
   generalize crcT.getD (c1 % 16) 0 = t1 at *
   generalize crcT.getD (c2 % 16) 0 = t2 at *
   generalize c1 % 16 = j1 at *
   generalize c2 % 16 = j2 at *
   generalize nib c2 = c3 at *
   go_wp2
   go_round
   case rel => exact ⟨k + 1, by omega, by go_num, by rw [HSN.out]⟩
   case measure => simp [intOf]; omega
  ·have hkn : k = bs.length := by omega
   have hfin : crcL s0 (bs.take k) = crcL s0 bs := by rw [hkn, List.take_length]
   rw [hfin]
   have hlt2 := crcL_lt bs s0 hs0l
   have hn2 := u32_not _ hlt2
   have hout : 4294967295 - crcL s0 bs = crc seed bs := by rw [HS0.out]; rfl
   rw [hout] at hn2
   clear hout hfin
   go_wp2
   go_ret
   exact ⟨rfl, HB⟩
end
section
open Go.RowKit
theorem xor_byte (a b : UInt8) : bits .xor .u8 (a.toNat : Int) (b.toNat : Int) = ((a ^^^ b).toNat : Int) := by
 rw [u8_xor_nat _ _ a.toNat_lt b.toNat_lt, UInt8.toNat_xor]
set_option maxHeartbeats 1000000 in
theorem xor_ok (A B : Option Addr) (n m c d : Nat) (xs ys : List UInt8) (w : World) (ha : Rd w A xs) (hb : Rd w B ys) (hn : xs.length = n) (hm : ys.length = m) (h : n = m) (h48 : n ≤ 140737488355328) :
  Calls Try.prog 73 #[.slice A n c, .slice B m d] w fun e w' => ∃ A' c', e = .returned (.tuple #[.slice A' n c', .int .i64 0]) ∧
   Own w' 5 w.heap.size (.slice A' n c') (List.zipWith (· ^^^ ·) xs ys) ∧ Below w.heap.size w w' := by
 subst h
 have h1 : ((n : Int) != (n : Int)) = false := by simp
 have hmk := run_make_rd (P := Try.prog) 32 5 Try.underlying32 Try.infoU8 .i64 .i64 n (by omega)
 have HA := Lib.hid ha
 have HB := Lib.hid hb
 have HN := Lib.hid hn
 have HM := Lib.hid hm
 have hl : (List.zipWith (· ^^^ ·) xs ys).length = n := by simp [hn, hm]
 have HL := Lib.hid hl
 have HO := Lib.hid (Own.made w 5 n (by omega))
 have HBl : Below w.heap.size w (w.alloc (.cells (bVs (List.replicate n 0)).toArray 5)) := (Below.refl _ _).alloc (Nat.le_refl _) _
 clear ha hb hn hm hl
 go_enter Try.func73, Try.ntmps73
 go_wp2
 generalize w.alloc (.cells (bVs (List.replicate n 0)).toArray 5) = w1 at *
 go_loopw [18] (fun i wr => ∃ k : Nat, k ≤ n ∧ i = .int .i64 k ∧ Own wr 5 w.heap.size (.slice (some ⟨w.heap.size, 0, none⟩) (part (List.zipWith (· ^^^ ·) xs ys) k n).length n) (part (List.zipWith (· ^^^ ·) xs ys) k n) ∧ Below w.heap.size w wr) (fun i _ => n - (intOf i).toNat)
 case atStart => exact ⟨0, by omega, rfl, by rw [part_zero]; simpa using HO.out, HBl⟩
 case round =>
  obtain ⟨k, hk, rfl, hown, hbel⟩ := hrel
  by_cases hlt : k < n
  ·obtain ⟨ad, rfl⟩ := HA.out.some_ (i := k) (by rw [HN.out]; exact hlt)
   obtain ⟨bd, rfl⟩ := HB.out.some_ (i := k) (by rw [HM.out]; exact hlt)
   have hca := (HA.out.below hbel).cell k (by rw [HN.out]; exact hlt)
   have hcb := (HB.out.below hbel).cell k (by rw [HM.out]; exact hlt)
   have hpl := part_len (List.zipWith (· ^^^ ·) xs ys) k n HL.out hk
   obtain ⟨u, hc⟩ := hown.cellEx k (by omega)
   have hf := hown.frozenG k
   have hs := hown.set k ((List.zipWith (· ^^^ ·) xs ys)[k]'(by rw [HL.out]; exact hlt))
   have hps := part_set (List.zipWith (· ^^^ ·) xs ys) k n HL.out hlt
   have hxb := xor_byte (xs[k]'(by rw [HN.out]; exact hlt)) (ys[k]'(by rw [HM.out]; exact hlt))
   have hbel2 : Below w.heap.size w (wr.setCell ⟨w.heap.size, k, none⟩ (.int .u8 (((List.zipWith (· ^^^ ·) xs ys)[k]'(by rw [HL.out]; exact hlt)).toNat : Int))) := hbel.setCell (Nat.le_refl _) _
   rw [hps] at hs
   have e : (List.zipWith (· ^^^ ·) xs ys)[k]'(by rw [HL.out]; exact hlt) = (xs[k]'(by rw [HN.out]; exact hlt)) ^^^ (ys[k]'(by rw [HM.out]; exact hlt)) := by simp
   rw [e, ← hxb] at hs hbel2
   have HS := Lib.hid hs
   have HB2 := Lib.hid hbel2
   clear e hs hps hxb hbel2 hpl hown hbel HO HBl HL
   go_wp2
   go_still_tail 12, (by kernel_rfl)
   change wpList _ _ _ _ _ wr.drew
   go_wp2
   go_roundw
   case rel => exact ⟨k + 1, by omega, by go_num, HS.out, HB2.out.drew⟩
   case measure => simp [intOf]; omega
  ·have hkn : k = n := by omega
   subst hkn
   rw [part_all _ _ HL.out, HL.out] at hown
   go_wp2
   go_ret2
   exact ⟨_, _, rfl, hown, hbel⟩
end
section
open Go.RowKit
end
section
open Go.RowKit
end
end Go.Proofs.Ytajnlhalanhicaa

/-
  THE WALKS over package octets, further: the exclusive or, bits.
-/
import Derived.Test.YtnnpdndmcenfeaaProg
import Derived.Test.YtnnpdndmcenfeaaMem
import Derived.Test.YtnnpdndmcenfeaaMath
import Derived.Test.YtnnpdndmcenfeaaOctA
import Derived.StillTailTactics
namespace Go.Proofs.Ytnnpdndmcenfeaa
open Go.RowKit

set_option maxHeartbeats 400000 in
theorem xor_bad (A B : Option Addr) (n m c d : Nat) (w : World) (h : n ≠ m) :
    Calls Try.prog 25 #[.slice A n c, .slice B m d] w fun e w' => e = .returned (.tuple #[.slice none 0 0, .int .i64 1]) ∧ w = w' := by
  have h1 : ((n : Int) != (m : Int)) = true := by rw [bne_iff_ne]; omega
  clear h
  go_enter Try.func25, Try.ntmps25
  go_wp2
  go_ret2
  exact ⟨rfl, rfl⟩

theorem xor_byte (a b : UInt8) : bits .xor .u8 (a.toNat : Int) (b.toNat : Int) = ((a ^^^ b).toNat : Int) := by
  rw [u8_xor_nat _ _ a.toNat_lt b.toNat_lt, UInt8.toNat_xor]

set_option maxHeartbeats 1000000 in
theorem xor_ok (A B : Option Addr) (n m c d : Nat) (xs ys : List UInt8) (w : World) (ha : Rd w A xs) (hb : Rd w B ys) (hn : xs.length = n) (hm : ys.length = m) (h : n = m) (h48 : n ≤ 140737488355328) :
    Calls Try.prog 25 #[.slice A n c, .slice B m d] w fun e w' => ∃ A' c', e = .returned (.tuple #[.slice A' n c', .int .i64 0]) ∧
      Own w' 5 w.heap.size (.slice A' n c') (List.zipWith (· ^^^ ·) xs ys) ∧ Below w.heap.size w w' := by
  subst h
  have h1 : ((n : Int) != (n : Int)) = false := by simp
  have hmk := run_make_rd (P := Try.prog) 23 5 Try.underlying23 Try.infoU8 .i64 .i64 n (by omega)
  have HA := Lib.hid ha
  have HB := Lib.hid hb
  have HN := Lib.hid hn
  have HM := Lib.hid hm
  have hl : (List.zipWith (· ^^^ ·) xs ys).length = n := by simp [hn, hm]
  have HL := Lib.hid hl
  have HO := Lib.hid (Own.made w 5 n (by omega))
  have HBl : Below w.heap.size w (w.alloc (.cells (bVs (List.replicate n 0)).toArray 5)) := (Below.refl _ _).alloc (Nat.le_refl _) _
  clear ha hb hn hm hl
  go_enter Try.func25, Try.ntmps25
  go_wp2
  generalize w.alloc (.cells (bVs (List.replicate n 0)).toArray 5) = w1 at *
  go_loopw [18] (fun i wr => ∃ k : Nat, k ≤ n ∧ i = .int .i64 k ∧ Own wr 5 w.heap.size (.slice (some ⟨w.heap.size, 0, none⟩) (part (List.zipWith (· ^^^ ·) xs ys) k n).length n) (part (List.zipWith (· ^^^ ·) xs ys) k n) ∧ Below w.heap.size w wr) (fun i _ => n - (intOf i).toNat)
  case atStart => exact ⟨0, by omega, rfl, by rw [part_zero]; simpa using HO.out, HBl⟩
  case round =>
    obtain ⟨k, hk, rfl, hown, hbel⟩ := hrel
    by_cases hlt : k < n
    · obtain ⟨ad, rfl⟩ := HA.out.some_ (i := k) (by rw [HN.out]; exact hlt)
      obtain ⟨bd, rfl⟩ := HB.out.some_ (i := k) (by rw [HM.out]; exact hlt)
      have hca := (HA.out.below hbel).cell k (by rw [HN.out]; exact hlt)
      have hcb := (HB.out.below hbel).cell k (by rw [HM.out]; exact hlt)
      have hpl := part_len (List.zipWith (· ^^^ ·) xs ys) k n HL.out hk
      obtain ⟨u, hc⟩ := hown.cellEx k (by omega)
      have hf := hown.frozenG k
      have hs := hown.set k ((List.zipWith (· ^^^ ·) xs ys)[k]'(by rw [HL.out]; exact hlt))
      have hps := part_set (List.zipWith (· ^^^ ·) xs ys) k n HL.out hlt
      have hxb := xor_byte (xs[k]'(by rw [HN.out]; exact hlt)) (ys[k]'(by rw [HM.out]; exact hlt))
      have hbel2 : Below w.heap.size w (wr.setCell ⟨w.heap.size, k, none⟩ (.int .u8 (((List.zipWith (· ^^^ ·) xs ys)[k]'(by rw [HL.out]; exact hlt)).toNat : Int))) := hbel.setCell (Nat.le_refl _) _
      rw [hps] at hs
      have e : (List.zipWith (· ^^^ ·) xs ys)[k]'(by rw [HL.out]; exact hlt) = (xs[k]'(by rw [HN.out]; exact hlt)) ^^^ (ys[k]'(by rw [HM.out]; exact hlt)) := by simp
      rw [e, ← hxb] at hs hbel2
      have HS := Lib.hid hs
      have HB2 := Lib.hid hbel2
      clear e hs hps hxb hbel2 hpl hown hbel HO HBl HL
      go_wp2
      go_still_tail 12, (by kernel_rfl)
      change wpList _ _ _ _ _ wr.drew
      go_wp2
      go_roundw
      case rel => exact ⟨k + 1, by omega, by go_num, HS.out, HB2.out.drew⟩
      case measure => simp [intOf]; omega
    · have hkn : k = n := by omega
      subst hkn
      rw [part_all _ _ HL.out, HL.out] at hown
      go_wp2
      go_ret2
      exact ⟨_, _, rfl, hown, hbel⟩


theorem bit_form (b : UInt8) (i : Nat) : (bits .and .u8 ((b.toNat : Int) / 2 ^ i) 1 == 1) = bitN b.toNat i := by
  have e : (b.toNat : Int) / 2 ^ i = ((b.toNat / 2 ^ i : Nat) : Int) := by simp
  have hl : b.toNat / 2 ^ i < 256 := Nat.lt_of_le_of_lt (Nat.div_le_self _ _) b.toNat_lt
  have h := u8_and_nat (b.toNat / 2 ^ i) 1 hl (by omega)
  rw [Nat.and_one_is_mod] at h
  rw [e]
  have h' : bits .and .u8 ((b.toNat / 2 ^ i : Nat) : Int) 1 = ((b.toNat / 2 ^ i % 2 : Nat) : Int) := h
  rw [h']
  unfold bitN
  rw [Bool.eq_iff_iff, beq_iff_eq, beq_iff_eq]
  omega

set_option maxHeartbeats 400000 in
theorem has_any (A : Option Addr) (L c : Nat) (bs : List UInt8) (i : Int) (w : World) (hr : Rd w A bs) (hL : bs.length = L) (hi : i ≤ 9223372036854775807) :
    Calls Try.prog 31 #[.slice A L c, .int .i64 i] w fun e w' => e = .returned (.bool (hasI bs i)) ∧ w = w' := by
  subst hL
  have hmax := hr.le
  have HR := Lib.hid hr
  clear hr
  by_cases h0 : i < 0
  · have e : hasI bs i = false := by simp [hasI]; omega
    rw [e]
    clear e
    have hd : decide (0 ≤ i) = false := by simp; omega
    go_enter Try.func31, Try.ntmps31
    go_wp2
    go_ret
    exact ⟨rfl, rfl⟩
  obtain ⟨j, rfl⟩ := Int.eq_ofNat_of_zero_le (show 0 ≤ i by omega)
  have e : hasI bs (j : Int) = hasB bs j := by simp [hasI]
  rw [e]
  clear e h0
  by_cases h1 : j / 8 < bs.length
  · obtain ⟨ad, rfl⟩ := HR.out.some_ h1
    have hc := HR.out.cell (j / 8) h1
    have e : hasB bs j = bitN (bs[j / 8]).toNat (j % 8) := by simp [hasB, List.getD, List.getElem?_eq_getElem h1]
    rw [e]
    clear e
    generalize bs[j / 8] = b at *
    go_enter Try.func31, Try.ntmps31
    go_wp2
    go_ret
    refine ⟨?_, rfl⟩
    rw [← bit_form]
    rfl
  · rw [hasB_out bs j (by omega)]
    go_enter Try.func31, Try.ntmps31
    go_wp2
    go_ret
    exact ⟨rfl, rfl⟩


set_option maxHeartbeats 400000 in
theorem with_bad (A : Option Addr) (L c : Nat) (i : Int) (on : Bool) (w : World) (hi : i ≤ 9223372036854775807) (h : i < 0 ∨ (L : Int) ≤ i / 8) :
    Calls Try.prog 27 #[.slice A L c, .int .i64 i, .bool on] w fun e w' => e = .returned (.tuple #[.slice none 0 0, .int .i64 1]) ∧ w = w' := by
  by_cases h0 : i < 0
  · clear h
    go_enter Try.func27, Try.ntmps27
    go_wp2
    go_ret2
    exact ⟨rfl, rfl⟩
  · have h1 : (L : Int) ≤ i / 8 := by omega
    have h0' : 0 ≤ i := by omega
    clear h h0
    go_enter Try.func27, Try.ntmps27
    go_wp2
    go_ret2
    exact ⟨rfl, rfl⟩

theorem pow_u8 (r : Nat) (h : r < 8) : IntKind.u8.wrap ((2 : Int) ^ r) = ((2 ^ r : Nat) : Int) ∧ 2 ^ r < 256 := by
  have hl : 2 ^ r < 256 := Nat.pow_lt_pow_right (n := 8) (by omega) h
  refine ⟨?_, hl⟩
  have e : IntKind.u8.wrap ((2 : Int) ^ r) = ((2 : Int) ^ r) % 256 := by simp [IntKind.wrap, IntKind.bits, IntKind.signed]
  have e2 : (2 : Int) ^ r = ((2 ^ r : Nat) : Int) := by simp
  rw [e, e2]
  generalize 2 ^ r = t at *
  omega
theorem clr_byte (b : UInt8) (r : Nat) (h : r < 8) : bits .andNot .u8 (b.toNat : Int) (IntKind.u8.wrap ((2 : Int) ^ r)) = ((UInt8.ofNat (clrN b.toNat r)).toNat : Int) := by
  obtain ⟨e, hl⟩ := pow_u8 r h
  rw [e, u8_andNot_nat _ _ b.toNat_lt hl]
  have := clrN_lt b.toNat r b.toNat_lt
  unfold clrN at this ⊢
  rw [UInt8.toNat_ofNat_of_lt' this]
theorem set_byte (b : UInt8) (r : Nat) (h : r < 8) : bits .or .u8 ((UInt8.ofNat (clrN b.toNat r)).toNat : Int) (IntKind.u8.wrap ((2 : Int) ^ r)) = ((setB b r true).toNat : Int) := by
  obtain ⟨e, hl⟩ := pow_u8 r h
  have h2 := clrN_lt b.toNat r b.toNat_lt
  rw [e, u8_or_nat _ _ (UInt8.toNat_lt _) hl, UInt8.toNat_ofNat_of_lt' h2]
  have h3 := setN_lt b.toNat r true b.toNat_lt h
  unfold setB
  rw [UInt8.toNat_ofNat_of_lt' h3]
  simp [setN]

set_option maxHeartbeats 1000000 in
theorem with_ok (A : Option Addr) (L c : Nat) (bs : List UInt8) (i : Nat) (on : Bool) (w : World) (hr : Rd w A bs) (hL : bs.length = L) (hi : i / 8 < L) (h47 : L ≤ 140737488355328) :
    Calls Try.prog 27 #[.slice A L c, .int .i64 i, .bool on] w fun e w' => ∃ A' c', e = .returned (.tuple #[.slice A' L c', .int .i64 0]) ∧
      Own w' 5 w.heap.size (.slice A' L c') (withB bs i on) ∧ Below w.heap.size w w' := by
  subst hL
  have hwb : withB bs i on = bs.set (i / 8) (setB (bs[i / 8]) (i % 8) on) := by simp [withB, List.getD, List.getElem?_eq_getElem hi]
  rw [hwb]
  clear hwb
  have HR := Lib.hid hr
  clear hr
  go_enter Try.func27, Try.ntmps27
  go_wp2_with (at_builtin; refine wpList_append_rd rfl (.const (.slice none 0 0)) (.tmp 18) 23 rfl w.heap.size 5 Try.underlying23 Try.infoU8 (.slice none 0 0) [] bs A bs.length c rfl rfl (World.ownsRow_nil _ _ _ _) HR.out rfl (by simp; omega) (Nat.le_refl _) ?_; intro v1 w1 hown1 hg1)
  obtain ⟨A1, c1, hv1, hr1, hs1⟩ := hown1.form
  simp only [List.nil_append] at hv1 hr1 hown1
  obtain ⟨g1, rfl, hg2, hg3⟩ : ∃ g, A1 = some ⟨g, 0, none⟩ ∧ w.heap.size ≤ g ∧ g < w1.heap.size := by
    obtain ⟨ad, rfl⟩ := hr1.some_ hi
    obtain ⟨g, rfl, h⟩ := hs1 ad rfl
    exact ⟨g, rfl, h⟩
  have hbel : Below w.heap.size w w1 := (Below.refl _ _).grown hg1 (Nat.le_refl _) (by simp [Value.ownBlock])
  rw [hv1]
  rw [hv1] at hown1
  clear hv1 hs1 hg1
  have hc := hown1.cellG (i / 8) hi
  have hf := hown1.frozenG (i / 8)
  have k1 : IntKind.i64.wrap ((i : Int) / 8) = (i : Int) / 8 := IntWalk.i64_in _ (by omega)
  have k2 : 0 ≤ (i : Int) / 8 := by omega
  have k3 : (i : Int) / 8 < (bs.length : Int) := by omega
  have k4 : ((i : Int) / 8).toNat = i / 8 := by omega
  have k5 : (i : Int).tmod 8 = ((i % 8 : Nat) : Int) := by rw [Int.tmod_eq_emod_of_nonneg (by omega)]; simp
  have k6 : i % 8 < 8 := by omega
  have k7 := clr_byte bs[i / 8] (i % 8) k6
  have k8 := set_byte bs[i / 8] (i % 8) k6
  obtain ⟨b1, hb1⟩ : ∃ b1, b1 = UInt8.ofNat (clrN bs[i / 8].toNat (i % 8)) := ⟨_, rfl⟩
  obtain ⟨b2, hb2⟩ : ∃ b2, b2 = setB bs[i / 8] (i % 8) true := ⟨_, rfl⟩
  rw [← hb1] at k7 k8
  rw [← hb2] at k8
  have HB1 := Lib.hid hb1
  have HB2 := Lib.hid hb2
  clear hb1 hb2
  generalize hr8 : i % 8 = r at *
  generalize hb0 : bs[i / 8] = b0 at *
  have HS := Lib.hid (hown1.set (i / 8) b1)
  have HL2 := Lib.hid ((hbel.setCell (p := ⟨g1, i / 8, none⟩) hg2) (.int .u8 (b1.toNat : Int)))
  clear hr1 hg3 hown1 hbel
  have HR8 := Lib.hid hr8
  have HB0 := Lib.hid hb0
  clear hr8 hb0
  cases on
  · go_wp2
    go_still_tail 10, (by kernel_rfl)
    change wpList _ _ _ _ _ w1.drew
    go_wp2
    go_ret2
    refine ⟨_, _, rfl, ?_, HL2.out.drew⟩
    have hs := HS.out
    rw [List.length_set] at hs
    have e : setB bs[i / 8] (i % 8) false = b1 := by rw [HB0.out, HR8.out, HB1.out]; rfl
    rw [e]
    exact hs
  · go_wp2
    go_still_tail 10, (by kernel_rfl)
    change wpList _ _ _ _ _ w1.drew
    go_wp2
    have hs : Own (w1.setCell ⟨g1, i / 8, none⟩ (.int .u8 (b1.toNat : Int))).drew 5 w.heap.size (.slice (some ⟨g1, 0, none⟩) (bs.set (i / 8) b1).length c1) (bs.set (i / 8) b1) := HS.out
    have hl : Below w.heap.size w (w1.setCell ⟨g1, i / 8, none⟩ (.int .u8 (b1.toNat : Int))).drew := HL2.out.drew
    clear hc hf
    generalize (w1.setCell ⟨g1, i / 8, none⟩ (.int .u8 (b1.toNat : Int))).drew = w2 at *
    have hc := hs.cellG (i / 8) (by rw [List.length_set]; exact hi)
    rw [List.getElem_set_self] at hc
    have hf := hs.frozenG (i / 8)
    have HS2 := Lib.hid (hs.set (i / 8) b2)
    have HL3 := Lib.hid ((hl.setCell (p := ⟨g1, i / 8, none⟩) hg2) (.int .u8 (b2.toNat : Int)))
    clear hs hl HS HL2
    go_still_tail 10, (by kernel_rfl)
    change wpList _ _ _ _ _ w2.drew
    go_wp2
    go_ret2
    refine ⟨_, _, rfl, ?_, HL3.out.drew⟩
    have hs := HS2.out
    rw [List.length_set, List.length_set, List.set_set] at hs
    have e : setB bs[i / 8] (i % 8) true = b2 := by rw [HB2.out, HB0.out, HR8.out]
    rw [e]
    exact hs

end Go.Proofs.Ytnnpdndmcenfeaa

/-
  THE WALKS over package ashlarref01's bits.
-/
import Derived.Test.YtnnpdndmcenfeaaOctR
import Derived.Test.YtnnpdndmcenfeaaMemV
import Derived.Test.YtnnpdndmcenfeaaMathC
namespace Go.Proofs.Ytnnpdndmcenfeaa
open Go.RowKit

theorem Try.infoBool : (Try.prog.info? 4).map (fun i => (i.zero, i.size, i.bytes)) = some (some (.bool false), 1, 1) := by kernel_rfl

set_option maxRecDepth 100000 in
set_option maxHeartbeats 1000000 in
theorem rbits_any (A : Option Addr) (L c : Nat) (bs : List UInt8) (w : World) (hr : Rd w A bs) (hL : bs.length = L) (h16 : L ≤ 65536) :
    Calls Try.prog 46 #[.slice A L c] w fun e w' => ∃ A' c', e = .returned (.slice A' (8 * L) c') ∧ OwnV w' 4 w.heap.size (.slice A' (8 * L) c') (bitsP bs (8 * L)) ∧ Below w.heap.size w w' := by
  subst hL
  have HR := Lib.hid hr
  clear hr
  go_enter Try.func46, Try.ntmps46
  go_wp2
  go_loopw [3, 4] (fun v i wr => ∃ k : Nat, k ≤ bs.length ∧ i = .int .i64 k ∧ OwnV wr 4 w.heap.size v (bitsP bs (8 * k)) ∧ Below w.heap.size w wr) (fun _ i _ => bs.length - (intOf i).toNat)
  case atStart => exact ⟨0, by omega, rfl, ownV_nil _ _ _, Below.refl _ _⟩
  case round =>
    obtain ⟨k, hk, rfl, hown, hbel⟩ := hrel
    by_cases hlt : k < bs.length
    · obtain ⟨ad, rfl⟩ := HR.out.some_ hlt
      have hcell := (HR.out.below hbel).cell k hlt
      have hbit := fun j (hj : j < 8) => bit_step bs k j hlt hj
      have hb := bs[k].toNat_lt
      have HBIT := Lib.hid hbit
      have HOWN := Lib.hid hown
      have HBEL := Lib.hid hbel
      clear hbit hown hbel
      generalize bs[k].toNat = b at *
      go_wp2
      obtain ⟨wo, rfl⟩ : ∃ wo : World, wo = wr := ⟨_, rfl⟩
      go_loopw [3, 5, 6] (fun v x i wr => ∃ j : Nat, j ≤ 8 ∧ i = .int .i64 j ∧ x = .int .i64 (b / 2 ^ j : Nat) ∧ OwnV wr 4 w.heap.size v (bitsP bs (8 * k + j)) ∧ Below w.heap.size w wr) (fun _ _ i _ => 8 - (intOf i).toNat)
      case atStart => exact ⟨0, by omega, rfl, by simp, HOWN.out, HBEL.out⟩
      case round =>
        obtain ⟨j, hj, rfl, rfl, hown, hbel⟩ := hrel
        by_cases hj8 : j < 8
        · have hbj := HBIT.out j hj8
          have hle : b / 2 ^ j ≤ b := Nat.div_le_self _ _
          have hdd : b / 2 ^ (j + 1) = b / 2 ^ j / 2 := by rw [Nat.pow_succ, Nat.div_div_eq_div_mul]
          have hsn := bitsP_snoc bs (8 * k + j)
          have hln := bitsP_len bs (8 * k + j)
          generalize b / 2 ^ j = y at *
          generalize hasB bs (8 * k + j) = β at *
          have HDD := Lib.hid hdd
          have HSN := Lib.hid hsn
          have HLN := Lib.hid hln
          clear hdd hsn hln
          go_wp2_with (at_builtin; refine wpList_append_v rfl (.tmp 22) (.tmp 26) 63 rfl w.heap.size 4 (.bool false) 1 Try.underlying63 Try.infoBool rfl _ (bitsP bs (8 * k + j)) [.bool β] (some ⟨wr.heap.size, 0, none⟩) 1 1 rfl rfl (hown.alloc _) (RdV.lit wr _ [.bool β] (by simp)) (by simp [Value.oneCell']) rfl (by have := HLN.out; simp only [maxLen]; omega) (by have := HLN.out; omega) (by have := hbel.size; simp; omega) ?_; intro v1 w1 hown1 hg1 hb1)
          have hbl1 := (hbel.alloc hbel.size _).trans hb1
          rw [← HSN.out] at hown1
          clear hown hg1 hb1 hbj
          go_roundw
          case rel => exact ⟨j + 1, by omega, by go_num, by rw [HDD.out]; simp, hown1, hbl1⟩
          case measure => simp [intOf]; omega
        · have hj8' : j = 8 := by omega
          subst hj8'
          have hown' : OwnV wr 4 w.heap.size u3 (bitsP bs (8 * (k + 1))) := hown
          clear hown
          go_wp2
          go_roundw
          case rel => exact ⟨k + 1, by omega, by go_num, hown', hbel⟩
          case measure => simp [intOf]; omega
    · have hkn : k = bs.length := by omega
      subst hkn
      obtain ⟨A', c', rfl, _, _⟩ := hown.form
      rw [bitsP_len] at hown
      have hln := bitsP_len bs (8 * bs.length)
      have HLN := Lib.hid hln
      clear hln
      go_wp2
      go_ret
      rw [HLN.out]
      exact ⟨_, _, rfl, hown, hbel⟩

set_option maxRecDepth 100000 in
set_option maxHeartbeats 1000000 in
theorem rhas_any (A : Option Addr) (L c : Nat) (bs : List UInt8) (i : Int) (w : World) (hr : Rd w A bs) (hL : bs.length = L) (h16 : L ≤ 65536) :
    Calls Try.prog 32 #[.slice A L c, .int .i64 i] w fun e w' => e = .returned (.bool (hasI bs i)) ∧ Below w.heap.size w w' := by
  have HR := Lib.hid hr
  have HL := Lib.hid hL
  clear hr hL
  go_enter Try.func32, Try.ntmps32
  go_wp2_with fail
  refine (rbits_any A L c bs _ HR.out HL.out h16).mono ?_
  rintro e w1 ⟨A1, c1, rfl, hown1, hb1⟩
  have hln := bitsP_len bs (8 * L)
  have HLN := Lib.hid hln
  clear hln
  by_cases h0 : i < 0
  · have hd : decide (0 ≤ i) = false := by simp; omega
    have e : hasI bs i = false := by simp [hasI]; omega
    have HE := Lib.hid e
    clear e hown1
    go_wp2_with fail
    go_ret
    rw [HE.out]
    exact ⟨rfl, hb1⟩
  obtain ⟨j, rfl⟩ := Int.eq_ofNat_of_zero_le (show 0 ≤ i by omega)
  have e : hasI bs (j : Int) = hasB bs j := by simp [hasI]
  have HE := Lib.hid e
  clear e h0
  by_cases h1 : j < 8 * L
  · obtain ⟨-, g, rfl, hg1, hg2⟩ := hown1.some_ (i := j) (by rw [HLN.out]; exact h1)
    have hc := hown1.cellN j (by rw [HLN.out]; exact h1)
    rw [bitsP_get] at hc
    generalize hasB bs j = β at *
    clear hown1
    go_wp2_with fail
    go_simp
    go_wp2_with fail
    go_ret
    rw [HE.out]
    exact ⟨rfl, hb1⟩
  · have e2 : hasB bs j = false := hasB_out bs j (by rw [HL.out]; omega)
    have HE2 := Lib.hid e2
    clear e2 hown1
    go_wp2_with fail
    go_ret
    rw [HE.out, HE2.out]
    exact ⟨rfl, hb1⟩


set_option maxRecDepth 100000 in
set_option maxHeartbeats 1000000 in
theorem rcount_any (A : Option Addr) (L c : Nat) (bs : List UInt8) (n : Int) (w : World) (hr : Rd w A bs) (hL : bs.length = L) (h16 : L ≤ 65536) :
    Calls Try.prog 34 #[.slice A L c, .int .i64 n] w fun e w' => e = .returned (.int .i64 (countI bs n : Nat)) ∧ Below w.heap.size w w' := by
  subst hL
  have HR := Lib.hid hr
  clear hr
  go_enter Try.func34, Try.ntmps34
  go_wp2_with fail
  refine (rbits_any A bs.length c bs _ HR.out rfl h16).mono ?_
  rintro e w1 ⟨A1, c1, rfl, hown1, hb1⟩
  have hln := bitsP_len bs (8 * bs.length)
  have HLN := Lib.hid hln
  have HOWN := Lib.hid hown1
  clear hln hown1
  go_wp2_with fail
  go_loop [6, 7] (fun t i => ∃ k : Nat, k ≤ stopAt n bs.length ∧ i = .int .i64 k ∧ t = .int .i64 (countTo (hasB bs) k : Nat)) (fun _ i => stopAt n bs.length - (intOf i).toNat)
  case atStart => exact ⟨0, by omega, rfl, rfl⟩
  case round =>
    obtain ⟨k, hk, rfl, rfl⟩ := hrel
    have hle := countTo_le (hasB bs) k
    by_cases hlt : k < stopAt n bs.length
    · have hlt2 : (k : Int) < n := by unfold stopAt at hlt; omega
      have hlt3 : k < 8 * bs.length := by unfold stopAt at hlt; omega
      have HLT := Lib.hid hlt
      have HK := Lib.hid hk
      obtain ⟨-, g, rfl, hg1, hg2⟩ := HOWN.out.some_ (i := k) (by rw [HLN.out]; exact hlt3)
      have hc := HOWN.out.cellN k (by rw [HLN.out]; exact hlt3)
      rw [bitsP_get] at hc
      clear hlt hk
      cases hb : hasB bs k
      · have HB : Hid (countTo (hasB bs) (k + 1) = countTo (hasB bs) k) := Lib.hid (by simp [countTo, hb])
        rw [hb] at hc
        clear hb
        go_wp2_with fail
        go_round
        case rel => exact ⟨k + 1, HLT.out, by go_num, by rw [HB.out]⟩
        case measure => have := HLT.out; simp [intOf]; omega
      · have HB : Hid (countTo (hasB bs) (k + 1) = countTo (hasB bs) k + 1) := Lib.hid (by simp [countTo, hb])
        rw [hb] at hc
        clear hb
        go_wp2_with fail
        go_round
        case rel => exact ⟨k + 1, HLT.out, by go_num, by rw [HB.out]; go_num⟩
        case measure => have := HLT.out; simp [intOf]; omega
    · have hks : countI bs n = countTo (hasB bs) k := by
        unfold countI
        congr 1
        omega
      have hor : 8 * bs.length ≤ k ∨ (k < 8 * bs.length ∧ n ≤ (k : Int)) := by unfold stopAt at hlt hk; omega
      have HK := Lib.hid hks
      clear hks hlt hk
      rcases hor with h1 | ⟨h1, h2⟩
      · have hd : decide ((k : Int) < 8 * (bs.length : Int)) = false := by simp; omega
        clear h1
        go_wp2_with fail
        go_ret
        rw [HK.out]
        exact ⟨rfl, hb1⟩
      · have hd : decide ((k : Int) < n) = false := by simp; omega
        clear h2
        go_wp2_with fail
        go_ret
        rw [HK.out]
        exact ⟨rfl, hb1⟩

set_option maxRecDepth 100000 in
set_option maxHeartbeats 1000000 in
theorem rfree_any (A : Option Addr) (L c : Nat) (bs : List UInt8) (o n : Int) (w : World) (hr : Rd w A bs) (hL : bs.length = L) (h16 : L ≤ 65536) :
    Calls Try.prog 30 #[.slice A L c, .int .i64 o, .int .i64 n] w fun e w' => e = .returned (.tuple #[.int .i64 ((freeI bs o n).getD 0 : Nat), .bool (freeI bs o n).isSome]) ∧ Below w.heap.size w w' := by
  subst hL
  have HR := Lib.hid hr
  clear hr
  obtain ⟨r, hr⟩ : ∃ r, r = freeI bs o n := ⟨_, rfl⟩
  rw [← hr]
  have HF : Hid (r = freeFrom (hasB bs) (max 0 (max o 0).toNat) (stopAt n bs.length - max 0 (max o 0).toNat)) := Lib.hid (by rw [hr]; unfold freeI; rw [Nat.zero_max])
  clear hr
  go_enter Try.func30, Try.ntmps30
  go_wp2_with fail
  refine (rbits_any A bs.length c bs _ HR.out rfl h16).mono ?_
  rintro e w1 ⟨A1, c1, rfl, hown1, hb1⟩
  have hln := bitsP_len bs (8 * bs.length)
  have HLN := Lib.hid hln
  have HOWN := Lib.hid hown1
  clear hln hown1
  go_wp2_with fail
  go_loop [9] (fun i => ∃ k : Nat, i = .int .i64 k ∧ k ≤ stopAt n bs.length ∧ Hid (r = freeFrom (hasB bs) (max k (max o 0).toNat) (stopAt n bs.length - max k (max o 0).toNat))) (fun i => stopAt n bs.length - (intOf i).toNat)
  case atStart => exact ⟨0, rfl, by omega, HF⟩
  case round =>
    obtain ⟨k, rfl, hk, hfr⟩ := hrel
    by_cases hlt : k < stopAt n bs.length
    · have hlt2 : (k : Int) < n := by unfold stopAt at hlt; omega
      have hlt3 : k < 8 * bs.length := by unfold stopAt at hlt; omega
      have HLT := Lib.hid hlt
      obtain ⟨-, g, rfl, hg1, hg2⟩ := HOWN.out.some_ (i := k) (by rw [HLN.out]; exact hlt3)
      have hc := HOWN.out.cellN k (by rw [HLN.out]; exact hlt3)
      rw [bitsP_get] at hc
      by_cases ho : o ≤ (k : Int)
      · have em : max k (max o 0).toNat = k := by omega
        have em1 : max (k + 1) (max o 0).toNat = k + 1 := by omega
        have est : stopAt n bs.length - k = (stopAt n bs.length - (k + 1)) + 1 := by omega
        have HEM := Lib.hid em
        have HEM1 := Lib.hid em1
        have HEST := Lib.hid est
        clear em em1 est hlt hk
        cases hb : hasB bs k
        · rw [hb] at hc
          have hrr : r = some k := by
            have h1 := hfr.out
            rw [HEM.out, HEST.out, freeFrom, hb] at h1
            exact h1
          clear hb
          subst hrr
          go_wp2_with fail
          go_ret2
          exact ⟨rfl, hb1⟩
        · rw [hb] at hc
          have hrr : Hid (r = freeFrom (hasB bs) (max (k + 1) (max o 0).toNat) (stopAt n bs.length - max (k + 1) (max o 0).toNat)) := Lib.hid (by
            have h1 := hfr.out
            rw [HEM.out, HEST.out, freeFrom, hb] at h1
            rw [HEM1.out]
            exact h1)
          clear hb
          go_wp2_with fail
          go_round
          case rel => exact ⟨k + 1, by go_num, HLT.out, hrr⟩
          case measure => have := HLT.out; simp [intOf]; omega
      · have em : max (k + 1) (max o 0).toNat = max k (max o 0).toNat := by omega
        have hrr : Hid (r = freeFrom (hasB bs) (max (k + 1) (max o 0).toNat) (stopAt n bs.length - max (k + 1) (max o 0).toNat)) := Lib.hid (by rw [em]; exact hfr.out)
        have hd : decide (o ≤ (k : Int)) = false := by simp; omega
        clear em hlt hk ho hc
        go_wp2_with fail
        go_round
        case rel => exact ⟨k + 1, by go_num, HLT.out, hrr⟩
        case measure => have := HLT.out; simp [intOf]; omega
    · have hrr : r = none := by
        have h1 := hfr.out
        have e : stopAt n bs.length - max k (max o 0).toNat = 0 := by omega
        rw [h1, e]; rfl
      subst hrr
      have hor : 8 * bs.length ≤ k ∨ (k < 8 * bs.length ∧ n ≤ (k : Int)) := by unfold stopAt at hlt hk; omega
      clear hlt hk
      rcases hor with h1 | ⟨h1, h2⟩
      · have hd : decide ((k : Int) < 8 * (bs.length : Int)) = false := by simp; omega
        clear h1
        go_wp2_with fail
        go_ret2
        exact ⟨rfl, hb1⟩
      · have hd : decide ((k : Int) < n) = false := by simp; omega
        clear h2
        go_wp2_with fail
        go_ret2
        exact ⟨rfl, hb1⟩

end Go.Proofs.Ytnnpdndmcenfeaa

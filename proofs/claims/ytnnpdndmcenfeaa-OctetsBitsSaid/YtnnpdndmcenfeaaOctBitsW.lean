/-
  THE WALK over ashlarref01.With.
-/
import Derived.Test.YtnnpdndmcenfeaaOctBits
namespace Go.Proofs.Ytnnpdndmcenfeaa
open Go.RowKit

theorem acc_byte (x : Nat) (_h : x < 256) : IntKind.u8.wrap (x : Int) = ((UInt8.ofNat x).toNat : Int) := by
  have e : IntKind.u8.wrap (x : Int) = (x : Int) % 256 := by simp [IntKind.wrap, IntKind.bits, IntKind.signed]
  rw [e]
  simp

set_option maxRecDepth 100000 in
set_option maxHeartbeats 1000000 in
theorem rwith_bad (A : Option Addr) (L c : Nat) (bs : List UInt8) (i : Int) (on : Bool) (w : World) (hr : Rd w A bs) (hL : bs.length = L) (h16 : L ≤ 65536) (h : i < 0 ∨ 8 * (L : Int) ≤ i) :
    Calls Try.prog 28 #[.slice A L c, .int .i64 i, .bool on] w fun e w' => e = .returned (.tuple #[.slice none 0 0, .int .i64 1]) ∧ Below w.heap.size w w' := by
  have HR := Lib.hid hr
  have HL := Lib.hid hL
  clear hr hL
  go_enter Try.func28, Try.ntmps28
  go_wp2_with fail
  refine (rbits_any A L c bs _ HR.out HL.out h16).mono ?_
  rintro e w1 ⟨A1, c1, rfl, hown1, hb1⟩
  clear hown1
  by_cases h0 : i < 0
  · clear h
    go_wp2_with fail
    go_ret2
    exact ⟨rfl, hb1⟩
  · have h1 : 8 * (L : Int) ≤ i := by omega
    have h0' : 0 ≤ i := by omega
    clear h h0
    go_wp2_with fail
    go_ret2
    exact ⟨rfl, hb1⟩

set_option maxRecDepth 100000 in
set_option maxHeartbeats 2000000 in
theorem rwith_ok (A : Option Addr) (L c : Nat) (bs : List UInt8) (i : Nat) (on : Bool) (w : World) (hr : Rd w A bs) (hL : bs.length = L) (h16 : L ≤ 65536) (hi : i < 8 * L) :
    Calls Try.prog 28 #[.slice A L c, .int .i64 i, .bool on] w fun e w' => ∃ A' c', e = .returned (.tuple #[.slice A' L c', .int .i64 0]) ∧
      Own w' 5 w.heap.size (.slice A' L c') (withB bs i on) ∧ Below w.heap.size w w' := by
  subst hL
  have HR := Lib.hid hr
  clear hr
  go_enter Try.func28, Try.ntmps28
  go_wp2_with fail
  refine (rbits_any A bs.length c bs _ HR.out rfl h16).mono ?_
  rintro e w1 ⟨A1, c1, rfl, hown1, hb1⟩
  have hln := bitsP_len bs (8 * bs.length)
  have HLN := Lib.hid hln
  obtain ⟨-, g, rfl, hg1, hg2⟩ := hown1.some_ (i := i) (by rw [hln]; exact hi)
  obtain ⟨u, hc⟩ : ∃ u, w1.cell? ⟨g, i, none⟩ = some u := ⟨_, hown1.cellN i (by rw [hln]; exact hi)⟩
  have hf := hown1.frozenN i
  have hown2 := hown1.setN i (.bool on)
  have hb2 := hb1.setCell (p := ⟨g, i, none⟩) hg1 (.bool on)
  have hsz : w.heap.size ≤ (w1.setCell ⟨g, i, none⟩ (.bool on)).heap.size := hb2.size
  have hgw : g < (w1.setCell ⟨g, i, none⟩ (.bool on)).heap.size := by simpa [World.setCell] using hg2
  have HOWN2 := Lib.hid hown2
  have HB2 := Lib.hid hb2
  have HSZ := Lib.hid hsz
  have HGW := Lib.hid hgw
  have hl2 : ((bitsP bs (8 * bs.length)).set i (.bool on)).length = 8 * bs.length := by rw [List.length_set]; exact hln
  have HL2 := Lib.hid hl2
  clear hln hown1 hown2 hb2 hsz hgw hl2
  go_wp2_with fail
  go_simp
  go_wp2_with fail
  have hown2 := HOWN2.out
  have hb2 := HB2.out
  have hsz := HSZ.out
  have hgw := HGW.out
  clear hc hf HOWN2 HB2 HSZ HGW
  generalize w1.setCell ⟨g, i, none⟩ (.bool on) = w2 at *
  have HOWN2 := Lib.hid hown2
  have HB2 := Lib.hid hb2
  clear hown2
  go_wp2_with fail
  go_loopw [9, 10] (fun v t wr => ∃ k : Nat, k ≤ bs.length ∧ t = .int .i64 k ∧ Own wr 5 w2.heap.size v ((withB bs i on).take k) ∧ Below w2.heap.size w2 wr) (fun _ t _ => bs.length - (intOf t).toNat)
  case atStart => exact ⟨0, by omega, rfl, own_nil _ _ _, Below.refl _ _⟩
  case round =>
    obtain ⟨k, hk, rfl, hown, hbel⟩ := hrel
    by_cases hlt : k < bs.length
    · have hln := withB_len bs i on
      have hsn : (withB bs i on).take (k + 1) = (withB bs i on).take k ++ [UInt8.ofNat (accN (fun m => bitAt bs i on (8 * k + m)) 8)] := by
        rw [List.take_succ_eq_append_getElem (by rw [hln]; exact hlt), with_byte bs i on k hlt]
      have htl : ((withB bs i on).take k).length ≤ 65536 := by rw [List.length_take]; omega
      have hcells : ∀ m, m < 8 → wr.cell? ⟨g, 8 * k + m, none⟩ = some (.bool (bitAt bs i on (8 * k + m))) := by
        intro m hm
        have h1 := HOWN2.out.cellN (8 * k + m) (by rw [HL2.out]; omega)
        rw [bitsP_set] at h1
        exact (hbel.cell (p := ⟨g, 8 * k + m, none⟩) hgw).trans h1
      have HSN := Lib.hid hsn
      have HC := Lib.hid hcells
      have HOWN := Lib.hid hown
      have HTL := Lib.hid htl
      clear hsn hcells hown hln htl
      go_wp2_with fail
      go_loop [11, 12] (fun x t => ∃ j : Nat, j ≤ 8 ∧ t = .int .i64 (7 - (j : Int)) ∧ x = .int .i64 (accN (fun m => bitAt bs i on (8 * k + m)) j : Nat)) (fun _ t => (intOf t + 1).toNat)
      case atStart => exact ⟨0, by omega, by go_num, rfl⟩
      case round =>
        obtain ⟨j, hj, rfl, rfl⟩ := hrel
        have hal := accN_lt (fun m => bitAt bs i on (8 * k + m)) j
        have hal2 : accN (fun m => bitAt bs i on (8 * k + m)) j < 256 := Nat.lt_of_lt_of_le hal (Nat.pow_le_pow_right (n := 2) (by omega) hj)
        clear hal
        by_cases hj8 : j < 8
        · have hc := HC.out (7 - j) (by omega)
          have hst : accN (fun m => bitAt bs i on (8 * k + m)) (j + 1) = 2 * accN (fun m => bitAt bs i on (8 * k + m)) j + (if bitAt bs i on (8 * k + (7 - j)) then 1 else 0) := rfl
          have hidx : 8 * (k : Int) + (7 - (j : Int)) = ((8 * k + (7 - j) : Nat) : Int) := by omega
          have hidl : 8 * k + (7 - j) < 8 * bs.length := by omega
          generalize accN (fun m => bitAt bs i on (8 * k + m)) j = x0 at *
          generalize bitAt bs i on (8 * k + (7 - j)) = β at *
          generalize 8 * k + (7 - j) = q at *
          have HST := Lib.hid hst
          clear hst
          cases β
          · have HS0 : Hid (accN (fun m => bitAt bs i on (8 * k + m)) (j + 1) = 2 * x0) := Lib.hid (by rw [HST.out]; simp)
            clear HST
            go_wp2_with fail
            go_round
            case rel => exact ⟨j + 1, by omega, by go_num, by rw [HS0.out]; go_num⟩
            case measure => simp [intOf]; omega
          · have HS0 : Hid (accN (fun m => bitAt bs i on (8 * k + m)) (j + 1) = 2 * x0 + 1) := Lib.hid (by rw [HST.out]; simp)
            clear HST
            go_wp2_with fail
            go_round
            case rel => exact ⟨j + 1, by omega, by go_num, by rw [HS0.out]; go_num⟩
            case measure => simp [intOf]; omega
        · have hj8' : j = 8 := by omega
          subst hj8'
          have hab := acc_byte _ hal2
          generalize accN (fun m => bitAt bs i on (8 * k + m)) 8 = x0 at *
          generalize UInt8.ofNat x0 = z at *
          have hown := HOWN.out
          go_wp2_with (at_builtin; refine wpList_append_rd rfl (.tmp 48) (.tmp 51) 23 rfl w2.heap.size 5 Try.underlying23 Try.infoU8 _ ((withB bs i on).take k) [z] (some ⟨wr.heap.size, 0, none⟩) 1 1 rfl rfl (own_lit hown _) (Rd.lit wr _ [z] (by simp)) rfl (by have := HTL.out; simp only [List.length_take] at *; omega) (by have := hbel.size; simp; omega) ?_; intro v1 w3 hown1 hg1)
          have hb3 : Below w2.heap.size w2 w3 := (hbel.alloc hbel.size _).trans ((own_lit hown _).grow hg1 (by have := hbel.size; simp; omega))
          rw [← HSN.out] at hown1
          clear hown hg1
          go_roundw
          case rel => exact ⟨k + 1, by omega, by go_num, hown1, hb3⟩
          case measure => simp [intOf]; omega
    · have hkn : k = bs.length := by omega
      subst hkn
      have hln := withB_len bs i on
      rw [List.take_of_length_le (by omega)] at hown
      obtain ⟨A', c', rfl, _, _⟩ := hown.form
      rw [hln] at hown
      have HLN2 := Lib.hid hln
      clear hln
      go_wp2_with fail
      go_ret2
      rw [HLN2.out]
      exact ⟨_, _, rfl, hown.base_le hsz, HB2.out.trans (hbel.mono hsz)⟩

end Go.Proofs.Ytnnpdndmcenfeaa

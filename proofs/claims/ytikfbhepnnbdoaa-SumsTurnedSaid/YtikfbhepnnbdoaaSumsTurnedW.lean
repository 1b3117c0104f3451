/-
  THE WALK of SumsTurned.
-/
import Derived.Test.YtikfbhepnnbdoaaSuK
import Derived.Test.YtikfbhepnnbdoaaSuJ
namespace Go.Proofs.Ytikfbhepnnbdoaa
set_option linter.all false
open Go.RowKit

theorem xor_byte9 (a b : UInt8) : bits .xor .u8 (a.toNat : Int) (b.toNat : Int) = ((a ^^^ b).toNat : Int) := by
  rw [u8_xor_nat _ _ a.toNat_lt b.toNat_lt, UInt8.toNat_xor]
set_option maxRecDepth 100000 in
set_option maxHeartbeats 16000000 in
theorem sumsTurned_walk (block : Int) (av bv : UInt8) (at_ : Int) (wi : UInt8) (w : World) (_h1 : -9223372036854775808 ≤ block) (_h2 : block ≤ 9223372036854775807) (_h3 : -9223372036854775808 ≤ at_) (_h4 : at_ ≤ 9223372036854775807) :
    Calls Try.prog 8 #[.int .i64 block, .int .u8 (av.toNat : Int), .int .u8 (bv.toNat : Int), .int .i64 at_, .int .u8 (wi.toNat : Int)] w fun e w' => e = .returned (.bool true) ∧ Below w.heap.size w w' := by
  have hnew := lx_new (X := fun b => b < w.heap.size) (w := w) (fun _ h => h) 3 40 (by omega) (by omega) (by omega) (by omega)
  rw [show ((3 : Nat) : Int) = 3 from rfl, show ((40 : Nat) : Int) = 40 from rfl] at hnew
  have hrf := run_fresh 3 40 2 (by omega) (by omega) (by omega) (by omega) (by omega)
  have hrm : Room 100 (freshSh 3 40) := (room_fresh 3 40).mono (by omega)
  have hse : (freshSh 3 40).sectors = 40 := rfl
  have hfd : freshDev (freshSh 3 40) 2 = ⟨2, 37, -1⟩ := rfl
  generalize freshSh 3 40 = s0 at *
  go_enter Try.func8, Try.ntmps8
  go_wp2_with fail
  refine hnew.mono ?_
  rintro e w1 ⟨g, rfl, hS1, hB1⟩
  clear hnew
  have hct := ls_open hS1 2 hrf hrm
  rw [show ((2 : Nat) : Int) = 2 from rfl, hfd] at hct
  clear hrf hrm hfd
  go_wp2_with fail
  with_reducible refine hct.mono ?_
  rintro e w2 ⟨a, rfl, _, h2, hb2⟩
  have hB2 := below_to hB1 hb2
  clear hct hS1 hB1 hb2
  go_wp2_with fail
  refine (lives06 w2).mono ?_
  rintro e w3 ⟨rfl, hb3⟩
  have h3 := h2.below hb3
  have hB3 := below_to hB2 hb3
  clear h2 hB2 hb3
  have hdb := su_dblocks h3.dv
  rw [show (((⟨2, 37, -1⟩ : DevM).size : Nat) : Int) = 37 from rfl] at hdb
  by_cases hin : 0 ≤ block ∧ block < 37 ∧ 0 ≤ at_ ∧ at_ ≤ 127
  · obtain ⟨hb0, hb1, ha0, ha1⟩ := hin
    obtain ⟨n, rfl⟩ := Int.eq_ofNat_of_zero_le hb0
    obtain ⟨k, rfl⟩ := Int.eq_ofNat_of_zero_le ha0
    have hn : n < 37 := by omega
    have hk : k < 128 := by omega
    have hpl : Hid (∀ W, _) := Lib.hid fun W => su_place n W (by omega)
    have hpq := h3.run.place (n := n) hn
    rw [hse] at hpq
    obtain ⟨hpn, _⟩ := place_ne (n := n) (m := n)
    go_wp2_with fail
    with_reducible refine hdb.mono ?_
    rintro e w' ⟨rfl, rfl⟩
    clear hdb
    go_wp2_with fail
    refine (sector_any av w3).mono ?_
    rintro e w4 ⟨A4, c4, rfl, ho4, hb4⟩
    have hct := ls_write h3 hb4 n hn A4 c4 _ (secOf av) ho4 (secOf_len av)
    have hl0 := h3.run.run.len (n := sumAt n) (by rw [hse]; exact hpq.1)
    go_wp2_with fail
    with_reducible refine hct.mono ?_
    rintro e w5 ⟨rfl, s5, D5, hw5, h5, hK5⟩
    have hB5 := hB3.trans (hK5.below fun b hb => hb)
    have hd5 : D5.disk = 2 := hw5.disk
    have hz5 : D5.size = 37 := hw5.size
    have hc5 : s5.sectors = 40 := hw5.sec.trans hse
    clear hct ho4 hb4 h3 hB3 hK5 hw5 hse hl0
    go_wp2_with fail
    refine (sector_any bv w5).mono ?_
    rintro e w4 ⟨A4, c4, rfl, ho4, hb4⟩
    have hct := ls_write h5 hb4 n (by rw [hz5]; exact hn) A4 c4 _ (secOf bv) ho4 (secOf_len bv)
    have hl0 := h5.run.run.len (n := sumAt n) (by rw [hc5]; exact hpq.1)
    rw [hd5] at hl0
    go_wp2_with fail
    with_reducible refine hct.mono ?_
    rintro e w6 ⟨rfl, s6, D6, hw6, h6, hK6⟩
    have hB6 := hB5.trans (hK6.below fun b hb => hb)
    have hd6 : D6.disk = 2 := hw6.disk.trans hd5
    have hz6 : D6.size = 37 := hw6.size.trans hz5
    have hc6 : s6.sectors = 40 := hw6.sec.trans hc5
    have hdat := hw6.data
    rw [hd5] at hdat
    have hct2 := ls_flush h6
    clear hct ho4 hb4 h5 hB5 hK6 hw6 hl0
    go_wp2_with fail
    with_reducible refine hct2.mono ?_
    rintro e w7 ⟨rfl, s7, hf7, h7, hK7⟩
    have hB7 := hB6.trans (hK7.below fun b hb => hb)
    have hc7 : s7.sectors = 40 := hf7.sec.trans hc6
    have hf7w := hf7.waits
    have hdat7 := hf7.rd (dataAt n) (by rw [hc6]; exact hpq.2)
    rw [hd6] at hf7w hdat7
    rw [hdat] at hdat7
    generalize hD7 : ({ D6 with opn := -1 } : DevM) = D7 at *
    have hd7 : D7.disk = 2 := by rw [← hD7]; exact hd6
    have hz7 : D7.size = 37 := by rw [← hD7]; exact hz6
    clear hct2 hK7 hf7 h6 hB6 hD7 hdat
    go_wp2_with fail
    refine (hpl.out w7).mono ?_
    rintro e w' ⟨rfl, rfl⟩
    have hct3 := ls_corrupt h7 (by rw [hd7]; exact hf7w) (dataAt n) k (by rw [hc7]; exact hpq.2) hk wi
    rw [hd7, show ((2 : Nat) : Int) = 2 from rfl, hdat7] at hct3
    generalize hT : (secOf bv).set k ((secOf bv).getD k 0 ^^^ wi) = T at *
    have hTl : T.length = 128 := by rw [← hT]; simp [secOf_len]
    clear hf7w hdat7
    go_wp2_with fail
    with_reducible refine hct3.mono ?_
    rintro e w8 ⟨rfl, s8, ht8, h8, hK8⟩
    have hB8 := hB7.trans (hK8.below fun b hb => hb)
    have hc8 : s8.sectors = 40 := ht8.sec.trans hc7
    have hT8 := ht8.rd (dataAt n) (by rw [hc7]; exact hpq.2)
    rw [if_pos rfl] at hT8
    have hSl := h8.run.run.len (n := sumAt n) (by rw [hc8]; exact hpq.1)
    rw [hd7] at hSl
    clear hct3 hK8 ht8 h7 hB7
    go_wp2_with fail
    refine (sector_any bv w8).mono ?_
    rintro e w9 ⟨A9, c9, rfl, ho9, hb9⟩
    obtain ⟨g9, rfl, hg9, hlt9, hcell⟩ := ho9.first (by rw [secOf_len]; omega)
    obtain ⟨hc9k, hf9k⟩ := hcell k (by rw [secOf_len]; omega)
    have hset := ho9.setB k ((secOf bv).getD k 0 ^^^ wi) (secOf_len bv)
    rw [hT] at hset
    have hxb := xor_byte9 ((secOf bv).getD k 0) wi
    have hgd : (secOf bv)[k]'(by rw [secOf_len]; omega) = (secOf bv).getD k 0 := by
      rw [List.getD_eq_getElem?_getD, List.getElem?_eq_getElem (by rw [secOf_len]; omega)]
      rfl
    rw [hgd] at hc9k
    generalize (secOf bv).getD k 0 = x0 at *
    generalize x0 ^^^ wi = x1 at *
    have hb10 := hb9.setCell (p := ⟨g9, k, none⟩) hg9 (.int .u8 (x1.toNat : Int))
    have h10 : LawS (fun b => b < w.heap.size ∨ b = g9) a g (w9.setCell ⟨g9, k, none⟩ (.int .u8 (x1.toNat : Int))) s8 D7 := h8.more hb10 fun b hb => by
      have hs1 : (w9.setCell ⟨g9, k, none⟩ (.int .u8 (x1.toNat : Int))).heap.size = w9.heap.size := by simp [World.setCell]
      have := hb9.size
      have := hB8.size
      rw [hs1]
      rcases hb with hb | hb
      · exact ⟨by omega, .inl hb⟩
      · exact ⟨by omega, .inr (by omega)⟩
    have hB10 := hB8.trans (hb10.mono hB8.size)
    have hTr := hset.rd
    have hk127 : (k : Int) < 128 := by omega
    clear hcell hgd hT hb10 h8
    replace ho9 := Lib.hid ho9
    replace hset := Lib.hid hset
    replace hTr := Lib.hid hTr
    replace h10 := Lib.hid h10
    replace hB10 := Lib.hid hB10
    go_wp2_with fail
    generalize hw10 : w9.setCell ⟨g9, k, none⟩ (.int .u8 (x1.toNat : Int)) = w10 at *
    replace hw10 := Lib.hid hw10
    refine (hpl.out w10).mono ?_
    rintro e w' ⟨rfl, rfl⟩
    clear hpl hb9 hB8 hc9k hf9k
    replace h10 := h10.out
    replace hB10 := hB10.out
    generalize hSS : rdS s8 2 (sumAt n) = S at *
    have hct := ls_sread h10 (sumAt n) (by rw [hc8]; exact hpq.1)
    rw [hd7, hSS, show ((2 : Nat) : Int) = 2 from rfl] at hct
    go_wp2_with fail
    with_reducible refine hct.mono ?_
    rintro e w11 ⟨v11, rfl, hf11, h11, hK11⟩
    obtain ⟨A11, c11, rfl, hr11, _, _⟩ := hf11.form2 (by omega)
    have h11 := h11.mono (Y := fun b => b < w.heap.size ∨ b = g9) fun b hb => .inl hb
    have hB11 := hB10.trans (hK11.below fun b hb => .inl hb)
    have hTr11 := hK11.rd hTr.out (fun ad e => by injection e with e; subst e; exact .inr rfl)
    rw [hSl]
    have hc1 := run_string_rd (P := Try.prog) w11 28 9 5 Try.underlying28 Try.underlying5 Try.underlying9 A11 128 c11 S hr11 hSl
    have hc2 := run_string_rd (P := Try.prog) w11 28 9 5 Try.underlying28 Try.underlying5 Try.underlying9 (some ⟨g9, 0, none⟩) 128 c9 T hTr11 hTl
    have hgo := rsu_good 2 n S T w11 hSl (by omega) (by omega)
    rw [show ((2 : Nat) : Int) = 2 from rfl] at hgo
    have hrt : rdS s8.tick 2 (sumAt n) = S ∧ rdS s8.tick 2 (dataAt n) = T := ⟨hSS, hT8⟩
    clear hct hf11 hr11 h10 hB10 hK11 hTr
    go_wp2_with fail
    with_reducible refine hgo.mono ?_
    rintro e w12 ⟨rfl, hb12⟩
    have h12 := h11.below hb12
    have hB12 := below_to hB11 hb12
    have hTr12 := hTr11.below hb12
    have hct := ls_read h12 n (by rw [hz7]; exact hn)
    rw [hd7, hrt.1, hrt.2] at hct
    generalize hff : fitsP 2 (standP S n) n T = ff at *
    replace hff := Lib.hid hff
    clear hgo hc1 hc2 hb12 h11 hB11 hTr11 hrt
    go_wp2_with fail
    with_reducible refine hct.mono ?_
    rintro e w13 ⟨v13, rfl, hf13, h13, hK13⟩
    have hB13 := hB12.trans (hK13.below fun b hb => .inl hb)
    have hTr13 := hK13.rd hTr12 (fun ad e => by injection e with e; subst e; exact .inr rfl)
    replace h13 := h13.mono (Y := fun b => b < w.heap.size) fun b hb => .inl (.inl hb)
    clear hct hK13 h12 hB12 hTr12
    cases ff
    · simp only [Bool.false_eq_true, if_false] at hf13 ⊢
      obtain ⟨A13, c13, rfl, hr13, _, _⟩ := hf13.form2 (by simp)
      rw [show List.length ([] : Bytes) = 0 from rfl]
      clear hf13 hr13 hTr13
      go_wp2_with fail
      refine (sector_any av w13).mono ?_
      rintro e w14 ⟨A14, c14, rfl, ho14, hb14⟩
      have hct := ls_write h13 hb14 n (by rw [hz7]; exact hn) A14 c14 _ (secOf av) ho14 (secOf_len av)
      have hl0 := h13.run.run.len (n := sumAt n) (by show sumAt n < s8.sectors; rw [hc8]; exact hpq.1)
      rw [hd7] at hl0
      go_wp2_with fail
      with_reducible refine hct.mono ?_
      rintro e w15 ⟨rfl, s15, D15, hw15, h15, hK15⟩
      have hB15 := hB13.trans (hK15.below fun b hb => hb)
      obtain ⟨p, hp1, hp2, hp3⟩ := hw15.sums
      have hdat := hw15.data
      have hd15 : D15.disk = 2 := hw15.disk.trans hd7
      have hz15 : D15.size = 37 := hw15.size.trans hz7
      rw [hd7] at hp1 hp3 hdat
      have hgood : fitsP 2 (standP (rdS s15 2 (sumAt n)) n) n (rdS s15 2 (dataAt n)) = true := by
        rw [hdat]
        exact good_read (D := ⟨2, 37, -1⟩) hp3 hl0 hp2 hp1
      have hct2 := ls_read h15 n (by rw [hz15]; exact hn)
      rw [hd15, hgood, hdat] at hct2
      simp only [if_true] at hct2
      clear hct ho14 hb14 h13 hB13 hK15 hw15 hp3 hl0
      go_wp2_with fail
      with_reducible refine hct2.mono ?_
      rintro e w16 ⟨v16, rfl, hf16, h16, hK16⟩
      obtain ⟨A16, c16, rfl, hr16, _, _⟩ := hf16.form2 (by rw [secOf_len]; omega)
      have hB16 := hB15.trans (hK16.below fun b hb => hb)
      rw [secOf_len]
      clear hct2 hf16 h16 hK16 h15 hB15 hgood hdat
      have hxx : (secOf av == secOf av) = true := by simp
      have hl7 := Lib.hid (secOf_len av)
      have hsx : Hid (∀ W, Calls Try.prog 22 #[.int .u8 (av.toNat : Int)] W fun e w' => ∃ A c, e = .returned (.slice A 128 c) ∧ Own w' 5 W.heap.size (.slice A 128 c) (secOf av) ∧ Below W.heap.size W w') := Lib.hid fun W => sector_any av W
      generalize secOf av = sa at *
      have hcs : Hid (∀ W, Below w16.heap.size w16 W → (convert 28 9 (.slice A16 128 c16)).run Try.prog W = .ok (.string ⟨sa.toArray⟩) W ∧ Below w16.heap.size w16 W) := Lib.hid fun W hW =>
        ⟨run_string_rd (P := Try.prog) _ 28 9 5 Try.underlying28 Try.underlying5 Try.underlying9 _ 128 c16 sa (hr16.below hW) hl7.out, hW⟩
      replace hr16 := Lib.hid hr16
      go_wp2_with fail
      refine wp_region_held_drew (S := (fun W => (convert 28 9 (.slice A16 128 c16)).run Try.prog W = .ok (.string ⟨sa.toArray⟩) W ∧ Below w16.heap.size w16 W)) (by kernel_rfl) ?_ (fun hHeld => ?_)
      · (try dsimp only)
        exact hcs.out _ (Below.refl _ _).drew
      refine wpAnyH_take (i := 0) (oi := ⟨_, _, _, _, _, _⟩) (v := ?v1) rfl (by kernel_rfl) (by kernel_rfl) (by kernel_rfl) (fun _ _ _ h => h) (Or.inl ⟨by rfl, ?hy1⟩) (by assumption) ?rest1
      case hy1 => (intro w hSw; (try dsimp only at hSw); go_simp; try with_reducible rfl)
      (try simp only [Act.put, List.setIfInBounds_toArray, List.set_cons_zero, List.set_cons_succ])
      refine wpAnyH_take (i := 1) (oi := ⟨_, _, _, _, _, _⟩) (v := ?v2) rfl (by kernel_rfl) (by kernel_rfl) (by kernel_rfl) (fun _ _ _ h => h) (Or.inl ⟨by rfl, ?hy2⟩) (by assumption) ?rest2
      case hy2 => (intro w hSw; (try dsimp only at hSw); go_simp; try with_reducible rfl)
      (try simp only [Act.put, List.setIfInBounds_toArray, List.set_cons_zero, List.set_cons_succ])
      refine wpAnyH_take (i := 2) (oi := ⟨_, _, _, _, _, _⟩) (v := ?v3) rfl (by kernel_rfl) (by kernel_rfl) (by kernel_rfl) (fun _ _ _ h => h) (Or.inl ⟨by rfl, ?hy3⟩) (by assumption) ?rest3
      case hy3 => (intro w hSw; (try dsimp only at hSw); go_simp; try with_reducible rfl)
      (try simp only [Act.put, List.setIfInBounds_toArray, List.set_cons_zero, List.set_cons_succ])
      refine wpAnyH_take (i := 3) (oi := ⟨_, _, _, _, _, _⟩) (v := ?v4) rfl (by kernel_rfl) (by kernel_rfl) (by kernel_rfl) (fun _ _ _ h => h) (Or.inl ⟨by rfl, ?hy4⟩) (by assumption) ?rest4
      case hy4 => (intro w hSw; (try dsimp only at hSw); go_simp; try with_reducible rfl)
      (try simp only [Act.put, List.setIfInBounds_toArray, List.set_cons_zero, List.set_cons_succ])
      refine wpAnyH_take (i := 4) (oi := ⟨_, _, _, _, _, _⟩) (v := ?v5) rfl (by kernel_rfl) (by kernel_rfl) (by kernel_rfl) (fun _ _ _ h => h) (Or.inl ⟨by rfl, ?hy5⟩) (by assumption) ?rest5
      case hy5 => (intro w hSw; (try dsimp only at hSw); go_simp; try with_reducible rfl)
      (try simp only [Act.put, List.setIfInBounds_toArray, List.set_cons_zero, List.set_cons_succ])
      refine wpAnyH_take (i := 5) (oi := ⟨_, _, _, _, _, _⟩) (v := ?v6) rfl (by kernel_rfl) (by kernel_rfl) (by kernel_rfl) (fun _ _ _ h => h) (Or.inl ⟨by rfl, ?hy6⟩) (by assumption) ?rest6
      case hy6 => (intro w hSw; (try dsimp only at hSw); go_simp; try with_reducible rfl)
      (try simp only [Act.put, List.setIfInBounds_toArray, List.set_cons_zero, List.set_cons_succ])
      refine wpAnyH_take (i := 6) (oi := ⟨_, _, _, _, _, _⟩) (v := ?v7) rfl (by kernel_rfl) (by kernel_rfl) (by kernel_rfl) (fun _ _ _ h => h) (Or.inl ⟨by rfl, ?hy7⟩) (by assumption) ?rest7
      case hy7 => (intro w hSw; (try dsimp only at hSw); go_simp; try with_reducible rfl)
      (try simp only [Act.put, List.setIfInBounds_toArray, List.set_cons_zero, List.set_cons_succ])
      refine wpAnyH_take (i := 7) (oi := ⟨_, _, _, _, _, _⟩) (v := ?v8) rfl (by kernel_rfl) (by kernel_rfl) (by kernel_rfl) (fun _ _ _ h => h) (Or.inl ⟨by rfl, ?hy8⟩) (by assumption) ?rest8
      case hy8 => (intro w hSw; (try dsimp only at hSw); go_simp; try with_reducible rfl)
      (try simp only [Act.put, List.setIfInBounds_toArray, List.set_cons_zero, List.set_cons_succ])
      refine wpAnyH_take (i := 8) (oi := ⟨_, _, _, _, _, _⟩) (v := ?v9) rfl (by kernel_rfl) (by kernel_rfl) (by kernel_rfl) (fun _ _ _ h => h) (Or.inl ⟨by rfl, ?hy9⟩) (by assumption) ?rest9
      case hy9 => (intro w hSw; (try dsimp only at hSw); go_simp; try with_reducible rfl)
      (try simp only [Act.put, List.setIfInBounds_toArray, List.set_cons_zero, List.set_cons_succ])
      refine wpAnyH_take (i := 9) (oi := ⟨_, _, _, _, _, _⟩) (v := ?v10) rfl (by kernel_rfl) (by kernel_rfl) (by kernel_rfl) (fun _ _ _ h => h) (Or.inl ⟨by rfl, ?hy10⟩) (by assumption) ?rest10
      case hy10 => (intro w hSw; (try dsimp only at hSw); go_simp; try with_reducible rfl)
      (try simp only [Act.put, List.setIfInBounds_toArray, List.set_cons_zero, List.set_cons_succ])
      refine wpAnyH_ready (rs := [10]) (by kernel_rfl) (by simp) ?_
      refine AllReadyH.cons (o := ⟨_, _, _, _, _, _⟩) rfl (fun K hK => ?_) AllReadyH.nil
      go_simp
      refine (hsx.out _).mono ?_
      rintro e wx ⟨A9, c9', rfl, ho9', hb9⟩
      have hB9 := hHeld.2.trans (hb9.mono hHeld.2.size)
      have hcv9 := run_string_rd (P := Try.prog) wx 28 9 5 Try.underlying28 Try.underlying5 Try.underlying9 A9 128 c9' sa ho9'.rd hl7.out
      clear ho9' hb9
      (try go_wp2_with fail)
      refine hK.out _ _ ?_ (fun hHeld2 => ?_)
      · (try dsimp only)
        (first | exact hHeld | exact hcs.out _ hB9)
      clear hK K
      replace hHeld := hHeld2
      clear hHeld2
      (try simp only [Act.put, List.setIfInBounds_toArray, List.set_cons_zero, List.set_cons_succ])
      refine wpAnyH_ready (rs := [11]) (by kernel_rfl) (by simp) ?_
      refine AllReadyH.cons (o := ⟨_, _, _, _, _, _⟩) rfl (fun K hK => ?_) AllReadyH.nil
      go_simp
      refine hK.out _ _ ?_ (fun hHeld2 => ?_)
      · (try dsimp only)
        (first | exact hHeld | exact hcs.out _ hB9)
      clear hK K
      replace hHeld := hHeld2
      clear hHeld2
      (try simp only [Act.put, List.setIfInBounds_toArray, List.set_cons_zero, List.set_cons_succ])
      refine wpAnyH_take (i := 12) (oi := ⟨_, _, _, _, _, _⟩) (v := ?v11) rfl (by kernel_rfl) (by kernel_rfl) (by kernel_rfl) (fun _ _ _ h => h) (Or.inl ⟨by rfl, ?hy11⟩) (by assumption) ?rest11
      case hy11 => (intro w hSw; (try dsimp only at hSw); go_simp; try with_reducible rfl)
      (try simp only [Act.put, List.setIfInBounds_toArray, List.set_cons_zero, List.set_cons_succ])
      refine wpAnyH_take (i := 13) (oi := ⟨_, _, _, _, _, _⟩) (v := ?v12) rfl (by kernel_rfl) (by kernel_rfl) (by kernel_rfl) (fun _ _ _ h => h) (Or.inl ⟨by rfl, ?hy12⟩) (by assumption) ?rest12
      case hy12 => (intro w hSw; (try dsimp only at hSw); go_simp; try with_reducible rfl)
      (try simp only [Act.put, List.setIfInBounds_toArray, List.set_cons_zero, List.set_cons_succ])
      refine wpAnyH_take (i := 14) (oi := ⟨_, _, _, _, _, _⟩) (v := ?v13) rfl (by kernel_rfl) (by kernel_rfl) (by kernel_rfl) (fun _ _ _ h => h) (Or.inl ⟨by rfl, ?hy13⟩) (by assumption) ?rest13
      case hy13 => (intro w hSw; (try dsimp only at hSw); go_simp; try with_reducible rfl)
      (try simp only [Act.put, List.setIfInBounds_toArray, List.set_cons_zero, List.set_cons_succ])
      refine wpAnyH_done (by kernel_rfl) ?_ _
      have hBf := hHeld.2
      clear hHeld
      go_wp2
      go_ret
      exact ⟨by simp, hB16.trans (hBf.mono hB16.size)⟩
    · simp only [if_true] at hf13 ⊢
      obtain ⟨A13, c13, rfl, hr13, _, _⟩ := hf13.form2 (by omega)
      rw [hTl]
      have hc1 := run_string_rd (P := Try.prog) w13 28 9 5 Try.underlying28 Try.underlying5 Try.underlying9 A13 128 c13 T hr13 hTl
      have hc2 := run_string_rd (P := Try.prog) w13 28 9 5 Try.underlying28 Try.underlying5 Try.underlying9 (some ⟨g9, 0, none⟩) 128 c9 T hTr13 hTl
      have hxx : (T == T) = true := by simp
      clear hf13 hr13 hTr13 h13
      go_wp2
      go_ret
      exact ⟨by simp, hB13⟩
  · have hbad : block < 0 → (devWrite s0 ⟨2, 37, -1⟩ block (secOf av)).1 = 1 := fun hb => by
      unfold devWrite
      rw [if_pos (secOf_len av), sec_bad (by omega)]
      rfl
    have hwr : Hid (∀ W A c, Below w3.heap.size w3 W → Own W 5 w3.heap.size (.slice A 128 c) (secOf av) → Calls Try.prog 21 #[.pointer (some ⟨a, 0, none⟩), .int .i64 block, .slice A 128 c] W fun e w' => e = .returned (.int .i64 (devWrite s0 ⟨2, 37, -1⟩ block (secOf av)).1) ∧ Below w.heap.size w w') := Lib.hid fun W A c hb ho => by
      refine (su_write_new h3.dv hb (h3.room.mono (by omega)) block (by omega) (by omega) A 128 c _ (secOf av) ho (secOf_len av)).mono ?_
      rintro e w' ⟨r1, r2, r3⟩
      exact ⟨r1, hB3.trans (r3.below fun b hb => hb)⟩
    generalize (devWrite s0 ⟨2, 37, -1⟩ block (secOf av)).1 = ec at *
    replace hB3 := Lib.hid hB3
    clear h3
    have hcase : (block < 0 ∧ ec = 1) ∨ (0 ≤ block ∧ 37 ≤ block) ∨ (0 ≤ block ∧ block < 37 ∧ at_ < 0) ∨ (0 ≤ block ∧ block < 37 ∧ 0 ≤ at_ ∧ 127 < at_) := by
      by_cases hb : block < 0
      · exact .inl ⟨hb, hbad hb⟩
      · omega
    clear hbad hin
    rcases hcase with ⟨hb, rfl⟩ | hrest
    · go_wp2_with fail
      refine (sector_any av w3).mono ?_
      rintro e w4 ⟨A4, c4, rfl, ho4, hb4⟩
      have hct := hwr.out w4 A4 c4 hb4 ho4
      clear hwr ho4 hdb
      go_wp2_with fail
      with_reducible refine hct.mono ?_
      rintro e w5 ⟨rfl, hB5⟩
      go_wp2
      go_ret
      exact ⟨rfl, hB5⟩
    · have hb0 : 0 ≤ block := by omega
      by_cases he : ec = 0
      · subst he
        rcases hrest with ⟨hr1, hr2⟩ | ⟨hr1, hr2, hr3⟩ | ⟨hr1, hr2, hr3, hr4⟩
        all_goals
          go_wp2_with fail
          with_reducible refine hdb.mono ?_
          rintro e w' ⟨rfl, rfl⟩
          go_wp2_with fail
          refine (sector_any av w3).mono ?_
          rintro e w4 ⟨A4, c4, rfl, ho4, hb4⟩
          have hct := hwr.out w4 A4 c4 hb4 ho4
          clear hwr ho4 hdb
          go_wp2_with fail
          with_reducible refine hct.mono ?_
          rintro e w5 ⟨rfl, hB5⟩
          go_wp2
          go_ret
          exact ⟨by (simp <;> omega), hB5⟩
      · have heb : (ec != 0) = true := by simp [he]
        replace he := Lib.hid he
        rcases hrest with ⟨hr1, hr2⟩ | ⟨hr1, hr2, hr3⟩ | ⟨hr1, hr2, hr3, hr4⟩
        all_goals
          go_wp2_with fail
          with_reducible refine hdb.mono ?_
          rintro e w' ⟨rfl, rfl⟩
          go_wp2_with fail
          refine (sector_any av w3).mono ?_
          rintro e w4 ⟨A4, c4, rfl, ho4, hb4⟩
          have hct := hwr.out w4 A4 c4 hb4 ho4
          clear hwr ho4 hdb
          go_wp2_with fail
          with_reducible refine hct.mono ?_
          rintro e w5 ⟨rfl, hB5⟩
          go_wp2
          go_ret
          exact ⟨by simp, hB5⟩
end Go.Proofs.Ytikfbhepnnbdoaa

/-
  THE WALK of SumsMoved.
-/
import Derived.Test.YtikfbhepnnbdoaaSuK
import Derived.Test.YtikfbhepnnbdoaaSuZ
import Derived.Deep.DeepCutAuto
namespace Go.Proofs.Ytikfbhepnnbdoaa
set_option linter.all false
open Go.RowKit

set_option maxRecDepth 100000 in
set_option maxHeartbeats 16000000 in
theorem sumsMoved_walk (frm to_ : Int) (av bv : UInt8) (disk : Int) (w : World) (_h1 : -9223372036854775808 ≤ frm) (_h2 : frm ≤ 9223372036854775807) (_h3 : -9223372036854775808 ≤ to_) (_h4 : to_ ≤ 9223372036854775807) (_h5 : -9223372036854775808 ≤ disk) (_h6 : disk ≤ 9223372036854775807) :
    Calls Try.prog 6 #[.int .i64 frm, .int .i64 to_, .int .u8 (av.toNat : Int), .int .u8 (bv.toNat : Int), .int .i64 disk] w fun e w' => e = .returned (.bool true) ∧ Below w.heap.size w w' := by
  have hnew := lx_new (X := fun b => b < w.heap.size) (w := w) (fun _ h => h) 2 40 (by omega) (by omega) (by omega) (by omega)
  rw [show ((2 : Nat) : Int) = 2 from rfl, show ((40 : Nat) : Int) = 40 from rfl] at hnew
  have hrf : ∀ k, k < 2 → Run (freshSh 2 40) k := fun k hk => run_fresh 2 40 k (by omega) (by omega) (by omega) (by omega) hk
  have hrm : Room 100 (freshSh 2 40) := (room_fresh 2 40).mono (by omega)
  have hse : (freshSh 2 40).sectors = 40 := rfl
  have hle : (freshSh 2 40).disks.length = 2 := rfl
  have hfd : ∀ k, freshDev (freshSh 2 40) k = ⟨k, 37, -1⟩ := fun _ => rfl
  generalize freshSh 2 40 = s0 at *
  have ht : disk.tmod 2 = 0 ∨ disk.tmod 2 = 1 ∨ disk.tmod 2 = -1 := by
    have := Int.tmod_lt_of_pos disk (b := 2) (by omega)
    have := Int.lt_tmod_of_pos disk (b := 2) (by omega)
    omega
  replace hrf := Lib.hid hrf
  replace hfd := Lib.hid hfd
  go_enter Try.func6, Try.ntmps6
  go_wp2_with fail
  refine hnew.mono ?_
  rintro e w1 ⟨g, rfl, hS1, hB1⟩
  clear hnew
  have hct := ls_open hS1 0 (hrf.out 0 (by omega)) hrm
  rw [show ((0 : Nat) : Int) = 0 from rfl, hfd.out] at hct
  go_wp2_with fail
  with_reducible refine hct.mono ?_
  rintro e w2 ⟨a1, rfl, ha1, h2, hb2⟩
  have hB2 := below_to hB1 hb2
  have ha1 : w.heap.size ≤ a1 := Nat.le_trans hB1.size ha1
  clear hct hS1 hB1 hb2
  go_upto_if 46 with (fail)
  go_cut [15] (fun k wc => ∃ kk : Nat, kk < 2 ∧ k = .int .i64 (kk : Int) ∧ wc = w2)
  case first =>
    rcases ht with ht | ht | ht
    · go_wp2_with fail
      go_meet
      exact ⟨0, by omega, by simp [ht], rfl⟩
    · go_wp2_with fail
      go_meet
      exact ⟨1, by omega, by simp [ht], rfl⟩
    · go_wp2_with fail
      go_meet
      exact ⟨1, by omega, by simp [ht], rfl⟩
  case rest =>
    clear ht
    obtain ⟨kk, hkk, rfl, rfl⟩ := hcut
    have hct := ls_open h2.dv.sh kk (hrf.out kk hkk) hrm
    rw [hfd.out] at hct
    clear hfd
    go_wp2_with fail
    with_reducible refine hct.mono ?_
    rintro e w3 ⟨a2, rfl, ha2, h3, hb3⟩
    have hB3 := below_to hB2 hb3
    have hrow1 := (hb3.block a1 h2.dv.alt).trans h2.dv.row
    have hout1 : ¬ (a1 < w.heap.size) := by omega
    clear hct hB2 hb3 h2
    go_wp2_with fail
    refine (lives06 w3).mono ?_
    rintro e w4 ⟨rfl, hb4⟩
    have h4 := h3.below hb4
    have hrow4 := (hb4.block a1 (lt_of_blk hrow1)).trans hrow1
    have hB4 := below_to hB3 hb4
    have hr0 := hrf.out 0 (by omega)
    have hrow5 : w4.heap[a2]? = some (.cells (devR g ⟨kk, 37, -1⟩) 78) := h4.dv.row
    have hout2 : ¬ (a2 < w.heap.size) := fun hx => h4.dv.out (.inl hx)
    have h5 := h4.swap (D1 := ⟨0, 37, -1⟩) hrow4 hout1 (by show 37 < 4096; omega) ⟨hr0, by rw [hse]; rfl⟩
    clear h3 hrow1 hb4 hB3 h4 hr0
    have hdb := su_dblocks h5.dv
    rw [show (((⟨0, 37, -1⟩ : DevM).size : Nat) : Int) = 37 from rfl] at hdb
    replace hdb := Lib.hid hdb
    by_cases hf0 : frm < 0
    · go_wp2
      go_ret
      exact ⟨rfl, hB4⟩
    by_cases hf1 : 37 ≤ frm
    · have hf0' : 0 ≤ frm := by omega
      go_wp2_with fail
      refine hdb.out.mono ?_
      rintro e w' ⟨rfl, rfl⟩
      go_wp2
      go_ret
      exact ⟨rfl, hB4⟩
    obtain ⟨m, rfl⟩ := Int.eq_ofNat_of_zero_le (by omega : 0 ≤ frm)
    have hm : m < 37 := by omega
    clear hf0 hf1
    by_cases hg0 : to_ < 0
    · go_wp2_with fail
      refine hdb.out.mono ?_
      rintro e w' ⟨rfl, rfl⟩
      go_wp2
      go_ret
      exact ⟨rfl, hB4⟩
    by_cases hg1 : 37 ≤ to_
    · have hg0' : 0 ≤ to_ := by omega
      go_wp2_with fail
      refine hdb.out.mono ?_
      rintro e w' ⟨rfl, rfl⟩
      go_wp2_with fail
      refine hdb.out.mono ?_
      rintro e w' ⟨rfl, rfl⟩
      go_wp2
      go_ret
      exact ⟨rfl, hB4⟩
    obtain ⟨n, rfl⟩ := Int.eq_ofNat_of_zero_le (by omega : 0 ≤ to_)
    have hn : n < 37 := by omega
    clear hg0 hg1
    by_cases hsame : m = n ∧ kk = 0
    · obtain ⟨rfl, rfl⟩ := hsame
      have e1 : ((m : Int) == (m : Int)) = true := by simp
      go_wp2_with fail
      refine hdb.out.mono ?_
      rintro e w' ⟨rfl, rfl⟩
      go_wp2_with fail
      refine hdb.out.mono ?_
      rintro e w' ⟨rfl, rfl⟩
      go_wp2
      go_ret
      exact ⟨rfl, hB4⟩
    have hguard : ((m : Int) == (n : Int)) = false ∨ (((m : Int) == (n : Int)) = true ∧ ((kk : Int) == 0) = false) := by
      by_cases e : m = n
      · exact .inr ⟨by rw [e]; simp, beq_eq_false_iff_ne.2 (by have : kk ≠ 0 := fun h => hsame ⟨e, h⟩; omega)⟩
      · exact .inl (beq_eq_false_iff_ne.2 (by omega))
    replace hsame := Lib.hid hsame
    by_cases hab : av = bv
    · have e3 : ((av.toNat : Int) == (bv.toNat : Int)) = true := by rw [hab]; simp
      replace hab := Lib.hid hab
      rcases hguard with e1 | ⟨e1, e2⟩
      all_goals
        go_wp2_with (first | (go_at_call 20; refine hdb.out.mono ?_; rintro e w' ⟨rfl, rfl⟩))
        go_ret
        exact ⟨rfl, hB4⟩
    have hab3 : ((av.toNat : Int) == (bv.toNat : Int)) = false := beq_eq_false_iff_ne.2 (fun e => hab (UInt8.toNat_inj.1 (by omega)))
    replace hab := Lib.hid hab
    go_upto_region 9 with (fail)
    go_cut [108] (fun v wx => v = .bool false ∧ wx = w4)
    case first =>
      rcases hguard with e1 | ⟨e1, e2⟩
      all_goals
        go_wp2_with (first | (go_at_call 20; refine hdb.out.mono ?_; rintro e w' ⟨rfl, rfl⟩))
        go_meet
        refine ⟨?_, rfl⟩
        have q1 : decide ((m : Int) < 0) = false := decide_eq_false (by omega)
        have q2 : decide ((37 : Int) ≤ (m : Int)) = false := decide_eq_false (by omega)
        have q3 : decide ((n : Int) < 0) = false := decide_eq_false (by omega)
        have q4 : decide ((37 : Int) ≤ (n : Int)) = false := decide_eq_false (by omega)
        simp only [q1, q2, q3, q4, Bool.or_false, Bool.or_self]
    case rest =>
    obtain ⟨rfl, rfl⟩ := hcut
    clear hguard hdb hab3
    rename_i w4
    generalize wc = w4 at *
    have hpm := h5.run.place (n := m) hm
    have hpn := h5.run.place (n := n) hn
    rw [hse] at hpm hpn
    obtain ⟨hmn1, hmn2⟩ := place_ne (n := n) (m := m)
    obtain ⟨hnm1, hnm2⟩ := place_ne (n := m) (m := n)
    go_wp2_with fail
    refine (sector_any av w4).mono ?_
    rintro e w5 ⟨A5, c5, rfl, ho5, hb5⟩
    have hct := ls_write h5 hb5 m hm A5 c5 _ (secOf av) ho5 (secOf_len av)
    go_wp2_with fail
    with_reducible refine hct.mono ?_
    rintro e w6 ⟨rfl, s6, D6, hw6, h6, hK6⟩
    have hB6 := hB4.trans (hK6.below fun b hb => .inl hb)
    have hd6 : D6.disk = 0 := hw6.disk
    have hc6 : s6.sectors = 40 := hw6.sec.trans hse
    have hdat6 := hw6.data
    have hoth6 := hw6.other
    have hl6 := hw6.len
    dsimp only at hdat6 hoth6
    have hrow6 := (hK6.block a2 (.inr rfl)).trans hrow5
    have hct2 := ls_flush h6
    clear hct ho5 hb5 h5 hB4 hK6 hw6
    go_wp2_with fail
    with_reducible refine hct2.mono ?_
    rintro e w7 ⟨rfl, s7, hf7, h7, hK7⟩
    have hB7 := hB6.trans (hK7.below fun b hb => .inl hb)
    have hc7 : s7.sectors = 40 := hf7.sec.trans hc6
    have hl7 : s7.disks.length = 2 := hf7.len.trans (hl6.trans hle)
    have hrow7 := (hK7.block a2 (.inr rfl)).trans hrow6
    have hfr := hf7.run
    have hfo := hf7.other
    have hraw7 := hf7.rd (dataAt m) (by rw [hc6]; exact hpm.2)
    rw [hd6] at hfr hfo hraw7
    rw [hdat6] at hraw7
    have hrk : Run s7 kk := by
      rcases (by omega : kk = 0 ∨ kk = 1) with rfl | rfl
      · exact hfr
      · exact hfr.move (by rw [hl7]; omega) (by rw [hfo 1 (by omega), hoth6 1 (by omega)]; exact (hrf.out 1 (by omega)).alive)
    have h8 : LawS (fun b => b < w.heap.size) a2 g w7 s7 ⟨kk, 37, -1⟩ := (h7.swap hrow7 hout2 (by show 37 < 4096; omega) ⟨hrk, by rw [hc7]; rfl⟩).mono fun b hb => .inl hb
    clear hct2 h7 hK7 hf7 hrow7 hrow6 hoth6 hdat6 hl6 hB6 h6
    go_wp2_with fail
    refine (sector_any bv w7).mono ?_
    rintro e w8 ⟨A8, c8, rfl, ho8, hb8⟩
    have hct := ls_write h8 hb8 n hn A8 c8 _ (secOf bv) ho8 (secOf_len bv)
    go_wp2_with fail
    with_reducible refine hct.mono ?_
    rintro e w9 ⟨rfl, s8, D8, hw8, h9, hK9⟩
    have hB9 := hB7.trans (hK9.below fun b hb => hb)
    have hd8 : D8.disk = kk := hw8.disk
    have hz8 : D8.size = 37 := hw8.size
    have hc8 : s8.sectors = 40 := hw8.sec.trans hc7
    have hl8 : s8.disks.length = 2 := hw8.len.trans hl7
    have hst8 := hw8.still (dataAt m) (by rw [hc7]; exact hpm.2) (fun e => hmn1 e.symm)
    have hot8 := hw8.other
    dsimp only at hst8 hot8
    have hct2 := ls_flush h9
    clear hct ho8 hb8 h8 hB7 hK9 hw8
    go_wp2_with fail
    with_reducible refine hct2.mono ?_
    rintro e w10 ⟨rfl, s9, hf9, h10, hK10⟩
    have hB10 := hB9.trans (hK10.below fun b hb => hb)
    have hc9 : s9.sectors = 40 := hf9.sec.trans hc8
    have hl9 : s9.disks.length = 2 := hf9.len.trans hl8
    have hf9r := hf9.rd (dataAt m) (by rw [hc8]; exact hpm.2)
    have hf9o := hf9.other
    have hf9w := hf9.waits
    rw [hd8] at hf9r hf9o hf9w
    generalize hD9 : ({ D8 with opn := -1 } : DevM) = D9 at *
    have hd9 : D9.disk = kk := by rw [← hD9]; exact hd8
    have hz9 : D9.size = 37 := by rw [← hD9]; exact hz8
    have hraw : rdS s9 0 (dataAt m) = secOf av ∧ Run s9 0 := by
      have hk9 : Run s9 kk := by rw [← hd9]; exact h10.run.run
      rcases (by omega : kk = 0 ∨ kk = 1) with rfl | rfl
      · exact ⟨by rw [hf9r, hst8 (fun e => hnm2 (fun h => hsame.out ⟨h, rfl⟩) e), hraw7], hk9⟩
      · have e9 : s9.disk 0 = s7.disk 0 := (hf9o 0 (by omega)).trans (hot8 0 (by omega))
        exact ⟨by rw [← hraw7]; simp only [rdS, e9], hk9.move (by rw [hl9]; omega) (by rw [e9]; exact hfr.alive)⟩
    obtain ⟨hraw, hr0⟩ := hraw
    have hpl1 := su_place m w10 (by omega)
    have hpl2 : Hid (∀ W, _) := Lib.hid fun W => su_place n W (by omega)
    have hct := dx_read h10.dv 0 (dataAt m) (h10.room.mono (by omega))
    have hrr := run_read hr0 (n := dataAt m) (by rw [hc9]; exact hpm.2)
    rw [show ((0 : Nat) : Int) = 0 from rfl, hraw] at hrr
    rw [hrr] at hct
    clear hct2 hK10 hf9 h9 hB9 hD9 hf9r hst8 hraw7 hfr hfo hot8
    go_wp2_with fail
    refine hpl1.mono ?_
    rintro e w' ⟨rfl, rfl⟩
    go_wp2_with fail
    refine (hpl2.out w10).mono ?_
    rintro e w' ⟨rfl, rfl⟩
    go_wp2_with fail
    with_reducible refine hct.mono ?_
    rintro e w11 ⟨v11, rfl, hf11, h11, hK11⟩
    obtain ⟨A11, c11, rfl, hr11, ho11, _⟩ := hf11.form2 (by rw [secOf_len]; omega)
    rw [secOf_len] at ho11 h11 ⊢
    have hB11 := hB10.trans (hK11.below fun b hb => hb)
    have h11' : LawS (fun b => b < w.heap.size ∨ (Value.slice A11 128 c11).ownBlock = some b) a2 g w11 s9.tick D9 := ⟨h11, h10.run.tick, h10.room⟩
    have hct2 := ls_swrite h11' (dataAt n) (by show dataAt n < s9.sectors; rw [hc9]; exact hpn.2) A11 c11 (secOf av) hr11 (fun ad e => .inr (ho11 ad e)) (secOf_len av)
    rw [hd9] at hct2
    clear hct hf11 hpl1 h11 hB10
    go_wp2_with fail
    with_reducible refine hct2.mono ?_
    rintro e w12 ⟨rfl, s12, hw12, h12, hr12, hro12, hK12⟩
    have hB12 := hB11.trans (hK12.below fun b hb => .inl hb)
    have hc12 : s12.sectors = 40 := hw12.sec.trans hc9
    have hrm12 : Room 100 s12 := room_by h10.room kk (by rw [hw12.waits]; show ((s9.disk kk).waits ++ _).length ≤ 100; rw [hf9w]; simp) hw12.other
    have hdt12 := hw12.rd (dataAt n)
    rw [if_pos rfl] at hdt12
    have h12' : LawS (fun b => b < w.heap.size ∨ (Value.slice A11 128 c11).ownBlock = some b) a2 g w12 s12 D9 := ⟨h12, hr12, hrm12⟩
    have hrA12 := hK12.rd hr11 (fun ad e => .inr (ho11 ad e))
    have hSl := hr12.run.len (n := sumAt n) (by rw [hc12]; exact hpn.1)
    have hct := ls_read h12' n (by rw [hz9]; exact hn)
    rw [hd9] at hct hSl
    rw [hdt12] at hct
    generalize hSS : rdS s12 kk (sumAt n) = S at *
    have hgo : Hid (∀ W, _) := Lib.hid fun W => rsu_good kk n S (secOf av) W hSl (by omega) (by rw [secOf_len]; omega)
    generalize hff : fitsP kk (standP S n) n (secOf av) = ff at *
    replace hff := Lib.hid hff
    generalize hcd : (if ff = true then (0 : Int) else 5) = cd at hct
    have hrv : (if ff = true then secOf av else []).length < 2 ^ 40 := by cases ff <;> simp [secOf_len]
    generalize (if ff = true then secOf av else []) = rv at hct hrv
    replace hcd := Lib.hid hcd
    clear hct2 h11' h12 hK12 hB11 hr11 h10 hw12 hf9w hro12
    go_wp2_with fail
    with_reducible refine hct.mono ?_
    rintro e w13 ⟨v13, rfl, hf13, h13, hK13⟩
    obtain ⟨A13, c13, rfl, _, _, _⟩ := hf13.form2 (by omega)
    have hB13 := hB12.trans (hK13.below fun b hb => .inl hb)
    have hrA13 := hK13.rd hrA12 (fun ad e => .inr (ho11 ad e))
    replace h13 := h13.mono (Y := fun b => b < w.heap.size ∨ (Value.slice A11 128 c11).ownBlock = some b) fun b hb => .inl hb
    have hct2 := ls_sread h13 (sumAt n) (by show sumAt n < s12.sectors; rw [hc12]; exact hpn.1)
    have hSS2 : rdS s12.tick.tick kk (sumAt n) = S := hSS
    rw [hd9, hSS2] at hct2
    clear hct hf13 hK13 h12' hB12 hrA12
    go_wp2_with fail
    refine (hpl2.out w13).mono ?_
    rintro e w' ⟨rfl, rfl⟩
    go_wp2_with fail
    with_reducible refine hct2.mono ?_
    rintro e w14 ⟨v14, rfl, hf14, h14, hK14⟩
    obtain ⟨A14, c14, rfl, hr14, _, _⟩ := hf14.form2 (by omega)
    have hB14 := hB13.trans (hK14.below fun b hb => .inl hb)
    have hrA14 := hK14.rd hrA13 (fun ad e => .inr (ho11 ad e))
    rw [hSl]
    have hc1 := run_string_rd (P := Try.prog) w14 28 9 5 Try.underlying28 Try.underlying5 Try.underlying9 A14 128 c14 S hr14 hSl
    have hc2 := run_string_rd (P := Try.prog) w14 28 9 5 Try.underlying28 Try.underlying5 Try.underlying9 A11 128 c11 (secOf av) hrA14 (secOf_len av)
    clear hct2 hf14 h14 hK14 h13 hB13 hrA13 hr14 hpl2
    go_wp2_with fail
    with_reducible refine (hgo.out w14).mono ?_
    rintro e w15 ⟨rfl, hb15⟩
    have hB15 := below_to hB14 hb15
    have hrA15 := hrA14.below hb15
    have hxx : (secOf av == secOf av) = true := by simp
    have hl9' := Lib.hid (secOf_len av)
    have hsx : Hid (∀ W, Calls Try.prog 22 #[.int .u8 (av.toNat : Int)] W fun e w' => ∃ A c, e = .returned (.slice A 128 c) ∧ Own w' 5 W.heap.size (.slice A 128 c) (secOf av) ∧ Below W.heap.size W w') := Lib.hid fun W => sector_any av W
    clear hgo hc1 hc2 hB14 hrA14 hdt12 hrr hraw hSS hSS2
    generalize secOf av = sa at *
    have hcs : Hid (∀ W, Below w15.heap.size w15 W → (convert 28 9 (.slice A11 128 c11)).run Try.prog W = .ok (.string ⟨sa.toArray⟩) W ∧ Below w15.heap.size w15 W) := Lib.hid fun W hW =>
      ⟨run_string_rd (P := Try.prog) _ 28 9 5 Try.underlying28 Try.underlying5 Try.underlying9 _ 128 c11 sa (hrA15.below hW) hl9'.out, hW⟩
    replace hrA15 := Lib.hid hrA15
    replace hcd := hcd.out
    cases ff
    case false =>
      simp only [Bool.false_eq_true, if_false] at hcd
      subst hcd
      go_wp2_with fail
      refine wp_region_held_drew (S := (fun W => (convert 28 9 (.slice A11 128 c11)).run Try.prog W = .ok (.string ⟨sa.toArray⟩) W ∧ Below w15.heap.size w15 W)) (by kernel_rfl) ?_ (fun hHeld => ?_)
      · (try dsimp only)
        exact hcs.out _ (Below.refl _ _).drew
      refine wpAnyH_take (i := 0) (oi := ⟨_, _, _, _, _, _⟩) (v := ?v1) rfl (by kernel_rfl) (by kernel_rfl) (by kernel_rfl) (fun _ _ _ h => h) (Or.inl ⟨by rfl, ?hy1⟩) (by assumption) ?rest1
      case hy1 => (intro w hSw; (try dsimp only at hSw); go_simp; try with_reducible rfl)
      (try simp only [Act.put, List.setIfInBounds_toArray, List.set_cons_zero, List.set_cons_succ])
      refine wpAnyH_take (i := 1) (oi := ⟨_, _, _, _, _, _⟩) (v := ?v2) rfl (by kernel_rfl) (by kernel_rfl) (by kernel_rfl) (fun _ _ _ h => h) (Or.inl ⟨by rfl, ?hy2⟩) (by assumption) ?rest2
      case hy2 => (intro w hSw; (try dsimp only at hSw); go_simp; try with_reducible rfl)
      (try simp only [Act.put, List.setIfInBounds_toArray, List.set_cons_zero, List.set_cons_succ])
      refine wpAnyH_take (i := 2) (oi := ⟨_, _, _, _, _, _⟩) (v := ?v3) rfl (by kernel_rfl) (by kernel_rfl) (by kernel_rfl) (fun _ _ _ h => h) (Or.inl ⟨by rfl, ?hy3⟩) (by assumption) ?rest3
      case hy3 => (intro w hSw; (try dsimp only at hSw); go_simp; try with_reducible rfl)
      (try simp only [Act.put, List.setIfInBounds_toArray, List.set_cons_zero, List.set_cons_succ])
      refine wpAnyH_ready (rs := [3]) (by kernel_rfl) (by simp) ?_
      refine AllReadyH.cons (o := ⟨_, _, _, _, _, _⟩) rfl (fun K hK => ?_) AllReadyH.nil
      go_simp
      refine (hsx.out _).mono ?_
      rintro e wx ⟨A9, c9', rfl, ho9', hb9⟩
      have hB9 := hHeld.2.trans (hb9.mono hHeld.2.size)
      have hcv9 := run_string_rd (P := Try.prog) wx 28 9 5 Try.underlying28 Try.underlying5 Try.underlying9 A9 128 c9' sa ho9'.rd hl9'.out
      clear ho9' hb9
      (try go_wp2_with fail)
      refine hK.out _ _ ?_ (fun hHeld2 => ?_)
      · (try dsimp only)
        (first | exact hHeld | exact hcs.out _ hB9)
      clear hK K
      replace hHeld := hHeld2
      clear hHeld2
      (try simp only [Act.put, List.setIfInBounds_toArray, List.set_cons_zero, List.set_cons_succ])
      refine wpAnyH_ready (rs := [4]) (by kernel_rfl) (by simp) ?_
      refine AllReadyH.cons (o := ⟨_, _, _, _, _, _⟩) rfl (fun K hK => ?_) AllReadyH.nil
      go_simp
      refine hK.out _ _ ?_ (fun hHeld2 => ?_)
      · (try dsimp only)
        (first | exact hHeld | exact hcs.out _ hB9)
      clear hK K
      replace hHeld := hHeld2
      clear hHeld2
      (try simp only [Act.put, List.setIfInBounds_toArray, List.set_cons_zero, List.set_cons_succ])
      refine wpAnyH_take (i := 5) (oi := ⟨_, _, _, _, _, _⟩) (v := ?v4) rfl (by kernel_rfl) (by kernel_rfl) (by kernel_rfl) (fun _ _ _ h => h) (Or.inl ⟨by rfl, ?hy4⟩) (by assumption) ?rest4
      case hy4 => (intro w hSw; (try dsimp only at hSw); go_simp; try with_reducible rfl)
      (try simp only [Act.put, List.setIfInBounds_toArray, List.set_cons_zero, List.set_cons_succ])
      refine wpAnyH_take (i := 6) (oi := ⟨_, _, _, _, _, _⟩) (v := ?v5) rfl (by kernel_rfl) (by kernel_rfl) (by kernel_rfl) (fun _ _ _ h => h) (Or.inl ⟨by rfl, ?hy5⟩) (by assumption) ?rest5
      case hy5 => (intro w hSw; (try dsimp only at hSw); go_simp; try with_reducible rfl)
      (try simp only [Act.put, List.setIfInBounds_toArray, List.set_cons_zero, List.set_cons_succ])
      refine wpAnyH_take (i := 7) (oi := ⟨_, _, _, _, _, _⟩) (v := ?v6) rfl (by kernel_rfl) (by kernel_rfl) (by kernel_rfl) (fun _ _ _ h => h) (Or.inl ⟨by rfl, ?hy6⟩) (by assumption) ?rest6
      case hy6 => (intro w hSw; (try dsimp only at hSw); go_simp; try with_reducible rfl)
      (try simp only [Act.put, List.setIfInBounds_toArray, List.set_cons_zero, List.set_cons_succ])
      refine wpAnyH_take (i := 8) (oi := ⟨_, _, _, _, _, _⟩) (v := ?v7) rfl (by kernel_rfl) (by kernel_rfl) (by kernel_rfl) (fun _ _ _ h => h) (Or.inl ⟨by rfl, ?hy7⟩) (by assumption) ?rest7
      case hy7 => (intro w hSw; (try dsimp only at hSw); go_simp; try with_reducible rfl)
      (try simp only [Act.put, List.setIfInBounds_toArray, List.set_cons_zero, List.set_cons_succ])
      refine wpAnyH_take (i := 9) (oi := ⟨_, _, _, _, _, _⟩) (v := ?v8) rfl (by kernel_rfl) (by kernel_rfl) (by kernel_rfl) (fun _ _ _ h => h) (Or.inl ⟨by rfl, ?hy8⟩) (by assumption) ?rest8
      case hy8 => (intro w hSw; (try dsimp only at hSw); go_simp; try with_reducible rfl)
      (try simp only [Act.put, List.setIfInBounds_toArray, List.set_cons_zero, List.set_cons_succ])
      refine wpAnyH_take (i := 10) (oi := ⟨_, _, _, _, _, _⟩) (v := ?v9) rfl (by kernel_rfl) (by kernel_rfl) (by kernel_rfl) (fun _ _ _ h => h) (Or.inl ⟨by rfl, ?hy9⟩) (by assumption) ?rest9
      case hy9 => (intro w hSw; (try dsimp only at hSw); go_simp; try with_reducible rfl)
      (try simp only [Act.put, List.setIfInBounds_toArray, List.set_cons_zero, List.set_cons_succ])
      refine wpAnyH_take (i := 11) (oi := ⟨_, _, _, _, _, _⟩) (v := ?v10) rfl (by kernel_rfl) (by kernel_rfl) (by kernel_rfl) (fun _ _ _ h => h) (Or.inl ⟨by rfl, ?hy10⟩) (by assumption) ?rest10
      case hy10 => (intro w hSw; (try dsimp only at hSw); go_simp; try with_reducible rfl)
      (try simp only [Act.put, List.setIfInBounds_toArray, List.set_cons_zero, List.set_cons_succ])
      refine wpAnyH_take (i := 12) (oi := ⟨_, _, _, _, _, _⟩) (v := ?v11) rfl (by kernel_rfl) (by kernel_rfl) (by kernel_rfl) (fun _ _ _ h => h) (Or.inl ⟨by rfl, ?hy11⟩) (by assumption) ?rest11
      case hy11 => (intro w hSw; (try dsimp only at hSw); go_simp; try with_reducible rfl)
      (try simp only [Act.put, List.setIfInBounds_toArray, List.set_cons_zero, List.set_cons_succ])
      refine wpAnyH_take (i := 13) (oi := ⟨_, _, _, _, _, _⟩) (v := ?v12) rfl (by kernel_rfl) (by kernel_rfl) (by kernel_rfl) (fun _ _ _ h => h) (Or.inl ⟨by rfl, ?hy12⟩) (by assumption) ?rest12
      case hy12 => (intro w hSw; (try dsimp only at hSw); go_simp; try with_reducible rfl)
      (try simp only [Act.put, List.setIfInBounds_toArray, List.set_cons_zero, List.set_cons_succ])
      refine wpAnyH_take (i := 14) (oi := ⟨_, _, _, _, _, _⟩) (v := ?v13) rfl (by kernel_rfl) (by kernel_rfl) (by kernel_rfl) (fun _ _ _ h => h) (Or.inl ⟨by rfl, ?hy13⟩) (by assumption) ?rest13
      case hy13 => (intro w hSw; (try dsimp only at hSw); go_simp; try with_reducible rfl)
      (try simp only [Act.put, List.setIfInBounds_toArray, List.set_cons_zero, List.set_cons_succ])
      refine wpAnyH_take (i := 15) (oi := ⟨_, _, _, _, _, _⟩) (v := ?v14) rfl (by kernel_rfl) (by kernel_rfl) (by kernel_rfl) (fun _ _ _ h => h) (Or.inl ⟨by rfl, ?hy14⟩) (by assumption) ?rest14
      case hy14 => (intro w hSw; (try dsimp only at hSw); go_simp; try with_reducible rfl)
      (try simp only [Act.put, List.setIfInBounds_toArray, List.set_cons_zero, List.set_cons_succ])
      refine wpAnyH_take (i := 16) (oi := ⟨_, _, _, _, _, _⟩) (v := ?v15) rfl (by kernel_rfl) (by kernel_rfl) (by kernel_rfl) (fun _ _ _ h => h) (Or.inl ⟨by rfl, ?hy15⟩) (by assumption) ?rest15
      case hy15 => (intro w hSw; (try dsimp only at hSw); go_simp; try with_reducible rfl)
      (try simp only [Act.put, List.setIfInBounds_toArray, List.set_cons_zero, List.set_cons_succ])
      refine wpAnyH_take (i := 17) (oi := ⟨_, _, _, _, _, _⟩) (v := ?v16) rfl (by kernel_rfl) (by kernel_rfl) (by kernel_rfl) (fun _ _ _ h => h) (Or.inl ⟨by rfl, ?hy16⟩) (by assumption) ?rest16
      case hy16 => (intro w hSw; (try dsimp only at hSw); go_simp; try with_reducible rfl)
      (try simp only [Act.put, List.setIfInBounds_toArray, List.set_cons_zero, List.set_cons_succ])
      refine wpAnyH_take (i := 18) (oi := ⟨_, _, _, _, _, _⟩) (v := ?v17) rfl (by kernel_rfl) (by kernel_rfl) (by kernel_rfl) (fun _ _ _ h => h) (Or.inl ⟨by rfl, ?hy17⟩) (by assumption) ?rest17
      case hy17 => (intro w hSw; (try dsimp only at hSw); go_simp; try with_reducible rfl)
      (try simp only [Act.put, List.setIfInBounds_toArray, List.set_cons_zero, List.set_cons_succ])
      refine wpAnyH_take (i := 19) (oi := ⟨_, _, _, _, _, _⟩) (v := ?v18) rfl (by kernel_rfl) (by kernel_rfl) (by kernel_rfl) (fun _ _ _ h => h) (Or.inl ⟨by rfl, ?hy18⟩) (by assumption) ?rest18
      case hy18 => (intro w hSw; (try dsimp only at hSw); go_simp; try with_reducible rfl)
      (try simp only [Act.put, List.setIfInBounds_toArray, List.set_cons_zero, List.set_cons_succ])
      refine wpAnyH_done (by kernel_rfl) ?_ _
      have hBf := hHeld.2
      clear hHeld
      go_wp2
      go_ret
      exact ⟨by simp, hB15.trans (hBf.mono hB15.size)⟩
    case true =>
      simp only [if_true] at hcd
      subst hcd
      go_wp2_with fail
      refine wp_region_held_drew (S := (fun W => (convert 28 9 (.slice A11 128 c11)).run Try.prog W = .ok (.string ⟨sa.toArray⟩) W ∧ Below w15.heap.size w15 W)) (by kernel_rfl) ?_ (fun hHeld => ?_)
      · (try dsimp only)
        exact hcs.out _ (Below.refl _ _).drew
      refine wpAnyH_take (i := 0) (oi := ⟨_, _, _, _, _, _⟩) (v := ?v19) rfl (by kernel_rfl) (by kernel_rfl) (by kernel_rfl) (fun _ _ _ h => h) (Or.inl ⟨by rfl, ?hy19⟩) (by assumption) ?rest19
      case hy19 => (intro w hSw; (try dsimp only at hSw); go_simp; try with_reducible rfl)
      (try simp only [Act.put, List.setIfInBounds_toArray, List.set_cons_zero, List.set_cons_succ])
      refine wpAnyH_take (i := 1) (oi := ⟨_, _, _, _, _, _⟩) (v := ?v20) rfl (by kernel_rfl) (by kernel_rfl) (by kernel_rfl) (fun _ _ _ h => h) (Or.inl ⟨by rfl, ?hy20⟩) (by assumption) ?rest20
      case hy20 => (intro w hSw; (try dsimp only at hSw); go_simp; try with_reducible rfl)
      (try simp only [Act.put, List.setIfInBounds_toArray, List.set_cons_zero, List.set_cons_succ])
      refine wpAnyH_take (i := 2) (oi := ⟨_, _, _, _, _, _⟩) (v := ?v21) rfl (by kernel_rfl) (by kernel_rfl) (by kernel_rfl) (fun _ _ _ h => h) (Or.inl ⟨by rfl, ?hy21⟩) (by assumption) ?rest21
      case hy21 => (intro w hSw; (try dsimp only at hSw); go_simp; try with_reducible rfl)
      (try simp only [Act.put, List.setIfInBounds_toArray, List.set_cons_zero, List.set_cons_succ])
      refine wpAnyH_ready (rs := [3]) (by kernel_rfl) (by simp) ?_
      refine AllReadyH.cons (o := ⟨_, _, _, _, _, _⟩) rfl (fun K hK => ?_) AllReadyH.nil
      go_simp
      refine (hsx.out _).mono ?_
      rintro e wx ⟨A9, c9', rfl, ho9', hb9⟩
      have hB9 := hHeld.2.trans (hb9.mono hHeld.2.size)
      have hcv9 := run_string_rd (P := Try.prog) wx 28 9 5 Try.underlying28 Try.underlying5 Try.underlying9 A9 128 c9' sa ho9'.rd hl9'.out
      clear ho9' hb9
      (try go_wp2_with fail)
      refine hK.out _ _ ?_ (fun hHeld2 => ?_)
      · (try dsimp only)
        (first | exact hHeld | exact hcs.out _ hB9)
      clear hK K
      replace hHeld := hHeld2
      clear hHeld2
      (try simp only [Act.put, List.setIfInBounds_toArray, List.set_cons_zero, List.set_cons_succ])
      refine wpAnyH_ready (rs := [4]) (by kernel_rfl) (by simp) ?_
      refine AllReadyH.cons (o := ⟨_, _, _, _, _, _⟩) rfl (fun K hK => ?_) AllReadyH.nil
      go_simp
      refine hK.out _ _ ?_ (fun hHeld2 => ?_)
      · (try dsimp only)
        (first | exact hHeld | exact hcs.out _ hB9)
      clear hK K
      replace hHeld := hHeld2
      clear hHeld2
      (try simp only [Act.put, List.setIfInBounds_toArray, List.set_cons_zero, List.set_cons_succ])
      refine wpAnyH_take (i := 5) (oi := ⟨_, _, _, _, _, _⟩) (v := ?v22) rfl (by kernel_rfl) (by kernel_rfl) (by kernel_rfl) (fun _ _ _ h => h) (Or.inl ⟨by rfl, ?hy22⟩) (by assumption) ?rest22
      case hy22 => (intro w hSw; (try dsimp only at hSw); go_simp; try with_reducible rfl)
      (try simp only [Act.put, List.setIfInBounds_toArray, List.set_cons_zero, List.set_cons_succ])
      refine wpAnyH_take (i := 6) (oi := ⟨_, _, _, _, _, _⟩) (v := ?v23) rfl (by kernel_rfl) (by kernel_rfl) (by kernel_rfl) (fun _ _ _ h => h) (Or.inl ⟨by rfl, ?hy23⟩) (by assumption) ?rest23
      case hy23 => (intro w hSw; (try dsimp only at hSw); go_simp; try with_reducible rfl)
      (try simp only [Act.put, List.setIfInBounds_toArray, List.set_cons_zero, List.set_cons_succ])
      refine wpAnyH_take (i := 7) (oi := ⟨_, _, _, _, _, _⟩) (v := ?v24) rfl (by kernel_rfl) (by kernel_rfl) (by kernel_rfl) (fun _ _ _ h => h) (Or.inl ⟨by rfl, ?hy24⟩) (by assumption) ?rest24
      case hy24 => (intro w hSw; (try dsimp only at hSw); go_simp; try with_reducible rfl)
      (try simp only [Act.put, List.setIfInBounds_toArray, List.set_cons_zero, List.set_cons_succ])
      refine wpAnyH_take (i := 8) (oi := ⟨_, _, _, _, _, _⟩) (v := ?v25) rfl (by kernel_rfl) (by kernel_rfl) (by kernel_rfl) (fun _ _ _ h => h) (Or.inl ⟨by rfl, ?hy25⟩) (by assumption) ?rest25
      case hy25 => (intro w hSw; (try dsimp only at hSw); go_simp; try with_reducible rfl)
      (try simp only [Act.put, List.setIfInBounds_toArray, List.set_cons_zero, List.set_cons_succ])
      refine wpAnyH_take (i := 9) (oi := ⟨_, _, _, _, _, _⟩) (v := ?v26) rfl (by kernel_rfl) (by kernel_rfl) (by kernel_rfl) (fun _ _ _ h => h) (Or.inl ⟨by rfl, ?hy26⟩) (by assumption) ?rest26
      case hy26 => (intro w hSw; (try dsimp only at hSw); go_simp; try with_reducible rfl)
      (try simp only [Act.put, List.setIfInBounds_toArray, List.set_cons_zero, List.set_cons_succ])
      refine wpAnyH_take (i := 10) (oi := ⟨_, _, _, _, _, _⟩) (v := ?v27) rfl (by kernel_rfl) (by kernel_rfl) (by kernel_rfl) (fun _ _ _ h => h) (Or.inl ⟨by rfl, ?hy27⟩) (by assumption) ?rest27
      case hy27 => (intro w hSw; (try dsimp only at hSw); go_simp; try with_reducible rfl)
      (try simp only [Act.put, List.setIfInBounds_toArray, List.set_cons_zero, List.set_cons_succ])
      refine wpAnyH_take (i := 11) (oi := ⟨_, _, _, _, _, _⟩) (v := ?v28) rfl (by kernel_rfl) (by kernel_rfl) (by kernel_rfl) (fun _ _ _ h => h) (Or.inl ⟨by rfl, ?hy28⟩) (by assumption) ?rest28
      case hy28 => (intro w hSw; (try dsimp only at hSw); go_simp; try with_reducible rfl)
      (try simp only [Act.put, List.setIfInBounds_toArray, List.set_cons_zero, List.set_cons_succ])
      refine wpAnyH_take (i := 12) (oi := ⟨_, _, _, _, _, _⟩) (v := ?v29) rfl (by kernel_rfl) (by kernel_rfl) (by kernel_rfl) (fun _ _ _ h => h) (Or.inl ⟨by rfl, ?hy29⟩) (by assumption) ?rest29
      case hy29 => (intro w hSw; (try dsimp only at hSw); go_simp; try with_reducible rfl)
      (try simp only [Act.put, List.setIfInBounds_toArray, List.set_cons_zero, List.set_cons_succ])
      refine wpAnyH_take (i := 13) (oi := ⟨_, _, _, _, _, _⟩) (v := ?v30) rfl (by kernel_rfl) (by kernel_rfl) (by kernel_rfl) (fun _ _ _ h => h) (Or.inl ⟨by rfl, ?hy30⟩) (by assumption) ?rest30
      case hy30 => (intro w hSw; (try dsimp only at hSw); go_simp; try with_reducible rfl)
      (try simp only [Act.put, List.setIfInBounds_toArray, List.set_cons_zero, List.set_cons_succ])
      refine wpAnyH_take (i := 14) (oi := ⟨_, _, _, _, _, _⟩) (v := ?v31) rfl (by kernel_rfl) (by kernel_rfl) (by kernel_rfl) (fun _ _ _ h => h) (Or.inl ⟨by rfl, ?hy31⟩) (by assumption) ?rest31
      case hy31 => (intro w hSw; (try dsimp only at hSw); go_simp; try with_reducible rfl)
      (try simp only [Act.put, List.setIfInBounds_toArray, List.set_cons_zero, List.set_cons_succ])
      refine wpAnyH_take (i := 15) (oi := ⟨_, _, _, _, _, _⟩) (v := undef) rfl (by kernel_rfl) (by kernel_rfl) (by kernel_rfl) (fun _ _ _ h => h) (Or.inr ⟨by rfl, rfl⟩) (by assumption) ?_
      (try simp only [Act.put, List.setIfInBounds_toArray, List.set_cons_zero, List.set_cons_succ])
      refine wpAnyH_take (i := 16) (oi := ⟨_, _, _, _, _, _⟩) (v := undef) rfl (by kernel_rfl) (by kernel_rfl) (by kernel_rfl) (fun _ _ _ h => h) (Or.inr ⟨by rfl, rfl⟩) (by assumption) ?_
      (try simp only [Act.put, List.setIfInBounds_toArray, List.set_cons_zero, List.set_cons_succ])
      refine wpAnyH_take (i := 17) (oi := ⟨_, _, _, _, _, _⟩) (v := ?v34) rfl (by kernel_rfl) (by kernel_rfl) (by kernel_rfl) (fun _ _ _ h => h) (Or.inl ⟨by rfl, ?hy34⟩) (by assumption) ?rest34
      case hy34 => (intro w hSw; (try dsimp only at hSw); go_simp; try with_reducible rfl)
      (try simp only [Act.put, List.setIfInBounds_toArray, List.set_cons_zero, List.set_cons_succ])
      refine wpAnyH_take (i := 18) (oi := ⟨_, _, _, _, _, _⟩) (v := ?v35) rfl (by kernel_rfl) (by kernel_rfl) (by kernel_rfl) (fun _ _ _ h => h) (Or.inl ⟨by rfl, ?hy35⟩) (by assumption) ?rest35
      case hy35 => (intro w hSw; (try dsimp only at hSw); go_simp; try with_reducible rfl)
      (try simp only [Act.put, List.setIfInBounds_toArray, List.set_cons_zero, List.set_cons_succ])
      refine wpAnyH_take (i := 19) (oi := ⟨_, _, _, _, _, _⟩) (v := ?v36) rfl (by kernel_rfl) (by kernel_rfl) (by kernel_rfl) (fun _ _ _ h => h) (Or.inl ⟨by rfl, ?hy36⟩) (by assumption) ?rest36
      case hy36 => (intro w hSw; (try dsimp only at hSw); go_simp; try with_reducible rfl)
      (try simp only [Act.put, List.setIfInBounds_toArray, List.set_cons_zero, List.set_cons_succ])
      refine wpAnyH_done (by kernel_rfl) ?_ _
      have hBf := hHeld.2
      clear hHeld
      go_wp2
      go_ret
      exact ⟨by simp, hB15.trans (hBf.mono hB15.size)⟩
end Go.Proofs.Ytikfbhepnnbdoaa

/-
 THE WALK of RaidForeign.
-/
import Derived.Test.YtajnlhalanhicaaHeldTail
import Derived.Test.YtajnlhalanhicaaFoA
import Derived.Test.YtajnlhalanhicaaRowW
import Derived.Test.YtajnlhalanhicaaRr
import Derived.Test.YtajnlhalanhicaaRgE
import Derived.Test.YtajnlhalanhicaaRaLz
namespace Go.Proofs.Ytajnlhalanhicaa
set_option linter.all false
set_option maxRecDepth 20000
open Go.RowKit
set_option maxRecDepth 100000 in
set_option maxHeartbeats 16000000 in
theorem raidForeign_walk (dk : Int) (A1 : Option Addr) (l1 c1 : Nat) (ss : List Sup) (A2 : Option Addr) (l2 c2 : Nat) (ops : List OpS) (w : World) (hd0 : -9223372036854775808 ≤ dk) (hd1 : dk ≤ 9223372036854775807)
  (hss : SupsL w w.heap.size A1 ss) (hl1 : ss.length = l1) (hb1 : ∀ x ∈ ss, -9223372036854775808 ≤ x.disk ∧ x.disk ≤ 9223372036854775807)
  (hops : OpsS w w.heap.size A2 ops) (hl2 : ops.length = l2) (hb2 : ∀ o ∈ ops, (-9223372036854775808 ≤ o.at_ ∧ o.at_ ≤ 9223372036854775807) ∧ (-9223372036854775808 ≤ o.n ∧ o.n ≤ 9223372036854775807)) :
  Calls Try.prog 4 #[.int .i64 dk, .slice A1 l1 c1, .slice A2 l2 c2] w fun e w' => e = .returned (.bool true) ∧ Below w.heap.size w w' := by
 obtain ⟨q, hq⟩ := Int.eq_ofNat_of_zero_le (Int.emod_nonneg dk (show (17 : Int) ≠ 0 by omega))
 have hq17 : q < 17 := by have := Int.emod_lt_of_pos dk (show (0 : Int) < 17 by omega); omega
 have hmd := mod08 dk 17 w (by omega) (by omega) hd0 hd1
 rw [hq] at hmd
 obtain ⟨n, hn⟩ : ∃ n, n = q + 1 := ⟨_, rfl⟩
 have hw1 : IntKind.i64.wrap (1 + (q : Int)) = (n : Int) := by rw [IntWalk.i64_in _ (by omega)]; omega
 have hn1 : 1 ≤ n ∧ n ≤ 17 := by omega
 have hnew := lx_new (X := fun b => b < w.heap.size) (w := w) (fun b hb => hb) n 40 hn1.1 hn1.2 (by omega) (by omega)
 rw [show ((40 : Nat) : Int) = 40 from rfl] at hnew
 have hfo := Lib.hid (fo_fresh hn1.1 hn1.2)
 replace hss := Lib.hid hss
 replace hl1 := Lib.hid hl1
 replace hb1 := Lib.hid hb1
 replace hops := Lib.hid hops
 replace hl2 := Lib.hid hl2
 replace hb2 := Lib.hid hb2
 clear hd0 hd1 hq hq17 hn
 go_enter Try.func4, Try.ntmps4
 go_wp2_with fail
 with_reducible refine hmd.mono ?_
 rintro e wx ⟨rfl, rfl⟩
 clear hmd
 go_wp2_with fail
 with_reducible refine hnew.mono ?_
 rintro e w1 ⟨g, rfl, hS1, hB1⟩
 have hlv := lives08 w1
 clear hnew hw1
 go_wp2_with fail
 refine hlv.mono ?_
 rintro e w2 ⟨rfl, hb3⟩
 have hS2 := Lib.hid (hS1.below hb3)
 have hB2 := Lib.hid (below_to hB1 hb3)
 clear hlv hS1 hB1 hb3
 go_wp2_with fail
 go_loopw [10] (fun p wr => ∃ (i : Nat) (s : ShM), p = .int .i64 i ∧ i ≤ l1 ∧ i ≤ 20 ∧ Hid (ShX (fun b => b < w.heap.size) g wr s) ∧ Hid (FoOk s n (i * 20)) ∧ Hid (Below w.heap.size w wr))
  (fun p _ => l1 - (intOf p).toNat)
 case atStart => exact ⟨0, _, by go_num, by omega, by omega, hS2, hfo, hB2⟩
 case round =>
  clear hS2 hfo hB2
  obtain ⟨i, s, rfl, hil, hi20, hS, hfo, hB⟩ := hrel
  by_cases hin : i < l1 ∧ i < 20
  ·as_aux_lemma =>
   obtain ⟨hin1, hin2⟩ := hin
   have hio : i < ss.length := by rw [hl1.out]; exact hin1
   obtain ⟨ob, oo, rfl, hob, q0, q1, q2, q3, q4, q5, q6, q7⟩ := hss.out.get hio
   have hbd := hb1.out _ (List.getElem_mem hio)
   generalize ss[i] = x at *
   have hi1 : (i : Int) < (l1 : Int) := by omega
   have hi2 : (i : Int) < 20 := by omega
   have hnz : 0 < (n : Int) := by omega
   obtain ⟨dn, hdn⟩ := Int.eq_ofNat_of_zero_le (Int.emod_nonneg x.disk (show (n : Int) ≠ 0 by omega))
   have hdl : dn < n := by have := Int.emod_lt_of_pos x.disk hnz; omega
   have hmd := fun W => mod08 x.disk (n : Int) W hnz (by omega) hbd.1 hbd.2
   rw [hdn] at hmd
   have c0 := (hB.out.cell (p := ⟨ob, oo + i * 8, none⟩) hob).trans q0
   have c1 := (hB.out.cell (p := ⟨ob, oo + i * 8 + 1, none⟩) hob).trans q1
   have c2 := (hB.out.cell (p := ⟨ob, oo + i * 8 + 2, none⟩) hob).trans q2
   have c3 := (hB.out.cell (p := ⟨ob, oo + i * 8 + 3, none⟩) hob).trans q3
   have c4 := (hB.out.cell (p := ⟨ob, oo + i * 8 + 4, none⟩) hob).trans q4
   have c5 := (hB.out.cell (p := ⟨ob, oo + i * 8 + 5, none⟩) hob).trans q5
   have c6 := (hB.out.cell (p := ⟨ob, oo + i * 8 + 6, none⟩) hob).trans q6
   have c7 := (hB.out.cell (p := ⟨ob, oo + i * 8 + 7, none⟩) hob).trans q7
   have hcell : ∀ W, Below w.heap.size w W → W.cell? ⟨ob, oo + i * 8, none⟩ = some (.int .i64 x.gen) ∧ W.cell? ⟨ob, oo + i * 8 + 2, none⟩ = some (.int .i64 x.disk) := fun W hW => ⟨(hW.cell (p := ⟨ob, oo + i * 8, none⟩) hob).trans q0, (hW.cell (p := ⟨ob, oo + i * 8 + 2, none⟩) hob).trans q2⟩
   replace hcell := Lib.hid hcell
   have hbs := hB.out.size
   clear q0 q1 q2 q3 q4 q5 q6 q7 hbd hdn
   cases hr : rightB x with
   | false =>
    have hen := enc_bad x wr hr
    have hfo9 : Hid (FoOk s n ((i + 1) * 20)) := Lib.hid (hfo.out.mono (by omega))
    clear hr
    go_wp2_with fail
    with_reducible refine hen.mono ?_
    rintro e w4 ⟨rfl, hb4⟩
    have hS4 := hS.out.below hb4
    have hB4 := hB.out.trans (hb4.mono hbs)
    obtain ⟨d0, d2⟩ := hcell.out w4 hB4
    have hop := su_open hS4 dn (by rw [hfo.out.len]; exact hdl)
    replace hB4 := Lib.hid hB4
    clear hen hS hB hfo hb4 hS4 c0 c1 c2 c3 c4 c5 c6 c7
    go_wp2_with fail
    with_reducible refine (hmd _).mono ?_
    rintro e wx ⟨rfl, rfl⟩
    clear hmd
    go_wp2_with fail
    with_reducible refine hop.mono ?_
    rintro e w5 ⟨a, rfl, hag, hD5, hb5⟩
    have hS5 := Lib.hid (hD5.sh.mono fun b hb => .inl hb)
    have hB5 := Lib.hid (hB4.out.trans (hb5.mono (hB4.out.size)))
    clear hop hD5 hb5 hB4
    go_wp2_with fail
    go_roundw
    case rel =>
     first
     | exact ⟨i + 1, s, by go_num, by omega, by omega, hS5, hfo9, hB5⟩
     | ((repeat apply Exists.intro); exact ⟨⟨i + 1, s, by go_num, by omega, by omega, hS5, hfo9, hB5⟩, rfl⟩)
    case measure => simp [intOf]; omega
   | true =>
    have hen := enc_ok x wr hr
    have hbl := supBytes_len x
    have hg2 : bits .and .i64 x.gen 1 = (((x.gen % 2).toNat : Nat) : Int) := by
     obtain ⟨r1, r2, _⟩ := of_decide_eq_true hr
     rw [and_one_i64 x.gen (by omega) (by omega)]
     omega
    have hg3 : (x.gen % 2).toNat < 2 := by omega
    have hsl := fun W => slot_any x.gen W
    rw [hg2] at hsl
    generalize (x.gen % 2).toNat = gk at *
    generalize supBytes x = bs at *
    replace hbl := Lib.hid hbl
    clear hr hg2
    go_wp2_with fail
    with_reducible refine hen.mono ?_
    rintro e w4 ⟨A4, c4', rfl, ho4, hb4⟩
    obtain ⟨hh, xb, rfl, hxg, hxl⟩ := ho4.some_ (i := 0) (by rw [hbl.out]; omega)
    clear hh
    have hS4 : ShX (fun b => b < w.heap.size ∨ b = xb) g w4 s := hS.out.more hb4.size (fun b hb _ => hb4.block b hb) fun b hb => by
     have := hb4.size
     rcases hb with hb | rfl
     ·exact ⟨by omega, .inl hb⟩
     ·exact ⟨hxl, .inr hxg⟩
    have hB4 := hB.out.trans (hb4.mono hbs)
    obtain ⟨d0, d2⟩ := hcell.out w4 hB4
    have hop := su_open hS4 dn (by rw [hfo.out.len]; exact hdl)
    have hrd4 := ho4.rd
    have hsz4 := hB4.size
    have hfs := Lib.hid (hfo.out.said hdl hg3 hbl.out)
    have hrm : Room 999999999990 s := hfo.out.room.mono (by omega)
    have hrw := room_dwrite (hfo.out.room) (freshDev s dn) (gk : Int) bs
    replace hB4 := Lib.hid hB4
    replace hrd4 := Lib.hid hrd4
    replace hrm := Lib.hid hrm
    clear hen hS hB hfo hb4 hS4 ho4 hrw c0 c1 c2 c3 c4 c5 c6 c7
    go_wp2_with fail
    with_reducible refine (hmd _).mono ?_
    rintro e wx ⟨rfl, rfl⟩
    clear hmd
    go_wp2_with fail
    with_reducible refine hop.mono ?_
    rintro e w5 ⟨a, rfl, hag, hD5, hb5⟩
    have hB5 := hB4.out.trans (hb5.mono hsz4)
    obtain ⟨f0, _⟩ := hcell.out w5 hB5
    have hwr := su_write hD5 hrm.out (gk : Int) (by omega) (by omega) (some ⟨xb, 0, none⟩) 128 c4' bs (hrd4.out.below hb5) hbl.out (fun ad e => by injection e with e; subst e; exact .inr rfl)
    unfold WrPost at hwr
    generalize devWrite s (freshDev s dn) (gk : Int) bs = r at *
    replace hB5 := Lib.hid hB5
    clear hop hD5 hb5 hB4 hrd4
    go_wp2_with fail
    with_reducible refine (hsl _).mono ?_
    rintro e wx ⟨rfl, rfl⟩
    clear hsl
    go_wp2_with fail
    with_reducible refine hwr.mono ?_
    rintro e w6 ⟨rfl, hD6, hK6⟩
    have hB6 := hB5.out.trans (hK6.below fun b hb => .inl hb)
    have hfl := su_flush hD6
    generalize devFlush r.2.1 r.2.2 = u at *
    replace hB6 := Lib.hid hB6
    clear hwr hB5 hK6 hD6
    go_wp2_with fail
    with_reducible refine hfl.mono ?_
    rintro e w7 ⟨rfl, hD7, hK7⟩
    have hB7 := Lib.hid (hB6.out.trans (hK7.below fun b hb => .inl hb))
    have hS7 : Hid (ShX (fun b => b < w.heap.size) g w7 u.2.1) := Lib.hid (hD7.sh.mono fun b hb => .inl (.inl hb))
    have hfo9 : Hid (FoOk u.2.1 n ((i + 1) * 20)) := Lib.hid (hfs.out.mono (by omega))
    generalize u.2.1 = s9 at *
    clear hfl hB6 hK7 hD7 hfs
    go_wp2_with fail
    go_roundw
    case rel =>
     first
     | exact ⟨i + 1, s9, by go_num, by omega, by omega, hS7, hfo9, hB7⟩
     | ((repeat apply Exists.intro); exact ⟨⟨i + 1, s9, by go_num, by omega, by omega, hS7, hfo9, hB7⟩, rfl⟩)
    case measure => simp [intOf]; omega
  ·obtain ⟨s1, hS1, hfo1, hB1⟩ : ∃ s1, Hid (ShX (fun b => b < w.heap.size) g wr s1) ∧ Hid (FoOk s1 n 400) ∧ Hid (Below w.heap.size w wr) := ⟨s, hS, Lib.hid (hfo.out.mono (by omega)), hB⟩
   clear hS hfo hB hss hl1 hb1
   have hcase : (i : Int) < (l1 : Int) ∧ ¬ (i : Int) < 20 ∨ ¬ (i : Int) < (l1 : Int) := by omega
   clear hin
   rcases hcase with ⟨hi1, hi2⟩ | hi1
   all_goals
    as_aux_lemma =>
    go_wp2_with fail
    go_loopw [15] (fun p wr => ∃ (j : Nat) (s : ShM), p = .int .i64 j ∧ j ≤ l2 ∧ j ≤ 30 ∧ Hid (ShX (fun b => b < w.heap.size) g wr s) ∧ Hid (FoOk s n (400 + j)) ∧ Hid (Below w.heap.size w wr))
     (fun p _ => l2 - (intOf p).toNat)
    case atStart => exact ⟨0, s1, by go_num, by omega, by omega, hS1, hfo1, hB1⟩
    case round =>
     clear hS1 hfo1 hB1
     obtain ⟨j, s, rfl, hjl, hj30, hS, hfo, hB⟩ := hrel
     by_cases hin : j < l2 ∧ j < 30
     ·as_aux_lemma =>
      obtain ⟨hin1, hin2⟩ := hin
      have hio : j < ops.length := by rw [hl2.out]; exact hin1
      obtain ⟨ob, oo, rfl, hob, q0, q1, q2, q3, q4, hKo⟩ := hops.out.get hio
      obtain ⟨hbd, hbn⟩ := hb2.out _ (List.getElem_mem hio)
      generalize ops[j] = o at *
      obtain ⟨kind, no, d, x, keep', ka, kc4⟩ := o
      dsimp only at q0 q1 q2 q3 q4 hKo hbd hbn
      have hj1 : (j : Int) < (l2 : Int) := by omega
      have hj2 : (j : Int) < 30 := by omega
      have hmd := fun W => mod08 d (n : Int) W (by omega) (by omega) hbd.1 hbd.2
      have hmn := fun W => mod08 no 40 W (by omega) (by omega) hbn.1 hbn.2
      have c1 := (hB.out.cell (p := ⟨ob, oo + j * 5 + 1, none⟩) hob).trans q1
      have c2 := (hB.out.cell (p := ⟨ob, oo + j * 5 + 2, none⟩) hob).trans q2
      have c3 := (hB.out.cell (p := ⟨ob, oo + j * 5 + 3, none⟩) hob).trans q3
      have hsec := sector_any x wr.drew
      have hsl := secOf_len x
      have hbs := hB.out.size
      have hSk : ∀ W, Below wr.heap.size wr W → W.cell? ⟨ob, oo + j * 5 + 1, none⟩ = some (.int .i64 no) ∧ W.cell? ⟨ob, oo + j * 5 + 2, none⟩ = some (.int .i64 d) ∧ W.cell? ⟨ob, oo + j * 5 + 3, none⟩ = some (.int .u8 (x.toNat : Int)) := fun W hW =>
       ⟨(hW.cell (p := ⟨ob, oo + j * 5 + 1, none⟩) (Nat.lt_of_lt_of_le hob hbs)).trans c1, (hW.cell (p := ⟨ob, oo + j * 5 + 2, none⟩) (Nat.lt_of_lt_of_le hob hbs)).trans c2, (hW.cell (p := ⟨ob, oo + j * 5 + 3, none⟩) (Nat.lt_of_lt_of_le hob hbs)).trans c3⟩
      generalize secOf x = bs at *
      replace hSk := Lib.hid hSk
      replace hsec := Lib.hid hsec
      replace hmd := Lib.hid hmd
      replace hmn := Lib.hid hmn
      replace hsl := Lib.hid hsl
      generalize hdk : d % (n : Int) = dk' at *
      generalize hnk : no % 40 = nk' at *
      clear q0 q1 q2 q3 q4 hKo hbd hbn hdk hnk
      go_wp2_with fail
      refine wp_region_held_tail (S := (fun W => W.cell? ⟨ob, oo + j * 5 + 1, none⟩ = some (.int .i64 no) ∧ W.cell? ⟨ob, oo + j * 5 + 2, none⟩ = some (.int .i64 d) ∧ W.cell? ⟨ob, oo + j * 5 + 3, none⟩ = some (.int .u8 (x.toNat : Int)))) 20 (by kernel_rfl) (by decide) ?_ (fun hHeld => ?_)
      ·(try dsimp only)
       exact ⟨c1, c2, c3⟩
      refine tkT 0 ?_
      refine tkT 1 ?_
      refine tkT 2 ?_
      refine tkT 3 ?_
      refine tkT 4 ?_
      refine tkT 5 ?_
      refine tkT 6 ?_
      refine tkT 8 ?_
      refine tkT 9 ?_
      refine tkT 10 ?_
      refine tkT 11 ?_
      refine tkT 12 ?_
      refine tkT 14 ?_
      refine tkT 15 ?_
      refine tkT 16 ?_
      refine tkT 17 ?_
      refine tkT 18 ?_
      refine rkT 7 (fun K hK => ?_)
      go_simp
      with_reducible refine (hmd.out _).mono ?_
      rintro e wx ⟨rfl, rfl⟩
      (try go_wp2_with fail)
      refine hK.out _ _ ?_ (fun hHeld2 => ?_)
      ·(try dsimp only)
       (first | exact hHeld | exact hS3)
      clear hK K
      replace hHeld := hHeld2
      clear hHeld2
      (try simp only [pA, pN, pB, pC, pD])
      refine rkT 13 (fun K hK => ?_)
      go_simp
      with_reducible refine (hmn.out _).mono ?_
      rintro e wx ⟨rfl, rfl⟩
      (try go_wp2_with fail)
      refine hK.out _ _ ?_ (fun hHeld2 => ?_)
      ·(try dsimp only)
       (first | exact hHeld | exact hS3)
      clear hK K
      replace hHeld := hHeld2
      clear hHeld2
      (try simp only [pA, pN, pB, pC, pD])
      refine rkT 19 (fun K hK => ?_)
      go_simp
      with_reducible refine hsec.out.mono ?_
      rintro e w3 ⟨A3, c3', rfl, ho3, hb3⟩
      have hb3' := (Below.refl wr.heap.size wr).drew.trans hb3
      have hS3 := hSk.out w3 hb3'
      (try go_wp2_with fail)
      refine hK.out _ _ ?_ (fun hHeld2 => ?_)
      ·(try dsimp only)
       (first | exact hHeld | exact hS3)
      clear hK K
      replace hHeld := hHeld2
      clear hHeld2
      (try simp only [pA, pN, pB, pC, pD])
      refine wt_tail (by kernel_rfl) ?_
      simp only [List.drop_succ_cons, List.drop_zero]
      have hwr := lx_write hS.out.drew hb3 dk' nk' A3 128 c3' bs _ ho3 hsl.out (by have := hfo.out.room dk'.toNat; omega)
      have hfo9 := Lib.hid ((hfo.out.wr dk' nk' (b := bs)).mono (k := 400 + (j + 1)) (by omega))
      generalize s.writeR dk' nk' bs = r at *
      obtain ⟨er, s9⟩ := r
      dsimp only at hwr hfo9
      have hBd := Lib.hid hB.out.drew
      clear hHeld hsec hSk hmd hmn hS hfo hB ho3 hb3 hb3' hS3 c1 c2 c3
      go_wp2_with fail
      with_reducible refine hwr.mono ?_
      rintro e w5 ⟨rfl, hS5, hK5⟩
      have hB5 := Lib.hid (hBd.out.trans (hK5.below fun b hb => hb))
      replace hS5 := Lib.hid hS5
      clear hwr hK5 hBd
      go_wp2_with fail
      go_roundw
      case rel =>
       first
       | exact ⟨j + 1, s9, by go_num, by omega, by omega, hS5, hfo9, hB5⟩
       | ((repeat apply Exists.intro); exact ⟨⟨j + 1, s9, by go_num, by omega, by omega, hS5, hfo9, hB5⟩, rfl⟩)
      case measure => simp [intOf]; omega
     ·have hcase2 : (j : Int) < (l2 : Int) ∧ ¬ (j : Int) < 30 ∨ ¬ (j : Int) < (l2 : Int) := by omega
      have hfo1 := hfo.out.mono (k := 430) (by omega)
      have hop := ra_open hS.out (hfo1.room.mono (by omega))
      obtain ⟨he, hfo2⟩ := hfo1.open_
      unfold MakePost at hop
      generalize volOpen s = r at *
      obtain ⟨er, s2, V⟩ := r
      dsimp only at hop he hfo2
      have hB0 := hB
      replace hfo2 := Lib.hid hfo2
      clear hin hS hfo hfo1 hB hops hl2 hb2
      rcases hcase2 with ⟨hj1, hj2⟩ | hj1
      all_goals
       as_aux_lemma =>
       rcases he with rfl | rfl
       ·go_wp2_with fail
        with_reducible refine hop.mono ?_
        rintro e w3 ⟨hm3, _, hK3⟩
        obtain ⟨F, rfl, rfl, hV3⟩ := hm3 (by simp)
        have hB3 := Lib.hid (hB0.out.trans (hK3.below fun b hb => hb))
        replace hV3 := Lib.hid hV3
        clear hop hm3 hK3 hB0
        go_wp2_with fail
        go_loopw [17] (fun p wr => ∃ (i : Nat) (s : ShM) (V : VolM), p = .int .i64 i ∧ i ≤ 40 ∧ Hid (VolX (fun b => b < w.heap.size) F wr s V) ∧ Hid (FoOk s n (10430 + 42 * i)) ∧ Hid (Below w.heap.size w wr))
         (fun p _ => 40 - (intOf p).toNat)
        case atStart => exact ⟨0, s2, V, by go_num, by omega, hV3, hfo2, hB3⟩
        case round =>
         clear hV3 hfo2 hB3
         obtain ⟨i, s, V, rfl, hi40, hV, hfo, hB⟩ := hrel
         by_cases hi : i < 40
         ·have hi1 : (i : Int) < 40 := by omega
          by_cases hib : i < V.size
          ·have hvd := hV.out.ok.vd hV.out.sh.ok
           obtain ⟨hrd, hfo9, _⟩ := hfo.out.read hvd hib
           have hcl := ra_read hV.out (hfo.out.room.mono (by omega)) i hib
           unfold BytesPost at hcl
           generalize volRead s V (i : Int) = r at *
           obtain ⟨bs, er, s9, V9⟩ := r
           dsimp only at hrd hfo9 hcl
           replace hfo9 := Lib.hid (hfo9.mono (k := 10430 + 42 * (i + 1)) (by omega))
           clear hvd hV hfo hib
           rcases hrd with ⟨rfl, hlen⟩ | rfl
           ·rw [hlen] at hcl
            clear hlen
            go_wp2_with fail
            with_reducible refine hcl.mono ?_
            rintro e w8 ⟨A8, c8, rfl, _, _, _, hV8, hK8⟩
            have hV9 := Lib.hid (hV8.mono fun b hb => .inl hb)
            have hB9 := Lib.hid (hB.out.trans (hK8.below fun b hb => hb))
            clear hcl hV8 hK8 hB
            go_wp2_with fail
            go_roundw
            case rel =>
             first
             | exact ⟨i + 1, s9, V9, by go_num, by omega, hV9, hfo9, hB9⟩
             | ((repeat apply Exists.intro); exact ⟨⟨i + 1, s9, V9, by go_num, by omega, hV9, hfo9, hB9⟩, rfl⟩)
            case measure => simp [intOf]; omega
           ·go_wp2_with fail
            with_reducible refine hcl.mono ?_
            rintro e w8 ⟨A8, c8, rfl, _, _, _, hV8, hK8⟩
            have hV9 := Lib.hid (hV8.mono fun b hb => .inl hb)
            have hB9 := Lib.hid (hB.out.trans (hK8.below fun b hb => hb))
            clear hcl hV8 hK8 hB
            go_wp2_with fail
            go_roundw
            case rel =>
             first
             | exact ⟨i + 1, s9, V9, by go_num, by omega, hV9, hfo9, hB9⟩
             | ((repeat apply Exists.intro); exact ⟨⟨i + 1, s9, V9, by go_num, by omega, hV9, hfo9, hB9⟩, rfl⟩)
            case measure => simp [intOf]; omega
          ·have hbad : ¬ (0 ≤ (i : Int) ∧ (i : Int) < V.size) := by omega
           have hcl := ra_read_bad hV.out (i : Int) hbad
           rw [vs_read_bad s V hbad] at hcl
           unfold BytesPost at hcl
           dsimp only at hcl
           have hszb : ¬ (i : Int) < (V.size : Int) := by omega
           have hfo9 := Lib.hid (hfo.out.mono (k := 10430 + 42 * (i + 1)) (by omega))
           obtain ⟨N, hN⟩ : ∃ N, N = V.size := ⟨_, rfl⟩
           have hszc : ∀ w8, VolX (fun b => b < w.heap.size) F w8 s V → Calls Try.prog 24 #[.pointer (some ⟨F.v, 0, none⟩)] w8 fun e w' => e = .returned (.int .i64 (N : Nat)) ∧ ∃ n, w' = w8.drewN n := fun w8 h => by rw [hN]; exact ra_size h
           rw [← hN] at hszb
           replace hszc := Lib.hid hszc
           clear hV hfo hib hbad hN
           go_wp2_with fail
           with_reducible refine hcl.mono ?_
           rintro e w8 ⟨A8, c8, rfl, _, _, _, hV8, hK8⟩
           have hV9 := hV8.mono (Y := fun b => b < w.heap.size) fun b hb => .inl hb
           have hB9 := hB.out.trans (hK8.below fun b hb => hb)
           have hsz9 := hszc.out w8 hV9
           have hfn : ∀ k, VolX (fun b => b < w.heap.size) F (w8.drewN k) s V ∧ Below w.heap.size w (w8.drewN k) := fun k => ⟨hV9.below (below_drewN (Below.refl _ _) k), below_drewN hB9 k⟩
           replace hfn := Lib.hid hfn
           clear hcl hV8 hK8 hB hszc hV9 hB9
           go_wp2_with fail
           with_reducible refine hsz9.mono ?_
           rintro e w9 ⟨rfl, kk, rfl⟩
           obtain ⟨f1, f2⟩ := hfn.out kk
           have hV9 := Lib.hid f1
           have hB9 := Lib.hid f2
           clear hsz9 hfn f1 f2
           go_wp2_with fail
           go_roundw
           case rel =>
            first
            | exact ⟨i + 1, s, V, by go_num, by omega, hV9, hfo9, hB9⟩
            | ((repeat apply Exists.intro); exact ⟨⟨i + 1, s, V, by go_num, by omega, hV9, hfo9, hB9⟩, rfl⟩)
           case measure => simp [intOf]; omega
         ·have hi1 : ¬ (i : Int) < 40 := by omega
          have hst := ra_status hV.out
          have hszc := fun W (hW : Below wr.heap.size wr W) => ra_size (hV.out.below hW)
          have hok := hV.out.ok
          have e3 := hok.m3N
          have e16 := hok.m16N
          have e1024 := hok.sN
          have e1025 := hok.st1024
          have hlen := hok.len
          have hsl := hok.slen
          rw [hfo.out.len] at hsl
          rw [← hsl] at hlen
          have hVs : V.size = V.stripes * (V.m - 1) := rfl
          unfold StatPost statR at hst
          rw [hfo.out.deads V] at hst
          generalize V.size = sz at *
          generalize V.m = m at *
          generalize V.stripes = st at *
          generalize V.sup.spare = sp at *
          generalize V.sup.mark = mk at *
          generalize V.sup.cursor = cu at *
          obtain ⟨k, rfl⟩ : ∃ k, m = k + 1 := ⟨m - 1, by omega⟩
          simp only [Nat.add_sub_cancel] at hVs
          have hst9 : st ≤ 1024 := by omega
          have hbd : st * k ≤ 1024 * 16 := Nat.mul_le_mul hst9 (by omega)
          have hwm : IntKind.i64.wrap ((k : Int) + 1 - 1) = (k : Int) := by rw [IntWalk.i64_in _ (by omega)]; omega
          have hwm0 : IntKind.i64.wrap (k : Int) = (k : Int) := IntWalk.i64_in _ (by omega)
          have hwm2 : IntKind.i64.wrap ((k : Int) + 1 + 1) = (k : Int) + 1 + 1 := IntWalk.i64_in _ (by omega)
          have hk1 : decide (3 ≤ (k : Int) + 1) = true := decide_eq_true (by omega)
          have hk2 : decide ((k : Int) + 1 ≤ 16) = true := decide_eq_true (by omega)
          have hws : IntKind.i64.wrap ((st : Int) * (k : Int)) = (sz : Int) := by rw [← Int.natCast_mul, IntWalk.i64_in _ (by omega), hVs]
          replace hszc := Lib.hid hszc
          have hbs := hB.out.size
          clear hV hfo hok e1024 e1025 hVs hbd hsl
          go_wp2_with fail
          with_reducible refine hst.mono ?_
          rintro e w5 ⟨A5, c5, rfl, _, _, hb5⟩
          clear hst
          go_wp2_with fail
          have hb6 : Below wr.heap.size wr (w5.alloc (.cells #[.int .i64 ((k : Int) + 1), .int .i64 (st : Int), .slice A5 0 c5, .int .i64 sp, .int .i64 mk, .int .i64 cu] 63)) := hb5.trans ((below_made' _ _).mono hb5.size)
          have hszd := fun n => hszc.out _ (below_drewN hb6 n)
          have hBf := Lib.hid fun n => below_drewN (hB.out.trans (hb6.mono hbs)) n
          have hBf0 := hBf
          clear hszc hb5 hb6 hBf hB
          rcases hlen with hl9 | hl9
          ·have hn1 : ((n : Int) == (k : Int) + 1) = true := beq_iff_eq.2 (by omega)
           replace hl9 := Lib.hid hl9
           go_big_quiet (first | with_reducible exact Calls.quiet_of (hszd _))
           clear hszd
           go_wp2_with fail
           go_ret
           exact ⟨by first | rfl | (simp; done) | simp [hws], hBf0.out _⟩
          ·have hn1 : ((n : Int) == (k : Int) + 1) = false := beq_eq_false_iff_ne.2 (by omega)
           have hn2 : ((n : Int) == (k : Int) + 1 + 1) = true := beq_iff_eq.2 (by omega)
           replace hl9 := Lib.hid hl9
           go_big_quiet (first | with_reducible exact Calls.quiet_of (hszd _))
           clear hszd
           go_wp2_with fail
           go_ret
           exact ⟨by first | rfl | (simp; done) | simp [hws], hBf0.out _⟩
       ·go_wp2_with fail
        with_reducible refine hop.mono ?_
        rintro e w3 ⟨_, hm3, hK3⟩
        obtain ⟨rfl, _⟩ := hm3 (by simp)
        have hB3 := Lib.hid (hB0.out.trans (hK3.below fun b hb => hb))
        clear hop hm3 hK3 hB0
        go_wp2_with fail
        go_ret
        exact ⟨rfl, hB3.out⟩
end Go.Proofs.Ytajnlhalanhicaa

/-
  THE WALK of ShelfStops.
-/
import Derived.Test.YtffdpipmfdkaoaaShL
import Derived.Test.YtffdpipmfdkaoaaShStopM
import Derived.Test.YtffdpipmfdkaoaaShOp
namespace Go.Proofs.Ytffdpipmfdkaoaa
set_option linter.all false
open Go.RowKit

set_option maxRecDepth 10000 in
set_option maxHeartbeats 4000000 in
theorem shelfStops_walk (n : Int) (A : Option Addr) (m c : Nat) (ops : List OpM) (again : Int) (w : World) (_ : -9223372036854775808 ≤ n) (hn9 : n ≤ 9223372036854775807) (hops : OpsAt w w.heap.size A ops) (hm : ops.length = m) (_ : -9223372036854775808 ≤ again) (_ : again ≤ 9223372036854775807) :
    Calls Try.prog 5 #[.int .i64 n, .slice A m c, .int .i64 again] w fun e w' => e = .returned (.bool true) ∧ Below w.heap.size w w' := by
  have hnew := lw_new w 2 8 (by omega) (by omega) (by omega) (by omega)
  rw [show ((2 : Nat) : Int) = 2 from rfl, show ((8 : Nat) : Int) = 8 from rfl] at hnew
  replace hops := Lib.hid hops
  replace hm := Lib.hid hm
  go_enter Try.func5, Try.ntmps5
  go_wp2_with fail
  refine hnew.mono ?_
  rintro e w1 ⟨g, rfl, hS1, hB1⟩
  clear hnew
  go_wp2_with fail
  refine (lives05 w1).mono ?_
  rintro e w2 ⟨rfl, hb2⟩
  have hS2 := hS1.below hb2
  have hB2 := hB1.trans (hb2.mono hB1.size)
  clear hS1 hB1 hb2
  go_wp2_with fail
  refine (lw_stop hS2 n).mono ?_
  rintro e w3 ⟨rfl, hS3, hB3⟩
  have hBB := hB2.trans hB3
  have hI0 := Lib.hid (stop_start n)
  clear hS2 hB2 hB3
  go_wp2_with fail
  go_loopw [9, 10] (fun p q wr => ∃ (done k : Nat) (s : ShM), p = .int .i64 done ∧ q = .int .i64 k ∧ k ≤ m ∧ k ≤ 1000 ∧ done ≤ k ∧ Hid (StopInv n done s) ∧ Hid (Room k s) ∧ Sh w.heap.size g wr s ∧ Below w.heap.size w wr)
    (fun p q _ => (m - intOf q).toNat)
  case atStart => exact ⟨0, 0, (freshSh 2 8).stop n, by go_num, by go_num, by omega, by omega, by omega, hI0, Lib.hid (room_stop (room_fresh 2 8) n), hS3, hBB⟩
  case round =>
    obtain ⟨done, k, s, rfl, rfl, hkm, hk1, hdk, hI, hR, hS, hB⟩ := hrel
    by_cases hlt : k < m ∧ k < 1000
    · obtain ⟨hlt1, hlt2⟩ := hlt
      have hkl : k < ops.length := by rw [hm.out]; exact hlt1
      obtain ⟨b, o, rfl, hbl, c0, c1, c2, c3, c4, c5, _⟩ := (hops.out.below hB (Nat.le_refl _)).get hkl
      have hblt := World.block_lt_of_cell? wr _ c0
      generalize ops[k] = op at *
      clear c1 c2 c3 c5
      have hc0 : ∀ W, Below w.heap.size wr W → W.cell? ⟨b, o + k * 6, none⟩ = some (.int .i64 op.kind) := fun W hW => (hW.cell (p := ⟨b, o + k * 6, none⟩) hbl).trans c0
      replace hc0 := Lib.hid hc0
      generalize op.kind = kind at *
      generalize op.with_ = bw at *
      by_cases hk2 : kind = 2
      · subst hk2
        go_wp2_with fail
        refine (sector_any bw wr).mono ?_
        rintro e w4 ⟨A4, c4', rfl, ho4, hb4⟩
        go_wp2_with fail
        have hw := lw_write hS hb4 0 1 A4 128 c4' (secOf bw) _ ho4 (secOf_len bw) ((hR.out.mono (by omega)) _)
        have hsw := stop_write hI.out hn9 (secOf bw) (secOf_len bw)
        clear ho4 hb4
        rcases (show n < 0 ∨ (0 ≤ n ∧ n ≤ (done : Int)) ∨ (0 ≤ n ∧ (done : Int) < n ∧ n ≤ (done : Int) + 1) ∨ (0 ≤ n ∧ (done : Int) + 1 < n ∧ (done : Int) < n) from by omega) with hc | ⟨hc, hc'⟩ | ⟨hc, hc', hc''⟩ | ⟨hc, hc', hc''⟩
        · rw [if_neg (by omega)] at hsw
          obtain ⟨hf, hJ⟩ := hsw
          rw [hf] at hw
          refine hw.mono ?_
          rintro e w5 ⟨rfl, hS5, hB5⟩
          have hBw := hB.trans hB5
          replace hc0 := hc0.out w5 hB5
          have hR5 := Lib.hid (room_write hR.out 0 1 (secOf bw))
          replace hJ := Lib.hid hJ
          clear hw hf
          generalize (s.writeR 0 1 (secOf bw)).2 = s5 at *
          have hov : s5.off = false := by rw [(hJ.out).off]; exact decide_eq_false (by omega)
          have ho := lw_off hS5
          rw [hov] at ho
          replace hov := Lib.hid hov
          go_wp2_with fail
          refine ho.mono ?_
          rintro e w6 ⟨rfl, rfl⟩
          have hS7 := hS5
          have hB8 := hBw
          have ho2 := ho
          go_wp2_with fail
          refine ho2.mono ?_
          rintro e w8 ⟨rfl, rfl⟩
          clear ho ho2
          go_wp2
          go_roundw
          case rel => exact ⟨done + 1, k + 1, _, by go_num, by go_num, by omega, by omega, by omega, hJ, hR5, hS7, hB8⟩
          case measure => simp [intOf]; omega
        · rw [if_pos ⟨hc, hc'⟩] at hsw
          rw [hsw] at hw
          refine hw.mono ?_
          rintro e w5 ⟨rfl, hS5, hB5⟩
          have hJ := hI
          have hBw := hB.trans hB5
          replace hc0 := hc0.out w5 hB5
          replace hsw := Lib.hid hsw
          clear hw
          dsimp only at hS5
          dsimp only
          have hov : s.off = true := by rw [(hJ.out).off]; exact decide_eq_true (by omega)
          have ho := lw_off hS5
          rw [hov] at ho
          replace hov := Lib.hid hov
          go_wp2_with fail
          refine ho.mono ?_
          rintro e w6 ⟨rfl, rfl⟩
          go_wp2_with fail
          refine (lw_stop hS5 again).mono ?_
          rintro e w7 ⟨rfl, hS7, hB7⟩
          rw [stop_again hJ.out (by omega) again] at hS7
          have ho2 := lw_off hS7
          rw [hov.out] at ho2
          have hB8 := hBw.trans hB7
          go_wp2_with fail
          refine ho2.mono ?_
          rintro e w8 ⟨rfl, rfl⟩
          clear ho ho2
          go_wp2
          go_roundw
          case rel => exact ⟨done, k + 1, _, by go_num, by go_num, by omega, by omega, by omega, hJ, Lib.hid (hR.out.mono (Nat.le_succ _)), hS7, hB8⟩
          case measure => simp [intOf]; omega
        · rw [if_neg (by omega)] at hsw
          obtain ⟨hf, hJ⟩ := hsw
          rw [hf] at hw
          refine hw.mono ?_
          rintro e w5 ⟨rfl, hS5, hB5⟩
          have hBw := hB.trans hB5
          replace hc0 := hc0.out w5 hB5
          have hR5 := Lib.hid (room_write hR.out 0 1 (secOf bw))
          replace hJ := Lib.hid hJ
          clear hw hf
          generalize (s.writeR 0 1 (secOf bw)).2 = s5 at *
          have hov : s5.off = true := by rw [(hJ.out).off]; exact decide_eq_true (by omega)
          have ho := lw_off hS5
          rw [hov] at ho
          replace hov := Lib.hid hov
          go_wp2_with fail
          refine ho.mono ?_
          rintro e w6 ⟨rfl, rfl⟩
          go_wp2_with fail
          refine (lw_stop hS5 again).mono ?_
          rintro e w7 ⟨rfl, hS7, hB7⟩
          rw [stop_again hJ.out (by omega) again] at hS7
          have ho2 := lw_off hS7
          rw [hov.out] at ho2
          have hB8 := hBw.trans hB7
          go_wp2_with fail
          refine ho2.mono ?_
          rintro e w8 ⟨rfl, rfl⟩
          clear ho ho2
          go_wp2
          go_roundw
          case rel => exact ⟨done + 1, k + 1, _, by go_num, by go_num, by omega, by omega, by omega, hJ, hR5, hS7, hB8⟩
          case measure => simp [intOf]; omega
        · rw [if_neg (by omega)] at hsw
          obtain ⟨hf, hJ⟩ := hsw
          rw [hf] at hw
          refine hw.mono ?_
          rintro e w5 ⟨rfl, hS5, hB5⟩
          have hBw := hB.trans hB5
          replace hc0 := hc0.out w5 hB5
          have hR5 := Lib.hid (room_write hR.out 0 1 (secOf bw))
          replace hJ := Lib.hid hJ
          clear hw hf
          generalize (s.writeR 0 1 (secOf bw)).2 = s5 at *
          have hov : s5.off = false := by rw [(hJ.out).off]; exact decide_eq_false (by omega)
          have ho := lw_off hS5
          rw [hov] at ho
          replace hov := Lib.hid hov
          go_wp2_with fail
          refine ho.mono ?_
          rintro e w6 ⟨rfl, rfl⟩
          have hS7 := hS5
          have hB8 := hBw
          have ho2 := ho
          go_wp2_with fail
          refine ho2.mono ?_
          rintro e w8 ⟨rfl, rfl⟩
          clear ho ho2
          go_wp2
          go_roundw
          case rel => exact ⟨done + 1, k + 1, _, by go_num, by go_num, by omega, by omega, by omega, hJ, hR5, hS7, hB8⟩
          case measure => simp [intOf]; omega
      · by_cases hk3 : kind = 3
        · subst hk3
          go_wp2_with fail
          have hw := lw_flush hS 0
          have hsw := stop_flush hI.out hn9
          rcases (show n < 0 ∨ (0 ≤ n ∧ n ≤ (done : Int)) ∨ (0 ≤ n ∧ (done : Int) < n ∧ n ≤ (done : Int) + 1) ∨ (0 ≤ n ∧ (done : Int) + 1 < n ∧ (done : Int) < n) from by omega) with hc | ⟨hc, hc'⟩ | ⟨hc, hc', hc''⟩ | ⟨hc, hc', hc''⟩
          · rw [if_neg (by omega)] at hsw
            obtain ⟨hf, hJ⟩ := hsw
            rw [hf] at hw
            refine hw.mono ?_
            rintro e w5 ⟨rfl, hS5, hB5⟩
            have hBw := hB.trans hB5
            replace hc0 := hc0.out w5 hB5
            have hR5 := Lib.hid ((room_flush hR.out 0).mono (Nat.le_succ _))
            replace hJ := Lib.hid hJ
            clear hw hf
            generalize (s.flushR 0).2 = s5 at *
            have hov : s5.off = false := by rw [(hJ.out).off]; exact decide_eq_false (by omega)
            have ho := lw_off hS5
            rw [hov] at ho
            replace hov := Lib.hid hov
            go_wp2_with fail
            refine ho.mono ?_
            rintro e w6 ⟨rfl, rfl⟩
            have hS7 := hS5
            have hB8 := hBw
            have ho2 := ho
            go_wp2_with fail
            refine ho2.mono ?_
            rintro e w8 ⟨rfl, rfl⟩
            clear ho ho2
            go_wp2
            go_roundw
            case rel => exact ⟨done + 1, k + 1, _, by go_num, by go_num, by omega, by omega, by omega, hJ, hR5, hS7, hB8⟩
            case measure => simp [intOf]; omega
          · rw [if_pos ⟨hc, hc'⟩] at hsw
            rw [hsw] at hw
            refine hw.mono ?_
            rintro e w5 ⟨rfl, hS5, hB5⟩
            have hJ := hI
            have hBw := hB.trans hB5
            replace hc0 := hc0.out w5 hB5
            replace hsw := Lib.hid hsw
            clear hw
            dsimp only at hS5
            dsimp only
            have hov : s.off = true := by rw [(hJ.out).off]; exact decide_eq_true (by omega)
            have ho := lw_off hS5
            rw [hov] at ho
            replace hov := Lib.hid hov
            go_wp2_with fail
            refine ho.mono ?_
            rintro e w6 ⟨rfl, rfl⟩
            go_wp2_with fail
            refine (lw_stop hS5 again).mono ?_
            rintro e w7 ⟨rfl, hS7, hB7⟩
            rw [stop_again hJ.out (by omega) again] at hS7
            have ho2 := lw_off hS7
            rw [hov.out] at ho2
            have hB8 := hBw.trans hB7
            go_wp2_with fail
            refine ho2.mono ?_
            rintro e w8 ⟨rfl, rfl⟩
            clear ho ho2
            go_wp2
            go_roundw
            case rel => exact ⟨done, k + 1, _, by go_num, by go_num, by omega, by omega, by omega, hJ, Lib.hid (hR.out.mono (Nat.le_succ _)), hS7, hB8⟩
            case measure => simp [intOf]; omega
          · rw [if_neg (by omega)] at hsw
            obtain ⟨hf, hJ⟩ := hsw
            rw [hf] at hw
            refine hw.mono ?_
            rintro e w5 ⟨rfl, hS5, hB5⟩
            have hBw := hB.trans hB5
            replace hc0 := hc0.out w5 hB5
            have hR5 := Lib.hid ((room_flush hR.out 0).mono (Nat.le_succ _))
            replace hJ := Lib.hid hJ
            clear hw hf
            generalize (s.flushR 0).2 = s5 at *
            have hov : s5.off = true := by rw [(hJ.out).off]; exact decide_eq_true (by omega)
            have ho := lw_off hS5
            rw [hov] at ho
            replace hov := Lib.hid hov
            go_wp2_with fail
            refine ho.mono ?_
            rintro e w6 ⟨rfl, rfl⟩
            go_wp2_with fail
            refine (lw_stop hS5 again).mono ?_
            rintro e w7 ⟨rfl, hS7, hB7⟩
            rw [stop_again hJ.out (by omega) again] at hS7
            have ho2 := lw_off hS7
            rw [hov.out] at ho2
            have hB8 := hBw.trans hB7
            go_wp2_with fail
            refine ho2.mono ?_
            rintro e w8 ⟨rfl, rfl⟩
            clear ho ho2
            go_wp2
            go_roundw
            case rel => exact ⟨done + 1, k + 1, _, by go_num, by go_num, by omega, by omega, by omega, hJ, hR5, hS7, hB8⟩
            case measure => simp [intOf]; omega
          · rw [if_neg (by omega)] at hsw
            obtain ⟨hf, hJ⟩ := hsw
            rw [hf] at hw
            refine hw.mono ?_
            rintro e w5 ⟨rfl, hS5, hB5⟩
            have hBw := hB.trans hB5
            replace hc0 := hc0.out w5 hB5
            have hR5 := Lib.hid ((room_flush hR.out 0).mono (Nat.le_succ _))
            replace hJ := Lib.hid hJ
            clear hw hf
            generalize (s.flushR 0).2 = s5 at *
            have hov : s5.off = false := by rw [(hJ.out).off]; exact decide_eq_false (by omega)
            have ho := lw_off hS5
            rw [hov] at ho
            replace hov := Lib.hid hov
            go_wp2_with fail
            refine ho.mono ?_
            rintro e w6 ⟨rfl, rfl⟩
            have hS7 := hS5
            have hB8 := hBw
            have ho2 := ho
            go_wp2_with fail
            refine ho2.mono ?_
            rintro e w8 ⟨rfl, rfl⟩
            clear ho ho2
            go_wp2
            go_roundw
            case rel => exact ⟨done + 1, k + 1, _, by go_num, by go_num, by omega, by omega, by omega, hJ, hR5, hS7, hB8⟩
            case measure => simp [intOf]; omega
        · have hb2 : (kind == 2) = false := beq_eq_false_iff_ne.2 hk2
          have hb3 : (kind == 3) = false := beq_eq_false_iff_ne.2 hk3
          have hJ := hI
          rcases (show n < 0 ∨ (0 ≤ n ∧ n ≤ (done : Int)) ∨ (0 ≤ n ∧ (done : Int) < n ∧ n ≤ (done : Int) + 1) ∨ (0 ≤ n ∧ (done : Int) + 1 < n ∧ (done : Int) < n) from by omega) with hc | ⟨hc, hc'⟩ | ⟨hc, hc', hc''⟩ | ⟨hc, hc', hc''⟩
          · have hov : s.off = false := by rw [(hJ.out).off]; exact decide_eq_false (by omega)
            have ho := lw_off hS
            rw [hov] at ho
            replace hov := Lib.hid hov
            go_wp2_with fail
            refine ho.mono ?_
            rintro e w6 ⟨rfl, rfl⟩
            have hS7 := hS
            have hB8 := hB
            have ho2 := ho
            go_wp2_with fail
            refine ho2.mono ?_
            rintro e w8 ⟨rfl, rfl⟩
            clear ho ho2
            go_wp2
            go_roundw
            case rel => exact ⟨done, k + 1, _, by go_num, by go_num, by omega, by omega, by omega, hJ, Lib.hid (hR.out.mono (Nat.le_succ _)), hS7, hB8⟩
            case measure => simp [intOf]; omega
          · have hov : s.off = true := by rw [(hJ.out).off]; exact decide_eq_true (by omega)
            have ho := lw_off hS
            rw [hov] at ho
            replace hov := Lib.hid hov
            go_wp2_with fail
            refine ho.mono ?_
            rintro e w6 ⟨rfl, rfl⟩
            go_wp2_with fail
            refine (lw_stop hS again).mono ?_
            rintro e w7 ⟨rfl, hS7, hB7⟩
            rw [stop_again hJ.out (by omega) again] at hS7
            have ho2 := lw_off hS7
            rw [hov.out] at ho2
            have hB8 := hB.trans hB7
            go_wp2_with fail
            refine ho2.mono ?_
            rintro e w8 ⟨rfl, rfl⟩
            clear ho ho2
            go_wp2
            go_roundw
            case rel => exact ⟨done, k + 1, _, by go_num, by go_num, by omega, by omega, by omega, hJ, Lib.hid (hR.out.mono (Nat.le_succ _)), hS7, hB8⟩
            case measure => simp [intOf]; omega
          · have hov : s.off = false := by rw [(hJ.out).off]; exact decide_eq_false (by omega)
            have ho := lw_off hS
            rw [hov] at ho
            replace hov := Lib.hid hov
            go_wp2_with fail
            refine ho.mono ?_
            rintro e w6 ⟨rfl, rfl⟩
            have hS7 := hS
            have hB8 := hB
            have ho2 := ho
            go_wp2_with fail
            refine ho2.mono ?_
            rintro e w8 ⟨rfl, rfl⟩
            clear ho ho2
            go_wp2
            go_roundw
            case rel => exact ⟨done, k + 1, _, by go_num, by go_num, by omega, by omega, by omega, hJ, Lib.hid (hR.out.mono (Nat.le_succ _)), hS7, hB8⟩
            case measure => simp [intOf]; omega
          · have hov : s.off = false := by rw [(hJ.out).off]; exact decide_eq_false (by omega)
            have ho := lw_off hS
            rw [hov] at ho
            replace hov := Lib.hid hov
            go_wp2_with fail
            refine ho.mono ?_
            rintro e w6 ⟨rfl, rfl⟩
            have hS7 := hS
            have hB8 := hB
            have ho2 := ho
            go_wp2_with fail
            refine ho2.mono ?_
            rintro e w8 ⟨rfl, rfl⟩
            clear ho ho2
            go_wp2
            go_roundw
            case rel => exact ⟨done, k + 1, _, by go_num, by go_num, by omega, by omega, by omega, hJ, Lib.hid (hR.out.mono (Nat.le_succ _)), hS7, hB8⟩
            case measure => simp [intOf]; omega
    · have hcr := stop_crash hI.out
      have hrm := room_crash s [] 0
      have hct := lw_crash hS none 0 0 [] (KeepL.nil _ _) rfl
      have hx : (m : Int) ≤ (k : Int) ∨ ((k : Int) < (m : Int) ∧ 1000 ≤ (k : Int)) := by omega
      clear hlt
      rcases hx with hx | ⟨hx, hx'⟩
      · go_wp2_with fail
        refine hct.mono ?_
        rintro e w4 ⟨rfl, hS4, hB4⟩
        replace hB := hB.trans hB4
        have ho := lw_off hS4
        rw [hcr.1] at ho
        go_wp2_with fail
        refine ho.mono ?_
        rintro e w5 ⟨rfl, rfl⟩
        have hs1 := sector_any 1 w4
        rw [show (((1 : UInt8).toNat : Nat) : Int) = 1 from rfl] at hs1
        go_wp2_with fail
        refine hs1.mono ?_
        rintro e w6 ⟨A6, c6, rfl, ho6, hb6⟩
        have hw := lw_write hS4 hb6 0 1 A6 128 c6 (secOf 1) _ ho6 (secOf_len 1) (hrm.mono (by omega) _)
        rw [hcr.2] at hw
        clear ho hs1 ho6
        go_wp2_with fail
        refine hw.mono ?_
        rintro e w7 ⟨rfl, _, hB7⟩
        have hBf := hB.trans hB7
        clear hw
        go_wp2
        go_ret
        exact ⟨by simp, hBf⟩
      · go_wp2_with fail
        refine hct.mono ?_
        rintro e w4 ⟨rfl, hS4, hB4⟩
        replace hB := hB.trans hB4
        have ho := lw_off hS4
        rw [hcr.1] at ho
        go_wp2_with fail
        refine ho.mono ?_
        rintro e w5 ⟨rfl, rfl⟩
        have hs1 := sector_any 1 w4
        rw [show (((1 : UInt8).toNat : Nat) : Int) = 1 from rfl] at hs1
        go_wp2_with fail
        refine hs1.mono ?_
        rintro e w6 ⟨A6, c6, rfl, ho6, hb6⟩
        have hw := lw_write hS4 hb6 0 1 A6 128 c6 (secOf 1) _ ho6 (secOf_len 1) (hrm.mono (by omega) _)
        rw [hcr.2] at hw
        clear ho hs1 ho6
        go_wp2_with fail
        refine hw.mono ?_
        rintro e w7 ⟨rfl, _, hB7⟩
        have hBf := hB.trans hB7
        clear hw
        go_wp2
        go_ret
        exact ⟨by simp, hBf⟩
end Go.Proofs.Ytffdpipmfdkaoaa

/-
  THE WALK of ShelfSure.
-/
import Derived.Test.YtffdpipmfdkaoaaShL
import Derived.Test.YtffdpipmfdkaoaaShSureM
import Derived.Test.YtffdpipmfdkaoaaShOp
namespace Go.Proofs.Ytffdpipmfdkaoaa
set_option linter.all false
open Go.RowKit

set_option maxRecDepth 10000 in
set_option maxHeartbeats 4000000 in
theorem shelfSure_walk (A : Option Addr) (m c : Nat) (ops : List OpM) (n : Int) (bw : UInt8) (KA : Option Addr) (kn kc : Nat) (keep : List (List Int)) (stop : Int) (w : World)
    (hops : OpsAt w w.heap.size A ops) (hm : ops.length = m) (_ : -9223372036854775808 ≤ n) (_ : n ≤ 9223372036854775807) (hK : KeepL w w.heap.size KA keep) (hkn : keep.length = kn) (_ : -9223372036854775808 ≤ stop) (_ : stop ≤ 9223372036854775807) :
    Calls Try.prog 4 #[.slice A m c, .int .i64 n, .int .u8 (bw.toNat : Int), .slice KA kn kc, .int .i64 stop] w fun e w' => e = .returned (.bool true) ∧ Below w.heap.size w w' := by
  have hnew := lw_new w 3 8 (by omega) (by omega) (by omega) (by omega)
  rw [show ((3 : Nat) : Int) = 3 from rfl, show ((8 : Nat) : Int) = 8 from rfl] at hnew
  replace hops := Lib.hid hops
  replace hm := Lib.hid hm
  replace hK := Lib.hid hK
  replace hkn := Lib.hid hkn
  go_enter Try.func4, Try.ntmps4
  go_wp2_with fail
  refine hnew.mono ?_
  rintro e w1 ⟨g, rfl, hS1, hB1⟩
  clear hnew
  go_wp2_with fail
  refine (lives05 w1).mono ?_
  rintro e w2 ⟨rfl, hb2⟩
  have hS2 := hS1.below hb2
  have hB2 := hB1.trans (hb2.mono hB1.size)
  clear hS1 hB1 hb2
  by_cases hn : 0 ≤ n ∧ n < 8
  · obtain ⟨hn0, hn8⟩ := hn
    obtain ⟨nk, rfl⟩ := Int.eq_ofNat_of_zero_le hn0
    have hnk : nk < 8 := by omega
    go_wp2_with fail
    refine (sector_any bw w2).mono ?_
    rintro e w3 ⟨A3, c3, rfl, ho3, hb3⟩
    have hw := lw_write hS2 hb3 2 nk A3 128 c3 (secOf bw) _ ho3 (secOf_len bw) ((room_fresh 3 8).mono (by omega) _)
    rw [ss_write hnk] at hw
    clear ho3 hb3
    go_wp2_with fail
    refine hw.mono ?_
    rintro e w4 ⟨rfl, hS4, hB4⟩
    replace hS4 : Sh w.heap.size g w4 (ss1 nk bw) := hS4
    replace hB2 := hB2.trans hB4
    clear hS2 hw hB4
    have hf := lw_flush hS4 2
    rw [ss_flush hnk] at hf
    go_wp2_with fail
    refine hf.mono ?_
    rintro e w5 ⟨rfl, hS5, hB5⟩
    replace hS5 : Sh w.heap.size g w5 (ss2 nk bw) := hS5
    replace hB2 := hB2.trans hB5
    clear hS4 hf hB5
    go_wp2_with fail
    refine (lw_stop hS5 stop).mono ?_
    rintro e w6 ⟨rfl, hS6, hB6⟩
    have hBB := hB2.trans hB6
    have hI0 := Lib.hid ((ss_start hnk bw).stop stop)
    have hR0 := Lib.hid (ss_room nk bw stop)
    clear hS5 hB6 hB2
    generalize (ss2 nk bw).stop stop = s0 at *
    go_wp2_with fail
    go_loopw [13] (fun p wr => ∃ (k : Nat) (s : ShM), p = .int .i64 k ∧ k ≤ m ∧ k ≤ 2000 ∧ Hid (SureInv nk bw s) ∧ Hid (Room (k + 1) s) ∧ Sh w.heap.size g wr s ∧ Below w.heap.size w wr)
      (fun p _ => (m - intOf p).toNat)
    case atStart => exact ⟨0, s0, by go_num, by omega, by omega, hI0, hR0, hS6, hBB⟩
    case round =>
      obtain ⟨k, s, rfl, hkm, hk2, hI, hR, hS, hB⟩ := hrel
      by_cases hlt : k < m ∧ k < 2000
      · obtain ⟨hlt1, hlt2⟩ := hlt
        have hkl : k < ops.length := by rw [hm.out]; exact hlt1
        have hget := hops.out.below hB (Nat.le_refl _)
        obtain ⟨b0, o0, rfl, hbl, c0, c1, c2, c3', c4, c5, cK⟩ := hget.get hkl
        have hblt := World.block_lt_of_cell? wr _ c0
        generalize ops[k] = op at *
        have hcs : Hid (∀ W, Below w.heap.size wr W → W.cell? ⟨b0, o0 + k * 6 + 1, none⟩ = some (.int .i64 op.d) ∧ W.cell? ⟨b0, o0 + k * 6 + 2, none⟩ = some (.int .i64 op.n) ∧ W.cell? ⟨b0, o0 + k * 6 + 4, none⟩ = some (.int .u8 (op.with_.toNat : Int))) := Lib.hid fun W hW => ⟨(hW.cell (p := ⟨b0, o0 + k * 6 + 1, none⟩) hbl).trans c1, (hW.cell (p := ⟨b0, o0 + k * 6 + 2, none⟩) hbl).trans c2, (hW.cell (p := ⟨b0, o0 + k * 6 + 4, none⟩) hbl).trans c4⟩
        clear hget c3'
        replace cK := Lib.hid cK
        have hrm : ∀ e, (s.disk e).waits.length ≤ 1000000000000 := fun e => (hR.out.mono (by omega : k + 1 ≤ 1000000000000)) e
        generalize op.keep = okeep at *
        generalize op.ka = oka at *
        generalize op.kc = okc at *
        generalize op.kind = kind at *
        generalize op.with_ = bx at *
        generalize op.d = dd at *
        generalize op.n = nn at *
        clear op
        by_cases hk : kind = 2
        · subst hk
          by_cases hd : dd = 2
          · subst hd
            by_cases hn : nn = (nk : Int)
            · subst hn
              go_wp2
              go_roundw
              case rel => exact ⟨k + 1, _, by go_num, by omega, by omega, Lib.hid (hI.out), Lib.hid (hR.out.mono (by omega)), hS, hB⟩
              case measure => simp [intOf]; omega
            · have hn' : (nn == (nk : Int)) = false := beq_eq_false_iff_ne.2 hn
              go_wp2_with fail
              go_region_held3 (fun w' => w'.cell? ⟨b0, o0 + k * 6 + 1, none⟩ = some (.int .i64 2) ∧ w'.cell? ⟨b0, o0 + k * 6 + 2, none⟩ = some (.int .i64 nn) ∧ w'.cell? ⟨b0, o0 + k * 6 + 4, none⟩ = some (.int .u8 (bx.toNat : Int)))
                (first | assumption | exact hcs.out _ (Below.refl _ _).drew | exact hcs.out _ (Below.refl _ _) | exact hcs.out _ (by assumption))
                (first
                  | (go_at_call 13; with_reducible refine (sector_any bx _).mono ?_; rintro e wx ⟨A9, c9, rfl, ho9, hb9⟩; have hB9 : Below w.heap.size wr wx := (Below.refl _ _).drew.trans (hb9.mono hS.drew.size))
                  | (go_at_call 12; with_reducible refine (lw_write hS.drew hb9 2 nn A9 128 c9 (secOf bx) _ ho9 (secOf_len bx) (hrm _)).mono ?_; rintro e wy ⟨rfl, hS10, hB10'⟩; have hB10 : Below w.heap.size wr wy := (Below.refl _ _).drew.trans hB10'))
              go_wp2
              go_roundw
              case rel => exact ⟨k + 1, _, by go_num, by omega, by omega, Lib.hid (hI.out.write 2 nn (secOf bx) (fun e => hn e.2)), Lib.hid (room_write hR.out 2 nn (secOf bx)), hS10, hB.trans hB10⟩
              case measure => simp [intOf]; omega
          · have hd' : (dd == 2) = false := beq_eq_false_iff_ne.2 hd
            go_wp2_with fail
            go_region_held3 (fun w' => w'.cell? ⟨b0, o0 + k * 6 + 1, none⟩ = some (.int .i64 dd) ∧ w'.cell? ⟨b0, o0 + k * 6 + 2, none⟩ = some (.int .i64 nn) ∧ w'.cell? ⟨b0, o0 + k * 6 + 4, none⟩ = some (.int .u8 (bx.toNat : Int)))
              (first | assumption | exact hcs.out _ (Below.refl _ _).drew | exact hcs.out _ (Below.refl _ _) | exact hcs.out _ (by assumption))
              (first
                | (go_at_call 13; with_reducible refine (sector_any bx _).mono ?_; rintro e wx ⟨A9, c9, rfl, ho9, hb9⟩; have hB9 : Below w.heap.size wr wx := (Below.refl _ _).drew.trans (hb9.mono hS.drew.size))
                | (go_at_call 12; with_reducible refine (lw_write hS.drew hb9 dd nn A9 128 c9 (secOf bx) _ ho9 (secOf_len bx) (hrm _)).mono ?_; rintro e wy ⟨rfl, hS10, hB10'⟩; have hB10 : Below w.heap.size wr wy := (Below.refl _ _).drew.trans hB10'))
            go_wp2
            go_roundw
            case rel => exact ⟨k + 1, _, by go_num, by omega, by omega, Lib.hid (hI.out.write dd nn (secOf bx) (fun e => hd e.1)), Lib.hid (room_write hR.out dd nn (secOf bx)), hS10, hB.trans hB10⟩
            case measure => simp [intOf]; omega
        · have hk' : (kind == 2) = false := beq_eq_false_iff_ne.2 hk
          by_cases hk3 : kind = 3
          · subst hk3
            go_wp2_with fail
            refine (lw_flush hS dd).mono ?_
            rintro e w9 ⟨rfl, hS9, hB9⟩
            go_wp2
            go_roundw
            case rel => exact ⟨k + 1, _, by go_num, by omega, by omega, Lib.hid (hI.out.flush dd), Lib.hid ((room_flush hR.out dd).mono (by omega)), hS9, hB.trans hB9⟩
            case measure => simp [intOf]; omega
          · have hk3' : (kind == 3) = false := beq_eq_false_iff_ne.2 hk3
            by_cases hk7 : kind = 7
            · subst hk7
              go_wp2_with fail
              refine (lw_crash hS oka okeep.length okc okeep cK.out rfl).mono ?_
              rintro e w9 ⟨rfl, hS9, hB9⟩
              go_wp2
              go_roundw
              case rel => exact ⟨k + 1, _, by go_num, by omega, by omega, Lib.hid (hI.out.crash okeep), Lib.hid (room_crash s okeep _), hS9, hB.trans hB9⟩
              case measure => simp [intOf]; omega
            · have hk7' : (kind == 7) = false := beq_eq_false_iff_ne.2 hk7
              go_wp2
              go_roundw
              case rel => exact ⟨k + 1, _, by go_num, by omega, by omega, Lib.hid (hI.out), Lib.hid (hR.out.mono (by omega)), hS, hB⟩
              case measure => simp [intOf]; omega
      · have hx : (m : Int) ≤ (k : Int) ∨ ((k : Int) < (m : Int) ∧ 2000 ≤ (k : Int)) := by omega
        clear hlt
        have hKc := hK.out.below hB (Nat.le_refl _)
        have hct := lw_crash hS KA kn kc keep hKc hkn.out
        have hrd := sure_read hI.out hnk keep
        have hrm := room_crash s keep 0
        replace hrd := Lib.hid hrd
        replace hKc := Lib.hid hKc
        rcases hx with hx | ⟨hx, hx'⟩
        · go_wp2_with fail
          refine hct.mono ?_
          rintro e w4 ⟨rfl, hS4, hB4⟩
          replace hB := hB.trans hB4
          have hr := lw_read hS4 2 nk (hrm.mono (by omega) _)
          rw [hrd.out] at hr
          go_wp2_with fail
          refine hr.mono ?_
          rintro e w8 ⟨v8, rfl, hf8, hS8, hB8⟩
          obtain ⟨A8, c8, rfl, hr8, ho8⟩ := hf8.form (by rw [secOf_len]; omega)
          rw [secOf_len]
          have hBf := hB.trans hB8
          have hsz8 := hS8.size
          have hcv : Hid (∀ W, Below w8.heap.size w8 W → (convert 29 9 (.slice A8 128 c8)).run Try.prog W = .ok (.string ⟨(secOf bw).toArray⟩) W) := Lib.hid fun W hW => run_string_rd (P := Try.prog) W 29 9 5 Try.underlying29 Try.underlying5 Try.underlying9 A8 128 c8 (secOf bw) (hr8.below hW) (secOf_len bw)
          have hxx : (secOf bw == secOf bw) = true := by simp
          have hsl := Lib.hid (secOf_len bw)
          have hsec : Hid (∀ W, _) := Lib.hid fun W => sector_any bw W
          generalize secOf bw = sb at *
          clear hr hf8 hr8 ho8 hct
          dsimp only
          go_wp2_with fail
          refine wp_region_held_drew (S := (fun w' => (convert 29 9 (.slice A8 128 c8)).run Try.prog w' = .ok (.string ⟨sb.toArray⟩) w')) (by kernel_rfl) ?_ (fun hHeld => ?_)
          · (try dsimp only)
            (first | assumption | exact hcv.out _ (Below.refl _ _).drew | exact hcv.out _ (Below.refl _ _) | exact hcv.out _ (by assumption))
          refine wpAnyH_take (i := 0) (oi := ⟨_, _, _, _, _, _⟩) (v := ?v1) rfl (by kernel_rfl) (by kernel_rfl) (by kernel_rfl) (fun _ _ _ h => h) (Or.inl ⟨by rfl, ?hy1⟩) (by assumption) ?rest1
          case hy1 => (intro w hSw; (try dsimp only at hSw); go_simp; try with_reducible rfl)
          (try simp only [Act.put, List.setIfInBounds_toArray, List.set_cons_zero, List.set_cons_succ])
          refine wpAnyH_take (i := 1) (oi := ⟨_, _, _, _, _, _⟩) (v := ?v2) rfl (by kernel_rfl) (by kernel_rfl) (by kernel_rfl) (fun _ _ _ h => h) (Or.inl ⟨by rfl, ?hy2⟩) (by assumption) ?rest2
          case hy2 => (intro w hSw; (try dsimp only at hSw); go_simp; try with_reducible rfl)
          (try simp only [Act.put, List.setIfInBounds_toArray, List.set_cons_zero, List.set_cons_succ])
          refine wpAnyH_take (i := 2) (oi := ⟨_, _, _, _, _, _⟩) (v := ?v3) rfl (by kernel_rfl) (by kernel_rfl) (by kernel_rfl) (fun _ _ _ h => h) (Or.inl ⟨by rfl, ?hy3⟩) (by assumption) ?rest3
          case hy3 => (intro w hSw; (try dsimp only at hSw); go_simp; try with_reducible rfl)
          (try simp only [Act.put, List.setIfInBounds_toArray, List.set_cons_zero, List.set_cons_succ])
          refine wpAnyH_take (i := 3) (oi := ⟨_, _, _, _, _, _⟩) (v := ?v4) rfl (by kernel_rfl) (by kernel_rfl) (by kernel_rfl) (fun _ _ _ h => h) (Or.inl ⟨by rfl, ?hy4⟩) (by assumption) ?rest4
          case hy4 => (intro w hSw; (try dsimp only at hSw); go_simp; try with_reducible rfl)
          (try simp only [Act.put, List.setIfInBounds_toArray, List.set_cons_zero, List.set_cons_succ])
          refine wpAnyH_take (i := 4) (oi := ⟨_, _, _, _, _, _⟩) (v := ?v5) rfl (by kernel_rfl) (by kernel_rfl) (by kernel_rfl) (fun _ _ _ h => h) (Or.inl ⟨by rfl, ?hy5⟩) (by assumption) ?rest5
          case hy5 => (intro w hSw; (try dsimp only at hSw); go_simp; try with_reducible rfl)
          (try simp only [Act.put, List.setIfInBounds_toArray, List.set_cons_zero, List.set_cons_succ])
          refine wpAnyH_take (i := 5) (oi := ⟨_, _, _, _, _, _⟩) (v := ?v6) rfl (by kernel_rfl) (by kernel_rfl) (by kernel_rfl) (fun _ _ _ h => h) (Or.inl ⟨by rfl, ?hy6⟩) (by assumption) ?rest6
          case hy6 => (intro w hSw; (try dsimp only at hSw); go_simp; try with_reducible rfl)
          (try simp only [Act.put, List.setIfInBounds_toArray, List.set_cons_zero, List.set_cons_succ])
          refine wpAnyH_ready (rs := [6]) (by kernel_rfl) (by simp) ?_
          refine AllReadyH.cons (o := ⟨_, _, _, _, _, _⟩) rfl (fun K hK => ?_) AllReadyH.nil
          go_simp
          refine (hsec.out _).mono ?_
          rintro e wx ⟨A9, c9, rfl, ho9, hb9⟩
          have hB9 : Below w8.heap.size w8 wx := (Below.refl _ _).drew.trans (hb9.mono (Nat.le_refl _))
          have hcv9 := run_string_rd (P := Try.prog) wx 29 9 5 Try.underlying29 Try.underlying5 Try.underlying9 A9 128 c9 sb ho9.rd hsl.out
          (try go_wp2_with fail)
          refine hK.out _ _ ?_ (fun hHeld2 => ?_)
          · (try dsimp only)
            (first | assumption | exact hcv.out _ (Below.refl _ _).drew | exact hcv.out _ (Below.refl _ _) | exact hcv.out _ (by assumption))
          clear hK K
          replace hHeld := hHeld2
          clear hHeld2
          (try simp only [Act.put, List.setIfInBounds_toArray, List.set_cons_zero, List.set_cons_succ])
          refine wpAnyH_ready (rs := [7]) (by kernel_rfl) (by simp) ?_
          refine AllReadyH.cons (o := ⟨_, _, _, _, _, _⟩) rfl (fun K hK => ?_) AllReadyH.nil
          go_simp
          refine hK.out _ _ ?_ (fun hHeld2 => ?_)
          · (try dsimp only)
            (first | assumption | exact hcv.out _ (Below.refl _ _).drew | exact hcv.out _ (Below.refl _ _) | exact hcv.out _ (by assumption))
          clear hK K
          replace hHeld := hHeld2
          clear hHeld2
          (try simp only [Act.put, List.setIfInBounds_toArray, List.set_cons_zero, List.set_cons_succ])
          refine wpAnyH_take (i := 8) (oi := ⟨_, _, _, _, _, _⟩) (v := ?v7) rfl (by kernel_rfl) (by kernel_rfl) (by kernel_rfl) (fun _ _ _ h => h) (Or.inl ⟨by rfl, ?hy7⟩) (by assumption) ?rest7
          case hy7 => (intro w hSw; (try dsimp only at hSw); go_simp; try with_reducible rfl)
          (try simp only [Act.put, List.setIfInBounds_toArray, List.set_cons_zero, List.set_cons_succ])
          refine wpAnyH_take (i := 9) (oi := ⟨_, _, _, _, _, _⟩) (v := ?v8) rfl (by kernel_rfl) (by kernel_rfl) (by kernel_rfl) (fun _ _ _ h => h) (Or.inl ⟨by rfl, ?hy8⟩) (by assumption) ?rest8
          case hy8 => (intro w hSw; (try dsimp only at hSw); go_simp; try with_reducible rfl)
          (try simp only [Act.put, List.setIfInBounds_toArray, List.set_cons_zero, List.set_cons_succ])
          refine wpAnyH_take (i := 10) (oi := ⟨_, _, _, _, _, _⟩) (v := ?v9) rfl (by kernel_rfl) (by kernel_rfl) (by kernel_rfl) (fun _ _ _ h => h) (Or.inl ⟨by rfl, ?hy9⟩) (by assumption) ?rest9
          case hy9 => (intro w hSw; (try dsimp only at hSw); go_simp; try with_reducible rfl)
          (try simp only [Act.put, List.setIfInBounds_toArray, List.set_cons_zero, List.set_cons_succ])
          refine wpAnyH_done (by kernel_rfl) ?_ _
          go_wp2
          go_ret
          exact ⟨by simp, hBf.trans (hB9.mono hsz8)⟩
        · go_wp2_with fail
          refine hct.mono ?_
          rintro e w4 ⟨rfl, hS4, hB4⟩
          replace hB := hB.trans hB4
          have hr := lw_read hS4 2 nk (hrm.mono (by omega) _)
          rw [hrd.out] at hr
          go_wp2_with fail
          refine hr.mono ?_
          rintro e w8 ⟨v8, rfl, hf8, hS8, hB8⟩
          obtain ⟨A8, c8, rfl, hr8, ho8⟩ := hf8.form (by rw [secOf_len]; omega)
          rw [secOf_len]
          have hBf := hB.trans hB8
          have hsz8 := hS8.size
          have hcv : Hid (∀ W, Below w8.heap.size w8 W → (convert 29 9 (.slice A8 128 c8)).run Try.prog W = .ok (.string ⟨(secOf bw).toArray⟩) W) := Lib.hid fun W hW => run_string_rd (P := Try.prog) W 29 9 5 Try.underlying29 Try.underlying5 Try.underlying9 A8 128 c8 (secOf bw) (hr8.below hW) (secOf_len bw)
          have hxx : (secOf bw == secOf bw) = true := by simp
          have hsl := Lib.hid (secOf_len bw)
          have hsec : Hid (∀ W, _) := Lib.hid fun W => sector_any bw W
          generalize secOf bw = sb at *
          clear hr hf8 hr8 ho8 hct
          dsimp only
          go_wp2_with fail
          refine wp_region_held_drew (S := (fun w' => (convert 29 9 (.slice A8 128 c8)).run Try.prog w' = .ok (.string ⟨sb.toArray⟩) w')) (by kernel_rfl) ?_ (fun hHeld => ?_)
          · (try dsimp only)
            (first | assumption | exact hcv.out _ (Below.refl _ _).drew | exact hcv.out _ (Below.refl _ _) | exact hcv.out _ (by assumption))
          refine wpAnyH_take (i := 0) (oi := ⟨_, _, _, _, _, _⟩) (v := ?v10) rfl (by kernel_rfl) (by kernel_rfl) (by kernel_rfl) (fun _ _ _ h => h) (Or.inl ⟨by rfl, ?hy10⟩) (by assumption) ?rest10
          case hy10 => (intro w hSw; (try dsimp only at hSw); go_simp; try with_reducible rfl)
          (try simp only [Act.put, List.setIfInBounds_toArray, List.set_cons_zero, List.set_cons_succ])
          refine wpAnyH_take (i := 1) (oi := ⟨_, _, _, _, _, _⟩) (v := ?v11) rfl (by kernel_rfl) (by kernel_rfl) (by kernel_rfl) (fun _ _ _ h => h) (Or.inl ⟨by rfl, ?hy11⟩) (by assumption) ?rest11
          case hy11 => (intro w hSw; (try dsimp only at hSw); go_simp; try with_reducible rfl)
          (try simp only [Act.put, List.setIfInBounds_toArray, List.set_cons_zero, List.set_cons_succ])
          refine wpAnyH_take (i := 2) (oi := ⟨_, _, _, _, _, _⟩) (v := ?v12) rfl (by kernel_rfl) (by kernel_rfl) (by kernel_rfl) (fun _ _ _ h => h) (Or.inl ⟨by rfl, ?hy12⟩) (by assumption) ?rest12
          case hy12 => (intro w hSw; (try dsimp only at hSw); go_simp; try with_reducible rfl)
          (try simp only [Act.put, List.setIfInBounds_toArray, List.set_cons_zero, List.set_cons_succ])
          refine wpAnyH_take (i := 3) (oi := ⟨_, _, _, _, _, _⟩) (v := ?v13) rfl (by kernel_rfl) (by kernel_rfl) (by kernel_rfl) (fun _ _ _ h => h) (Or.inl ⟨by rfl, ?hy13⟩) (by assumption) ?rest13
          case hy13 => (intro w hSw; (try dsimp only at hSw); go_simp; try with_reducible rfl)
          (try simp only [Act.put, List.setIfInBounds_toArray, List.set_cons_zero, List.set_cons_succ])
          refine wpAnyH_take (i := 4) (oi := ⟨_, _, _, _, _, _⟩) (v := ?v14) rfl (by kernel_rfl) (by kernel_rfl) (by kernel_rfl) (fun _ _ _ h => h) (Or.inl ⟨by rfl, ?hy14⟩) (by assumption) ?rest14
          case hy14 => (intro w hSw; (try dsimp only at hSw); go_simp; try with_reducible rfl)
          (try simp only [Act.put, List.setIfInBounds_toArray, List.set_cons_zero, List.set_cons_succ])
          refine wpAnyH_take (i := 5) (oi := ⟨_, _, _, _, _, _⟩) (v := ?v15) rfl (by kernel_rfl) (by kernel_rfl) (by kernel_rfl) (fun _ _ _ h => h) (Or.inl ⟨by rfl, ?hy15⟩) (by assumption) ?rest15
          case hy15 => (intro w hSw; (try dsimp only at hSw); go_simp; try with_reducible rfl)
          (try simp only [Act.put, List.setIfInBounds_toArray, List.set_cons_zero, List.set_cons_succ])
          refine wpAnyH_ready (rs := [6]) (by kernel_rfl) (by simp) ?_
          refine AllReadyH.cons (o := ⟨_, _, _, _, _, _⟩) rfl (fun K hK => ?_) AllReadyH.nil
          go_simp
          refine (hsec.out _).mono ?_
          rintro e wx ⟨A9, c9, rfl, ho9, hb9⟩
          have hB9 : Below w8.heap.size w8 wx := (Below.refl _ _).drew.trans (hb9.mono (Nat.le_refl _))
          have hcv9 := run_string_rd (P := Try.prog) wx 29 9 5 Try.underlying29 Try.underlying5 Try.underlying9 A9 128 c9 sb ho9.rd hsl.out
          (try go_wp2_with fail)
          refine hK.out _ _ ?_ (fun hHeld2 => ?_)
          · (try dsimp only)
            (first | assumption | exact hcv.out _ (Below.refl _ _).drew | exact hcv.out _ (Below.refl _ _) | exact hcv.out _ (by assumption))
          clear hK K
          replace hHeld := hHeld2
          clear hHeld2
          (try simp only [Act.put, List.setIfInBounds_toArray, List.set_cons_zero, List.set_cons_succ])
          refine wpAnyH_ready (rs := [7]) (by kernel_rfl) (by simp) ?_
          refine AllReadyH.cons (o := ⟨_, _, _, _, _, _⟩) rfl (fun K hK => ?_) AllReadyH.nil
          go_simp
          refine hK.out _ _ ?_ (fun hHeld2 => ?_)
          · (try dsimp only)
            (first | assumption | exact hcv.out _ (Below.refl _ _).drew | exact hcv.out _ (Below.refl _ _) | exact hcv.out _ (by assumption))
          clear hK K
          replace hHeld := hHeld2
          clear hHeld2
          (try simp only [Act.put, List.setIfInBounds_toArray, List.set_cons_zero, List.set_cons_succ])
          refine wpAnyH_take (i := 8) (oi := ⟨_, _, _, _, _, _⟩) (v := ?v16) rfl (by kernel_rfl) (by kernel_rfl) (by kernel_rfl) (fun _ _ _ h => h) (Or.inl ⟨by rfl, ?hy16⟩) (by assumption) ?rest16
          case hy16 => (intro w hSw; (try dsimp only at hSw); go_simp; try with_reducible rfl)
          (try simp only [Act.put, List.setIfInBounds_toArray, List.set_cons_zero, List.set_cons_succ])
          refine wpAnyH_take (i := 9) (oi := ⟨_, _, _, _, _, _⟩) (v := ?v17) rfl (by kernel_rfl) (by kernel_rfl) (by kernel_rfl) (fun _ _ _ h => h) (Or.inl ⟨by rfl, ?hy17⟩) (by assumption) ?rest17
          case hy17 => (intro w hSw; (try dsimp only at hSw); go_simp; try with_reducible rfl)
          (try simp only [Act.put, List.setIfInBounds_toArray, List.set_cons_zero, List.set_cons_succ])
          refine wpAnyH_take (i := 10) (oi := ⟨_, _, _, _, _, _⟩) (v := ?v18) rfl (by kernel_rfl) (by kernel_rfl) (by kernel_rfl) (fun _ _ _ h => h) (Or.inl ⟨by rfl, ?hy18⟩) (by assumption) ?rest18
          case hy18 => (intro w hSw; (try dsimp only at hSw); go_simp; try with_reducible rfl)
          (try simp only [Act.put, List.setIfInBounds_toArray, List.set_cons_zero, List.set_cons_succ])
          refine wpAnyH_done (by kernel_rfl) ?_ _
          go_wp2
          go_ret
          exact ⟨by simp, hBf.trans (hB9.mono hsz8)⟩
  · have hx : n < 0 ∨ 8 ≤ n := by omega
    have hnn : ¬ (0 ≤ n ∧ n < 8) := hn
    clear hn
    replace hnn := Lib.hid hnn
    rcases hx with hx | hx
    · go_wp2_with fail
      refine (sector_any bw w2).mono ?_
      rintro e w3 ⟨A3, c3, rfl, ho3, hb3⟩
      have hw := lw_write hS2 hb3 2 n A3 128 c3 (secOf bw) _ ho3 (secOf_len bw) ((room_fresh 3 8).mono (by omega) _)
      rw [ss_not n hnn.out] at hw
      clear ho3 hb3
      go_wp2_with fail
      refine hw.mono ?_
      rintro e w4 ⟨rfl, hS4, hB4⟩
      have hBf := hB2.trans hB4
      clear hw
      go_wp2
      go_ret
      exact ⟨by simp, hBf⟩
    · go_wp2_with fail
      refine (sector_any bw w2).mono ?_
      rintro e w3 ⟨A3, c3, rfl, ho3, hb3⟩
      have hw := lw_write hS2 hb3 2 n A3 128 c3 (secOf bw) _ ho3 (secOf_len bw) ((room_fresh 3 8).mono (by omega) _)
      rw [ss_not n hnn.out] at hw
      clear ho3 hb3
      go_wp2_with fail
      refine hw.mono ?_
      rintro e w4 ⟨rfl, hS4, hB4⟩
      have hBf := hB2.trans hB4
      clear hw
      go_wp2
      go_ret
      exact ⟨by simp, hBf⟩
end Go.Proofs.Ytffdpipmfdkaoaa

/-
  THE WALK of SumsMend.
-/
import Derived.Test.YtikfbhepnnbdoaaSuK
import Derived.Test.YtikfbhepnnbdoaaSuJ
namespace Go.Proofs.Ytikfbhepnnbdoaa
set_option linter.all false
open Go.RowKit

set_option maxRecDepth 100000 in
set_option maxHeartbeats 8000000 in
theorem sumsMend_walk (block at_ : Int) (wi av : UInt8) (KA : Option Addr) (kn kc : Nat) (keep : List (List Int)) (w : World) (_h1 : -9223372036854775808 ≤ block) (_h2 : block ≤ 9223372036854775807) (_h3 : -9223372036854775808 ≤ at_) (_h4 : at_ ≤ 9223372036854775807)
    (hK : KeepL w w.heap.size KA keep) (hkn : keep.length = kn) :
    Calls Try.prog 10 #[.int .i64 block, .int .i64 at_, .int .u8 (wi.toNat : Int), .int .u8 (av.toNat : Int), .slice KA kn kc] w fun e w' => e = .returned (.bool true) ∧ Below w.heap.size w w' := by
  have hnew := lx_new (X := fun b => b < w.heap.size) (w := w) (fun _ h => h) 1 40 (by omega) (by omega) (by omega) (by omega)
  rw [show ((1 : Nat) : Int) = 1 from rfl, show ((40 : Nat) : Int) = 40 from rfl] at hnew
  replace hK := Lib.hid hK
  replace hkn := Lib.hid hkn
  have hrf := run_fresh 1 40 0 (by omega) (by omega) (by omega) (by omega) (by omega)
  have hrm : Room 100 (freshSh 1 40) := (room_fresh 1 40).mono (by omega)
  have hse : (freshSh 1 40).sectors = 40 := rfl
  have hfd : freshDev (freshSh 1 40) 0 = ⟨0, 37, -1⟩ := rfl
  generalize freshSh 1 40 = s0 at *
  go_enter Try.func10, Try.ntmps10
  go_wp2_with fail
  refine hnew.mono ?_
  rintro e w1 ⟨g, rfl, hS1, hB1⟩
  clear hnew
  have hct := ls_open hS1 0 hrf hrm
  rw [show ((0 : Nat) : Int) = 0 from rfl, hfd] at hct
  clear hrf hrm hfd
  go_wp2_with fail
  with_reducible refine hct.mono ?_
  rintro e w2 ⟨a, rfl, _, h2, hb2⟩
  have hB2 := below_to hB1 hb2
  clear hct hS1 hB1 hb2
  go_wp2_with fail
  refine (lives06 w2).mono ?_
  rintro e w3 ⟨rfl, hb3⟩
  have h3 := h2.below hb3
  have hB3 := below_to hB2 hb3
  clear h2 hB2 hb3
  have hdb := su_dblocks h3.dv
  rw [show (((⟨0, 37, -1⟩ : DevM).size : Nat) : Int) = 37 from rfl] at hdb
  by_cases hb0 : block < 0
  · go_wp2
    go_ret
    exact ⟨rfl, hB3⟩
  by_cases hb1 : 37 ≤ block
  · have hb0' : 0 ≤ block := by omega
    go_wp2_with fail
    with_reducible refine hdb.mono ?_
    rintro e w' ⟨rfl, rfl⟩
    go_wp2
    go_ret
    exact ⟨rfl, hB3⟩
  obtain ⟨n, rfl⟩ := Int.eq_ofNat_of_zero_le (by omega : 0 ≤ block)
  have hn : n < 37 := by omega
  clear hb0 hb1
  by_cases ha0 : at_ < 0
  · go_wp2_with fail
    with_reducible refine hdb.mono ?_
    rintro e w' ⟨rfl, rfl⟩
    go_wp2
    go_ret
    exact ⟨rfl, hB3⟩
  by_cases ha1 : 127 < at_
  · have ha0' : 0 ≤ at_ := by omega
    go_wp2_with fail
    with_reducible refine hdb.mono ?_
    rintro e w' ⟨rfl, rfl⟩
    go_wp2
    go_ret
    exact ⟨rfl, hB3⟩
  obtain ⟨k, rfl⟩ := Int.eq_ofNat_of_zero_le (by omega : 0 ≤ at_)
  have hk : k < 128 := by omega
  clear ha0 ha1
  have hpl : Hid (∀ W, _) := Lib.hid fun W => su_place n W (by omega)
  have hpq := h3.run.place (n := n) hn
  rw [hse] at hpq
  go_wp2_with fail
  with_reducible refine hdb.mono ?_
  rintro e w' ⟨rfl, rfl⟩
  clear hdb
  go_wp2_with fail
  refine (hpl.out w3).mono ?_
  rintro e w' ⟨rfl, rfl⟩
  clear hpl
  go_wp2_with fail
  refine (sector_any 3 w3).mono ?_
  rintro e w4 ⟨A4, c4, rfl, ho4, hb4⟩
  have hct := ls_write h3 hb4 n hn A4 c4 _ (secOf 3) ho4 (secOf_len 3)
  go_wp2_with fail
  with_reducible refine hct.mono ?_
  rintro e w5 ⟨rfl, s5, D5, hw5, h5, hK5⟩
  have hB5 := hB3.trans (hK5.below fun b hb => hb)
  have hd5 : D5.disk = 0 := hw5.disk
  have hz5 : D5.size = 37 := hw5.size
  have hc5 : s5.sectors = 40 := hw5.sec.trans hse
  have hct2 := ls_flush h5
  clear hct ho4 hb4 h3 hB3 hK5 hw5 hse
  go_wp2_with fail
  with_reducible refine hct2.mono ?_
  rintro e w6 ⟨rfl, s6, hf6, h6, hK6⟩
  have hB6 := hB5.trans (hK6.below fun b hb => hb)
  have hc6 : s6.sectors = 40 := hf6.sec.trans hc5
  generalize hD6 : ({ D5 with opn := -1 } : DevM) = D6 at *
  have hd6 : D6.disk = 0 := by rw [← hD6]; exact hd5
  have hz6 : D6.size = 37 := by rw [← hD6]; exact hz5
  have hct3 := ls_corrupt h6 (by rw [hd6, ← hd5]; exact hf6.waits) (dataAt n) k (by rw [hc6]; exact hpq.2) hk wi
  rw [hd6, show ((0 : Nat) : Int) = 0 from rfl] at hct3
  clear hct2 hK6 hf6 h5 hB5 hD6 hd5 hz5 hc5
  go_wp2_with fail
  with_reducible refine hct3.mono ?_
  rintro e w7 ⟨rfl, s7, ht7, h7, hK7⟩
  have hB7 := hB6.trans (hK7.below fun b hb => hb)
  have hc7 : s7.sectors = 40 := ht7.sec.trans hc6
  clear hct3 hK7 ht7 h6 hB6
  go_wp2_with fail
  refine (sector_any av w7).mono ?_
  rintro e w8 ⟨A8, c8, rfl, ho8, hb8⟩
  have hct := ls_write h7 hb8 n (by rw [hz6]; exact hn) A8 c8 _ (secOf av) ho8 (secOf_len av)
  have hlS := h7.run.run.len (n := sumAt n) (by rw [hc7]; exact hpq.1)
  rw [hd6] at hlS
  go_wp2_with fail
  with_reducible refine hct.mono ?_
  rintro e w9 ⟨rfl, s9, D9, hw9, h9, hK9⟩
  have hB9 := hB7.trans (hK9.below fun b hb => hb)
  obtain ⟨p, hp1, hp2, hp3⟩ := hw9.sums
  have hdat := hw9.data
  have hd9 : D9.disk = 0 := hw9.disk.trans hd6
  have hc9 : s9.sectors = 40 := hw9.sec.trans hc7
  rw [hd6] at hp1 hp3 hdat
  have hct2 := ls_flush h9
  clear hct ho8 hb8 h7 hB7 hK9 hw9
  go_wp2_with fail
  with_reducible refine hct2.mono ?_
  rintro e w10 ⟨rfl, s10, hf10, h10, hK10⟩
  have hB10 := hB9.trans (hK10.below fun b hb => hb)
  have hf10r := hf10.rd
  have hf10w := hf10.waits
  have hc10 : s10.sectors = 40 := hf10.sec.trans hc9
  rw [hd9, hc9] at hf10r
  rw [hd9] at hf10w
  have hct3 := ls_crash h10 (by show (s10.disk D9.disk).waits = []; rw [hd9]; exact hf10w) KA kn kc keep (hK.out.below hB10 (Nat.le_refl _)) (fun b hb => hb) hkn.out
  clear hct2 hK10 hf10 h9 hB9
  go_wp2_with fail
  with_reducible refine hct3.mono ?_
  rintro e w11 ⟨rfl, s11, hr11, hw11, hc11, hl11, h11, hK11⟩
  have hB11 := hB10.trans (hK11.below fun b hb => hb)
  have hr11' : ∀ m, rdS s11 0 m = rdS s10 0 m := fun m => by have := hr11 m; rw [show ({ D9 with opn := -1 } : DevM).disk = 0 from hd9] at this; exact this
  have hrun : Run s11 0 := by have := h11.run.run; rw [show ({ D9 with opn := -1 } : DevM).disk = 0 from hd9] at this; exact this
  have hfd : freshDev s11 0 = ⟨0, 37, -1⟩ := by unfold freshDev; rw [hc11, hc10]; rfl
  have hct4 := ls_open h11.dv.shelf 0 hrun h11.room
  rw [show ((0 : Nat) : Int) = 0 from rfl, hfd] at hct4
  clear hct3 hK11 hr11 h10 hB10
  go_wp2_with fail
  with_reducible refine hct4.mono ?_
  rintro e w12 ⟨a2, rfl, _, h12, hb12⟩
  have hB12 := below_to hB11 hb12
  have hgood : fitsP 0 (standP (rdS s11 0 (sumAt n)) n) n (rdS s11 0 (dataAt n)) = true := by
    rw [hr11', hr11', hf10r _ hpq.1, hf10r _ hpq.2, hdat]
    exact good_read (D := ⟨0, 37, -1⟩) (T := rdS s7 0 (sumAt n)) hp3 hlS hp2 hp1
  have hdt : rdS s11 0 (dataAt n) = secOf av := by rw [hr11', hf10r _ hpq.2, hdat]
  have hct5 := ls_read h12 n hn
  dsimp only at hct5
  rw [hgood, hdt] at hct5
  simp only [if_true] at hct5
  clear hct4 hb12 h11 hB11 hf10r hf10w hp3 hdat hr11'
  go_wp2_with fail
  with_reducible refine hct5.mono ?_
  rintro e w13 ⟨v, rfl, hf13, h13, hK13⟩
  obtain ⟨A13, c13, rfl, hr13, _, _⟩ := hf13.form2 (by rw [secOf_len]; omega)
  have hB13 := hB12.trans (hK13.below fun b hb => hb)
  rw [secOf_len]
  clear hct5 hf13 h13 hK13 h12 hB12
  have hxx : (secOf av == secOf av) = true := by simp
  have hl7 := Lib.hid (secOf_len av)
  have hsx : Hid (∀ W, Calls Try.prog 22 #[.int .u8 (av.toNat : Int)] W fun e w' => ∃ A c, e = .returned (.slice A 128 c) ∧ Own w' 5 W.heap.size (.slice A 128 c) (secOf av) ∧ Below W.heap.size W w') := Lib.hid fun W => sector_any av W
  generalize secOf av = sa at *
  have hcs : Hid (∀ W, Below w13.heap.size w13 W → (convert 28 9 (.slice A13 128 c13)).run Try.prog W = .ok (.string ⟨sa.toArray⟩) W ∧ Below w13.heap.size w13 W) := Lib.hid fun W hW =>
    ⟨run_string_rd (P := Try.prog) _ 28 9 5 Try.underlying28 Try.underlying5 Try.underlying9 _ 128 c13 sa (hr13.below hW) hl7.out, hW⟩
  replace hr13 := Lib.hid hr13
  go_wp2_with fail
  refine wp_region_held_drew (S := (fun W => (convert 28 9 (.slice A13 128 c13)).run Try.prog W = .ok (.string ⟨sa.toArray⟩) W ∧ Below w13.heap.size w13 W)) (by kernel_rfl) ?_ (fun hHeld => ?_)
  · (try dsimp only)
    exact hcs.out _ (Below.refl _ _).drew
  refine wpAnyH_take (i := 0) (oi := ⟨_, _, _, _, _, _⟩) (v := ?v1) rfl (by kernel_rfl) (by kernel_rfl) (by kernel_rfl) (fun _ _ _ h => h) (Or.inl ⟨by rfl, ?hy1⟩) (by assumption) ?rest1
  case hy1 => (intro w hSw; (try dsimp only at hSw); go_simp; try with_reducible rfl)
  (try simp only [Act.put, List.setIfInBounds_toArray, List.set_cons_zero, List.set_cons_succ])
  refine wpAnyH_take (i := 1) (oi := ⟨_, _, _, _, _, _⟩) (v := ?v2) rfl (by kernel_rfl) (by kernel_rfl) (by kernel_rfl) (fun _ _ _ h => h) (Or.inl ⟨by rfl, ?hy2⟩) (by assumption) ?rest2
  case hy2 => (intro w hSw; (try dsimp only at hSw); go_simp; try with_reducible rfl)
  (try simp only [Act.put, List.setIfInBounds_toArray, List.set_cons_zero, List.set_cons_succ])
  refine wpAnyH_take (i := 2) (oi := ⟨_, _, _, _, _, _⟩) (v := ?v3) rfl (by kernel_rfl) (by kernel_rfl) (by kernel_rfl) (fun _ _ _ h => h) (Or.inl ⟨by rfl, ?hy3⟩) (by assumption) ?rest3
  case hy3 => (intro w hSw; (try dsimp only at hSw); go_simp; try with_reducible rfl)
  (try simp only [Act.put, List.setIfInBounds_toArray, List.set_cons_zero, List.set_cons_succ])
  refine wpAnyH_take (i := 3) (oi := ⟨_, _, _, _, _, _⟩) (v := ?v4) rfl (by kernel_rfl) (by kernel_rfl) (by kernel_rfl) (fun _ _ _ h => h) (Or.inl ⟨by rfl, ?hy4⟩) (by assumption) ?rest4
  case hy4 => (intro w hSw; (try dsimp only at hSw); go_simp; try with_reducible rfl)
  (try simp only [Act.put, List.setIfInBounds_toArray, List.set_cons_zero, List.set_cons_succ])
  refine wpAnyH_take (i := 4) (oi := ⟨_, _, _, _, _, _⟩) (v := ?v5) rfl (by kernel_rfl) (by kernel_rfl) (by kernel_rfl) (fun _ _ _ h => h) (Or.inl ⟨by rfl, ?hy5⟩) (by assumption) ?rest5
  case hy5 => (intro w hSw; (try dsimp only at hSw); go_simp; try with_reducible rfl)
  (try simp only [Act.put, List.setIfInBounds_toArray, List.set_cons_zero, List.set_cons_succ])
  refine wpAnyH_take (i := 5) (oi := ⟨_, _, _, _, _, _⟩) (v := ?v6) rfl (by kernel_rfl) (by kernel_rfl) (by kernel_rfl) (fun _ _ _ h => h) (Or.inl ⟨by rfl, ?hy6⟩) (by assumption) ?rest6
  case hy6 => (intro w hSw; (try dsimp only at hSw); go_simp; try with_reducible rfl)
  (try simp only [Act.put, List.setIfInBounds_toArray, List.set_cons_zero, List.set_cons_succ])
  refine wpAnyH_ready (rs := [6]) (by kernel_rfl) (by simp) ?_
  refine AllReadyH.cons (o := ⟨_, _, _, _, _, _⟩) rfl (fun K hK => ?_) AllReadyH.nil
  go_simp
  refine (hsx.out _).mono ?_
  rintro e wx ⟨A9, c9, rfl, ho9, hb9⟩
  have hB9 := hHeld.2.trans (hb9.mono hHeld.2.size)
  have hcv9 := run_string_rd (P := Try.prog) wx 28 9 5 Try.underlying28 Try.underlying5 Try.underlying9 A9 128 c9 sa ho9.rd hl7.out
  clear ho9 hb9
  (try go_wp2_with fail)
  refine hK.out _ _ ?_ (fun hHeld2 => ?_)
  · (try dsimp only)
    (first | exact hHeld | exact hcs.out _ hB9)
  clear hK K
  replace hHeld := hHeld2
  clear hHeld2
  (try simp only [Act.put, List.setIfInBounds_toArray, List.set_cons_zero, List.set_cons_succ])
  refine wpAnyH_ready (rs := [7]) (by kernel_rfl) (by simp) ?_
  refine AllReadyH.cons (o := ⟨_, _, _, _, _, _⟩) rfl (fun K hK => ?_) AllReadyH.nil
  go_simp
  refine hK.out _ _ ?_ (fun hHeld2 => ?_)
  · (try dsimp only)
    (first | exact hHeld | exact hcs.out _ hB9)
  clear hK K
  replace hHeld := hHeld2
  clear hHeld2
  (try simp only [Act.put, List.setIfInBounds_toArray, List.set_cons_zero, List.set_cons_succ])
  refine wpAnyH_take (i := 8) (oi := ⟨_, _, _, _, _, _⟩) (v := ?v7) rfl (by kernel_rfl) (by kernel_rfl) (by kernel_rfl) (fun _ _ _ h => h) (Or.inl ⟨by rfl, ?hy7⟩) (by assumption) ?rest7
  case hy7 => (intro w hSw; (try dsimp only at hSw); go_simp; try with_reducible rfl)
  (try simp only [Act.put, List.setIfInBounds_toArray, List.set_cons_zero, List.set_cons_succ])
  refine wpAnyH_take (i := 9) (oi := ⟨_, _, _, _, _, _⟩) (v := ?v8) rfl (by kernel_rfl) (by kernel_rfl) (by kernel_rfl) (fun _ _ _ h => h) (Or.inl ⟨by rfl, ?hy8⟩) (by assumption) ?rest8
  case hy8 => (intro w hSw; (try dsimp only at hSw); go_simp; try with_reducible rfl)
  (try simp only [Act.put, List.setIfInBounds_toArray, List.set_cons_zero, List.set_cons_succ])
  refine wpAnyH_take (i := 10) (oi := ⟨_, _, _, _, _, _⟩) (v := ?v9) rfl (by kernel_rfl) (by kernel_rfl) (by kernel_rfl) (fun _ _ _ h => h) (Or.inl ⟨by rfl, ?hy9⟩) (by assumption) ?rest9
  case hy9 => (intro w hSw; (try dsimp only at hSw); go_simp; try with_reducible rfl)
  (try simp only [Act.put, List.setIfInBounds_toArray, List.set_cons_zero, List.set_cons_succ])
  refine wpAnyH_done (by kernel_rfl) ?_ _
  have hBf := hHeld.2
  clear hHeld
  go_wp2
  go_ret
  exact ⟨by simp, hB13.trans (hBf.mono hB13.size)⟩
end Go.Proofs.Ytikfbhepnnbdoaa

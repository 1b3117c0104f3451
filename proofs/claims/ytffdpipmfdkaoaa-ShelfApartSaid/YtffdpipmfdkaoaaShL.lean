/-
  THE WALK over the shelf's lives.
-/
import Derived.Test.YtffdpipmfdkaoaaShW
namespace Go.Proofs.Ytffdpipmfdkaoaa
set_option linter.all false
open Go.RowKit

/-! what comes of the calls, step by step -/
def lv1 : ShM := (ShM.writeR (freshSh 2 10) 0 5 (secOf 1)).2
def lv2 : ShM := (lv1.flushR 0).2
def lv3 : ShM := (lv2.writeR 0 5 (secOf 2)).2
def lv4 : ShM := (lv3.writeR 0 6 (secOf 3)).2
def lv5 : ShM := lv4.crash [[1]]
def lv6 : ShM := (lv5.readR 0 5).2.2
def lv7 : ShM := (lv6.readR 0 6).2.2
theorem lv_a : (ShM.writeR (freshSh 2 10) 0 5 (secOf 1)).1 = 0 := by decide +kernel
theorem lv_b : (lv1.flushR 0).1 = 0 := by decide +kernel
theorem lv_r1 : ((freshSh 2 10).disk (0 : Int).toNat).waits.length ≤ 1000000000000 := by decide +kernel
theorem lv_r2 : (lv2.disk (0 : Int).toNat).waits.length ≤ 1000000000000 := by decide +kernel
theorem lv_r3 : (lv3.disk (0 : Int).toNat).waits.length ≤ 1000000000000 := by decide +kernel
theorem lv_n : lv4.waitsR 0 = 2 := by decide +kernel
theorem lv_r5 : (lv5.disk (0 : Int).toNat).waits.length ≤ 1000000000000 := by decide +kernel
theorem lv_r6 : (lv6.disk (0 : Int).toNat).waits.length ≤ 1000000000000 := by decide +kernel
theorem lv_x : (lv5.readR 0 5).1 = secOf 1 := by decide +kernel
theorem lv_f : (lv5.readR 0 5).2.1 = 0 := by decide +kernel
theorem lv_y : (lv6.readR 0 6).1 = secOf 3 := by decide +kernel
theorem lv_g : (lv6.readR 0 6).2.1 = 0 := by decide +kernel
theorem lv_c : lv7.count = 6 := by decide +kernel
theorem lv_w : lv7.waitsR 0 = 0 := by decide +kernel

set_option maxRecDepth 3000 in
set_option maxHeartbeats 4000000 in
theorem lives05 (w : World) : Calls Try.prog 11 #[] w fun e w' => e = .returned (.bool true) ∧ Below w.heap.size w w' := by
  have hs1 := fun W => sector_any 1 W
  have hs2 := fun W => sector_any 2 W
  have hs3 := fun W => sector_any 3 W
  simp only [show (((1 : UInt8).toNat : Nat) : Int) = 1 from rfl, show (((2 : UInt8).toNat : Nat) : Int) = 2 from rfl, show (((3 : UInt8).toNat : Nat) : Int) = 3 from rfl] at hs1 hs2 hs3
  replace hs1 := Lib.hid hs1
  replace hs2 := Lib.hid hs2
  replace hs3 := Lib.hid hs3
  have hnew := lw_new w 2 10 (by omega) (by omega) (by omega) (by omega)
  rw [show ((2 : Nat) : Int) = 2 from rfl, show ((10 : Nat) : Int) = 10 from rfl] at hnew
  go_enter Try.func11, Try.ntmps11
  go_wp2_with fail
  refine hnew.mono ?_
  rintro e w1 ⟨g, rfl, hS1, hB1⟩
  clear hnew
  go_wp2_with fail
  refine (hs1.out w1).mono ?_
  rintro e w2 ⟨A2, c2, rfl, ho2, hb2⟩
  go_wp2_with fail
  have hw := lw_write hS1 hb2 0 5 A2 128 c2 (secOf 1) _ ho2 (secOf_len 1) lv_r1
  rw [lv_a] at hw
  refine hw.mono ?_
  rintro e w3 ⟨rfl, hS3, hB3⟩
  replace hS3 : Sh w.heap.size g w3 lv1 := hS3
  replace hB1 := hB1.trans hB3
  clear hw hS1 ho2 hb2 hB3
  go_wp2_with fail
  have hw := lw_flush hS3 0
  rw [lv_b] at hw
  refine hw.mono ?_
  rintro e w4 ⟨rfl, hS4, hB4⟩
  replace hS4 : Sh w.heap.size g w4 lv2 := hS4
  replace hB1 := hB1.trans hB4
  clear hw hS3 hB4
  go_wp2_with fail
  refine (hs2.out w4).mono ?_
  rintro e w5 ⟨A5, c5, rfl, ho5, hb5⟩
  go_wp2_with fail
  refine (lw_write hS4 hb5 0 5 A5 128 c5 (secOf 2) _ ho5 (secOf_len 2) lv_r2).mono ?_
  rintro e w6 ⟨rfl, hS6, hB6⟩
  replace hS6 : Sh w.heap.size g w6 lv3 := hS6
  replace hB1 := hB1.trans hB6
  clear hS4 ho5 hb5 hB6
  go_wp2_with fail
  refine (hs3.out w6).mono ?_
  rintro e w7 ⟨A7, c7, rfl, ho7, hb7⟩
  go_wp2_with fail
  refine (lw_write hS6 hb7 0 6 A7 128 c7 (secOf 3) _ ho7 (secOf_len 3) lv_r3).mono ?_
  rintro e w8 ⟨rfl, hS8, hB8⟩
  replace hS8 : Sh w.heap.size g w8 lv4 := hS8
  replace hB1 := hB1.trans hB8
  clear hS6 ho7 hb7 hB8
  go_wp2_with fail
  have hw := lw_waits hS8 0
  rw [lv_n] at hw
  refine hw.mono ?_
  rintro e w9 ⟨rfl, rfl⟩
  clear hw
  go_wp2_with fail
  have hK : ∀ B : List Nat, (∀ b ∈ B, b < w8.heap.size) → KeepAt ((w8.alloc (.cells #[.int .i64 1] 3)).alloc (.cells #[.slice (some ⟨w8.heap.size, 0, none⟩) 1 1] 69)) B (some ⟨w8.heap.size + 1, 0, none⟩) [[1]] := by
    intro B hB
    have hn1 : w8.heap.size ∉ B := fun hm => Nat.lt_irrefl _ (hB _ hm)
    have hn2 : w8.heap.size + 1 ∉ B := fun hm => by have := hB _ hm; omega
    have r1 := (RdV.lit w8 3 [.int .i64 1] (by simp)).below ((Below.refl _ _).alloc (Nat.le_refl _) (.cells #[.slice (some ⟨w8.heap.size, 0, none⟩) 1 1] 69))
    have r2 := RdV.lit (w8.alloc (.cells #[.int .i64 1] 3)) 69 [.slice (some ⟨w8.heap.size, 0, none⟩) 1 1] (by simp)
    rw [World.size_alloc] at r2
    refine ⟨⟨_, r2, rfl, fun i hi => ?_⟩, fun _ _ ad e _ => by injection e with e; subst e; exact hn2⟩
    have hi0 : i = 0 := by simpa using hi
    subst hi0
    exact ⟨_, _, rfl, r1, fun ad e _ => by injection e with e; subst e; exact hn1⟩
  have hBA : Below w8.heap.size w8 ((w8.alloc (.cells #[.int .i64 1] 3)).alloc (.cells #[.slice (some ⟨w8.heap.size, 0, none⟩) 1 1] 69)) := ((Below.refl _ _).alloc (Nat.le_refl _) _).alloc (by simp) _
  refine (lw_crash_new hS8 hBA (some ⟨w8.heap.size + 1, 0, none⟩) 1 1 [[1]] hK rfl).mono ?_
  rintro e w9 ⟨rfl, hS9, hB9⟩
  replace hS9 : Sh w.heap.size g w9 lv5 := hS9
  replace hB1 := hB1.trans hB9
  clear hK hBA hS8 hB9
  go_wp2_with fail
  have hw := lw_read2 hS9 0 5 lv_r5
  rw [lv_x, lv_f] at hw
  refine hw.mono ?_
  rintro e wa ⟨va, F, rfl, hva, hSa, hBa, hSF, hFg, hF3, hFlt⟩
  replace hSF : ShAt wa F lv6 := hSF
  have hBwa := hB1.trans hBa
  obtain ⟨Aa0, ca0, hva0, _, _⟩ := hva.form (by rw [secOf_len]; omega)
  rw [secOf_len] at hva0
  subst hva0
  clear hw hS9 hSa
  go_wp2_with fail
  have hw := sh_read hSF 0 6 lv_r6
  rw [lv_y, lv_g, hFg] at hw
  refine hw.mono ?_
  rintro e wb ⟨vb, rfl, hvb, hSb, hTb⟩
  have hva2 := hva.turns hFlt hTb
  obtain ⟨r5, r6⟩ := Sh.same hBwa.size hF3 hSb hTb
  rw [hFg] at r5
  replace r5 : Sh w.heap.size g wb lv7 := r5
  have hBwb := hBwa.trans r6
  obtain ⟨Aa, ca, hva3, hra, _⟩ := hva2.form (by rw [secOf_len]; omega)
  injection hva3 with hva4 hva5 hva6
  subst hva4 hva6
  obtain ⟨Ab, cb, hvb3, hrb, _⟩ := hvb.form (by rw [secOf_len]; omega)
  rw [secOf_len] at hvb3
  subst hvb3
  clear hw hva hva2 hvb hTb hSF r6 hB1 hBa hF3 hFlt hva5 hSb
  go_wp2_with fail
  have hcnt : ∀ W, Below wb.heap.size wb W → Calls Try.prog 28 #[.pointer (some ⟨g, 0, none⟩)] W fun e w' => e = .returned (.int .i64 6) ∧ W = w' := by
    intro W hW
    have h := lw_count (r5.below hW)
    rw [lv_c] at h
    exact h
  have hwts : ∀ W, Below wb.heap.size wb W → Calls Try.prog 17 #[.pointer (some ⟨g, 0, none⟩), .int .i64 0] W fun e w' => e = .returned (.int .i64 0) ∧ W = w' := by
    intro W hW
    have h := lw_waits (r5.below hW) 0
    rw [lv_w] at h
    exact h
  have hl1 := secOf_len 1
  have hl3 := secOf_len 3
  have hx1 : (secOf 1 == secOf 1) = true := by simp
  have hx3 : (secOf 3 == secOf 3) = true := by simp
  generalize secOf 1 = b1 at *
  generalize secOf 3 = b3 at *
  have hS : ∀ W', Below wb.heap.size wb W' → Below wb.heap.size wb W' ∧ (convert 29 9 (.slice Aa0 128 ca0)).run Try.prog W' = .ok (.string ⟨b1.toArray⟩) W' ∧ (convert 29 9 (.slice Ab 128 cb)).run Try.prog W' = .ok (.string ⟨b3.toArray⟩) W' := fun W' hb => ⟨hb,
    run_string_rd (P := Try.prog) W' 29 9 5 Try.underlying29 Try.underlying5 Try.underlying9 Aa0 128 ca0 b1 (hra.below hb) hl1,
    run_string_rd (P := Try.prog) W' 29 9 5 Try.underlying29 Try.underlying5 Try.underlying9 Ab 128 cb b3 (hrb.below hb) hl3⟩
  have HSS := Lib.hid hS
  have HC := Lib.hid hcnt
  have HW := Lib.hid hwts
  replace hl1 := Lib.hid hl1
  replace hl3 := Lib.hid hl3
  clear hS hra hrb hcnt hwts r5
  refine wp_region_held_drew (S := (fun w' => Below wb.heap.size wb w' ∧ (convert 29 9 (.slice Aa0 128 ca0)).run Try.prog w' = .ok (.string ⟨b1.toArray⟩) w' ∧ (convert 29 9 (.slice Ab 128 cb)).run Try.prog w' = .ok (.string ⟨b3.toArray⟩) w')) (by kernel_rfl) ?_ (fun hHeld => ?_)
  · (try dsimp only)
    (first | (exact HSS.out _ ⟨rfl, rfl, rfl, Nat.le_refl _, (fun _ _ => rfl)⟩) | (go_split_ands; exact HSS.out _ (by assumption)) | (go_split_ands; exact HSS.out _ (below_to (by assumption) (by assumption))))
  refine wpAnyH_take (i := 0) (oi := ⟨_, _, _, _, _, _⟩) (v := ?v1) rfl (by kernel_rfl) (by kernel_rfl) (by kernel_rfl) (fun _ _ _ h => h) (Or.inl ⟨by rfl, ?hy1⟩) (by assumption) ?rest1
  case hy1 => (intro w hSw; (try dsimp only at hSw); go_simp; try with_reducible rfl)
  (try simp only [Act.put, List.setIfInBounds_toArray, List.set_cons_zero, List.set_cons_succ])
  refine wpAnyH_take (i := 1) (oi := ⟨_, _, _, _, _, _⟩) (v := ?v2) rfl (by kernel_rfl) (by kernel_rfl) (by kernel_rfl) (fun _ _ _ h => h) (Or.inl ⟨by rfl, ?hy2⟩) (by assumption) ?rest2
  case hy2 => (intro w hSw; (try dsimp only at hSw); go_simp; try with_reducible rfl)
  (try simp only [Act.put, List.setIfInBounds_toArray, List.set_cons_zero, List.set_cons_succ])
  refine wpAnyH_take (i := 2) (oi := ⟨_, _, _, _, _, _⟩) (v := ?v3) rfl (by kernel_rfl) (by kernel_rfl) (by kernel_rfl) (fun _ _ _ h => h) (Or.inl ⟨by rfl, ?hy3⟩) (by assumption) ?rest3
  case hy3 => (intro w hSw; (try dsimp only at hSw); go_simp; try with_reducible rfl)
  (try simp only [Act.put, List.setIfInBounds_toArray, List.set_cons_zero, List.set_cons_succ])
  refine wpAnyH_take (i := 3) (oi := ⟨_, _, _, _, _, _⟩) (v := ?v4) rfl (by kernel_rfl) (by kernel_rfl) (by kernel_rfl) (fun _ _ _ h => h) (Or.inl ⟨by rfl, ?hy4⟩) (by assumption) ?rest4
  case hy4 => (intro w hSw; (try dsimp only at hSw); go_simp; try with_reducible rfl)
  (try simp only [Act.put, List.setIfInBounds_toArray, List.set_cons_zero, List.set_cons_succ])
  refine wpAnyH_take (i := 4) (oi := ⟨_, _, _, _, _, _⟩) (v := ?v5) rfl (by kernel_rfl) (by kernel_rfl) (by kernel_rfl) (fun _ _ _ h => h) (Or.inl ⟨by rfl, ?hy5⟩) (by assumption) ?rest5
  case hy5 => (intro w hSw; (try dsimp only at hSw); go_simp; try with_reducible rfl)
  (try simp only [Act.put, List.setIfInBounds_toArray, List.set_cons_zero, List.set_cons_succ])
  refine wpAnyH_take (i := 5) (oi := ⟨_, _, _, _, _, _⟩) (v := ?v6) rfl (by kernel_rfl) (by kernel_rfl) (by kernel_rfl) (fun _ _ _ h => h) (Or.inl ⟨by rfl, ?hy6⟩) (by assumption) ?rest6
  case hy6 => (intro w hSw; (try dsimp only at hSw); go_simp; try with_reducible rfl)
  (try simp only [Act.put, List.setIfInBounds_toArray, List.set_cons_zero, List.set_cons_succ])
  refine wpAnyH_take (i := 6) (oi := ⟨_, _, _, _, _, _⟩) (v := ?v7) rfl (by kernel_rfl) (by kernel_rfl) (by kernel_rfl) (fun _ _ _ h => h) (Or.inl ⟨by rfl, ?hy7⟩) (by assumption) ?rest7
  case hy7 => (intro w hSw; (try dsimp only at hSw); go_simp; try with_reducible rfl)
  (try simp only [Act.put, List.setIfInBounds_toArray, List.set_cons_zero, List.set_cons_succ])
  refine wpAnyH_take (i := 7) (oi := ⟨_, _, _, _, _, _⟩) (v := ?v8) rfl (by kernel_rfl) (by kernel_rfl) (by kernel_rfl) (fun _ _ _ h => h) (Or.inl ⟨by rfl, ?hy8⟩) (by assumption) ?rest8
  case hy8 => (intro w hSw; (try dsimp only at hSw); go_simp; try with_reducible rfl)
  (try simp only [Act.put, List.setIfInBounds_toArray, List.set_cons_zero, List.set_cons_succ])
  refine wpAnyH_take (i := 8) (oi := ⟨_, _, _, _, _, _⟩) (v := ?v9) rfl (by kernel_rfl) (by kernel_rfl) (by kernel_rfl) (fun _ _ _ h => h) (Or.inl ⟨by rfl, ?hy9⟩) (by assumption) ?rest9
  case hy9 => (intro w hSw; (try dsimp only at hSw); go_simp; try with_reducible rfl)
  (try simp only [Act.put, List.setIfInBounds_toArray, List.set_cons_zero, List.set_cons_succ])
  refine wpAnyH_take (i := 9) (oi := ⟨_, _, _, _, _, _⟩) (v := ?v10) rfl (by kernel_rfl) (by kernel_rfl) (by kernel_rfl) (fun _ _ _ h => h) (Or.inl ⟨by rfl, ?hy10⟩) (by assumption) ?rest10
  case hy10 => (intro w hSw; (try dsimp only at hSw); go_simp; try with_reducible rfl)
  (try simp only [Act.put, List.setIfInBounds_toArray, List.set_cons_zero, List.set_cons_succ])
  refine wpAnyH_take (i := 10) (oi := ⟨_, _, _, _, _, _⟩) (v := ?v11) rfl (by kernel_rfl) (by kernel_rfl) (by kernel_rfl) (fun _ _ _ h => h) (Or.inl ⟨by rfl, ?hy11⟩) (by assumption) ?rest11
  case hy11 => (intro w hSw; (try dsimp only at hSw); go_simp; try with_reducible rfl)
  (try simp only [Act.put, List.setIfInBounds_toArray, List.set_cons_zero, List.set_cons_succ])
  refine wpAnyH_take (i := 11) (oi := ⟨_, _, _, _, _, _⟩) (v := ?v12) rfl (by kernel_rfl) (by kernel_rfl) (by kernel_rfl) (fun _ _ _ h => h) (Or.inl ⟨by rfl, ?hy12⟩) (by assumption) ?rest12
  case hy12 => (intro w hSw; (try dsimp only at hSw); go_simp; try with_reducible rfl)
  (try simp only [Act.put, List.setIfInBounds_toArray, List.set_cons_zero, List.set_cons_succ])
  refine wpAnyH_take (i := 12) (oi := ⟨_, _, _, _, _, _⟩) (v := ?v13) rfl (by kernel_rfl) (by kernel_rfl) (by kernel_rfl) (fun _ _ _ h => h) (Or.inl ⟨by rfl, ?hy13⟩) (by assumption) ?rest13
  case hy13 => (intro w hSw; (try dsimp only at hSw); go_simp; try with_reducible rfl)
  (try simp only [Act.put, List.setIfInBounds_toArray, List.set_cons_zero, List.set_cons_succ])
  refine wpAnyH_take (i := 13) (oi := ⟨_, _, _, _, _, _⟩) (v := ?v14) rfl (by kernel_rfl) (by kernel_rfl) (by kernel_rfl) (fun _ _ _ h => h) (Or.inl ⟨by rfl, ?hy14⟩) (by assumption) ?rest14
  case hy14 => (intro w hSw; (try dsimp only at hSw); go_simp; try with_reducible rfl)
  (try simp only [Act.put, List.setIfInBounds_toArray, List.set_cons_zero, List.set_cons_succ])
  refine wpAnyH_take (i := 14) (oi := ⟨_, _, _, _, _, _⟩) (v := ?v15) rfl (by kernel_rfl) (by kernel_rfl) (by kernel_rfl) (fun _ _ _ h => h) (Or.inl ⟨by rfl, ?hy15⟩) (by assumption) ?rest15
  case hy15 => (intro w hSw; (try dsimp only at hSw); go_simp; try with_reducible rfl)
  (try simp only [Act.put, List.setIfInBounds_toArray, List.set_cons_zero, List.set_cons_succ])
  refine wpAnyH_take (i := 15) (oi := ⟨_, _, _, _, _, _⟩) (v := ?v16) rfl (by kernel_rfl) (by kernel_rfl) (by kernel_rfl) (fun _ _ _ h => h) (Or.inl ⟨by rfl, ?hy16⟩) (by assumption) ?rest16
  case hy16 => (intro w hSw; (try dsimp only at hSw); go_simp; try with_reducible rfl)
  (try simp only [Act.put, List.setIfInBounds_toArray, List.set_cons_zero, List.set_cons_succ])
  refine wpAnyH_take (i := 16) (oi := ⟨_, _, _, _, _, _⟩) (v := ?v17) rfl (by kernel_rfl) (by kernel_rfl) (by kernel_rfl) (fun _ _ _ h => h) (Or.inl ⟨by rfl, ?hy17⟩) (by assumption) ?rest17
  case hy17 => (intro w hSw; (try dsimp only at hSw); go_simp; try with_reducible rfl)
  (try simp only [Act.put, List.setIfInBounds_toArray, List.set_cons_zero, List.set_cons_succ])
  refine wpAnyH_take (i := 17) (oi := ⟨_, _, _, _, _, _⟩) (v := ?v18) rfl (by kernel_rfl) (by kernel_rfl) (by kernel_rfl) (fun _ _ _ h => h) (Or.inl ⟨by rfl, ?hy18⟩) (by assumption) ?rest18
  case hy18 => (intro w hSw; (try dsimp only at hSw); go_simp; try with_reducible rfl)
  (try simp only [Act.put, List.setIfInBounds_toArray, List.set_cons_zero, List.set_cons_succ])
  refine wpAnyH_take (i := 18) (oi := ⟨_, _, _, _, _, _⟩) (v := ?v19) rfl (by kernel_rfl) (by kernel_rfl) (by kernel_rfl) (fun _ _ _ h => h) (Or.inl ⟨by rfl, ?hy19⟩) (by assumption) ?rest19
  case hy19 => (intro w hSw; (try dsimp only at hSw); go_simp; try with_reducible rfl)
  (try simp only [Act.put, List.setIfInBounds_toArray, List.set_cons_zero, List.set_cons_succ])
  refine wpAnyH_take (i := 19) (oi := ⟨_, _, _, _, _, _⟩) (v := ?v20) rfl (by kernel_rfl) (by kernel_rfl) (by kernel_rfl) (fun _ _ _ h => h) (Or.inl ⟨by rfl, ?hy20⟩) (by assumption) ?rest20
  case hy20 => (intro w hSw; (try dsimp only at hSw); go_simp; try with_reducible rfl)
  (try simp only [Act.put, List.setIfInBounds_toArray, List.set_cons_zero, List.set_cons_succ])
  refine wpAnyH_take (i := 20) (oi := ⟨_, _, _, _, _, _⟩) (v := ?v21) rfl (by kernel_rfl) (by kernel_rfl) (by kernel_rfl) (fun _ _ _ h => h) (Or.inl ⟨by rfl, ?hy21⟩) (by assumption) ?rest21
  case hy21 => (intro w hSw; (try dsimp only at hSw); go_simp; try with_reducible rfl)
  (try simp only [Act.put, List.setIfInBounds_toArray, List.set_cons_zero, List.set_cons_succ])
  refine wpAnyH_ready (rs := [21]) (by kernel_rfl) (by simp) ?_
  refine AllReadyH.cons (o := ⟨_, _, _, _, _, _⟩) rfl (fun K hK => ?_) AllReadyH.nil
  go_simp
  refine (hs1.out _).mono ?_
  rintro e wx ⟨A9, c9, rfl, ho9, hb9⟩
  have hcv9 := run_string_rd (P := Try.prog) wx 29 9 5 Try.underlying29 Try.underlying5 Try.underlying9 A9 128 c9 b1 ho9.rd hl1.out
  clear ho9
  (try go_wp2_with fail)
  refine hK.out _ _ ?_ (fun hHeld2 => ?_)
  · (try dsimp only)
    (first | (exact HSS.out _ ⟨rfl, rfl, rfl, Nat.le_refl _, (fun _ _ => rfl)⟩) | (go_split_ands; exact HSS.out _ (by assumption)) | (go_split_ands; exact HSS.out _ (below_to (by assumption) (by assumption))))
  clear hK K
  replace hHeld := hHeld2
  clear hHeld2
  (try simp only [Act.put, List.setIfInBounds_toArray, List.set_cons_zero, List.set_cons_succ])
  refine wpAnyH_ready (rs := [22]) (by kernel_rfl) (by simp) ?_
  refine AllReadyH.cons (o := ⟨_, _, _, _, _, _⟩) rfl (fun K hK => ?_) AllReadyH.nil
  go_simp
  refine hK.out _ _ ?_ (fun hHeld2 => ?_)
  · (try dsimp only)
    (first | (exact HSS.out _ ⟨rfl, rfl, rfl, Nat.le_refl _, (fun _ _ => rfl)⟩) | (go_split_ands; exact HSS.out _ (by assumption)) | (go_split_ands; exact HSS.out _ (below_to (by assumption) (by assumption))))
  clear hK K
  replace hHeld := hHeld2
  clear hHeld2
  (try simp only [Act.put, List.setIfInBounds_toArray, List.set_cons_zero, List.set_cons_succ])
  refine wpAnyH_take (i := 23) (oi := ⟨_, _, _, _, _, _⟩) (v := ?v22) rfl (by kernel_rfl) (by kernel_rfl) (by kernel_rfl) (fun _ _ _ h => h) (Or.inl ⟨by rfl, ?hy22⟩) (by assumption) ?rest22
  case hy22 => (intro w hSw; (try dsimp only at hSw); go_simp; try with_reducible rfl)
  (try simp only [Act.put, List.setIfInBounds_toArray, List.set_cons_zero, List.set_cons_succ])
  refine wpAnyH_take (i := 24) (oi := ⟨_, _, _, _, _, _⟩) (v := ?v23) rfl (by kernel_rfl) (by kernel_rfl) (by kernel_rfl) (fun _ _ _ h => h) (Or.inl ⟨by rfl, ?hy23⟩) (by assumption) ?rest23
  case hy23 => (intro w hSw; (try dsimp only at hSw); go_simp; try with_reducible rfl)
  (try simp only [Act.put, List.setIfInBounds_toArray, List.set_cons_zero, List.set_cons_succ])
  refine wpAnyH_take (i := 25) (oi := ⟨_, _, _, _, _, _⟩) (v := ?v24) rfl (by kernel_rfl) (by kernel_rfl) (by kernel_rfl) (fun _ _ _ h => h) (Or.inl ⟨by rfl, ?hy24⟩) (by assumption) ?rest24
  case hy24 => (intro w hSw; (try dsimp only at hSw); go_simp; try with_reducible rfl)
  (try simp only [Act.put, List.setIfInBounds_toArray, List.set_cons_zero, List.set_cons_succ])
  refine wpAnyH_take (i := 26) (oi := ⟨_, _, _, _, _, _⟩) (v := ?v25) rfl (by kernel_rfl) (by kernel_rfl) (by kernel_rfl) (fun _ _ _ h => h) (Or.inl ⟨by rfl, ?hy25⟩) (by assumption) ?rest25
  case hy25 => (intro w hSw; (try dsimp only at hSw); go_simp; try with_reducible rfl)
  (try simp only [Act.put, List.setIfInBounds_toArray, List.set_cons_zero, List.set_cons_succ])
  refine wpAnyH_take (i := 27) (oi := ⟨_, _, _, _, _, _⟩) (v := ?v26) rfl (by kernel_rfl) (by kernel_rfl) (by kernel_rfl) (fun _ _ _ h => h) (Or.inl ⟨by rfl, ?hy26⟩) (by assumption) ?rest26
  case hy26 => (intro w hSw; (try dsimp only at hSw); go_simp; try with_reducible rfl)
  (try simp only [Act.put, List.setIfInBounds_toArray, List.set_cons_zero, List.set_cons_succ])
  refine wpAnyH_ready (rs := [28]) (by kernel_rfl) (by simp) ?_
  refine AllReadyH.cons (o := ⟨_, _, _, _, _, _⟩) rfl (fun K hK => ?_) AllReadyH.nil
  go_simp
  clear hcv9 hb9
  refine (hs3.out _).mono ?_
  rintro e wx ⟨A9, c9, rfl, ho9, hb9⟩
  have hcv9 := run_string_rd (P := Try.prog) wx 29 9 5 Try.underlying29 Try.underlying5 Try.underlying9 A9 128 c9 b3 ho9.rd hl3.out
  clear ho9
  (try go_wp2_with fail)
  refine hK.out _ _ ?_ (fun hHeld2 => ?_)
  · (try dsimp only)
    (first | (exact HSS.out _ ⟨rfl, rfl, rfl, Nat.le_refl _, (fun _ _ => rfl)⟩) | (go_split_ands; exact HSS.out _ (by assumption)) | (go_split_ands; exact HSS.out _ (below_to (by assumption) (by assumption))))
  clear hK K
  replace hHeld := hHeld2
  clear hHeld2
  (try simp only [Act.put, List.setIfInBounds_toArray, List.set_cons_zero, List.set_cons_succ])
  refine wpAnyH_ready (rs := [29]) (by kernel_rfl) (by simp) ?_
  refine AllReadyH.cons (o := ⟨_, _, _, _, _, _⟩) rfl (fun K hK => ?_) AllReadyH.nil
  go_simp
  refine hK.out _ _ ?_ (fun hHeld2 => ?_)
  · (try dsimp only)
    (first | (exact HSS.out _ ⟨rfl, rfl, rfl, Nat.le_refl _, (fun _ _ => rfl)⟩) | (go_split_ands; exact HSS.out _ (by assumption)) | (go_split_ands; exact HSS.out _ (below_to (by assumption) (by assumption))))
  clear hK K
  replace hHeld := hHeld2
  clear hHeld2
  (try simp only [Act.put, List.setIfInBounds_toArray, List.set_cons_zero, List.set_cons_succ])
  refine wpAnyH_take (i := 30) (oi := ⟨_, _, _, _, _, _⟩) (v := ?v27) rfl (by kernel_rfl) (by kernel_rfl) (by kernel_rfl) (fun _ _ _ h => h) (Or.inl ⟨by rfl, ?hy27⟩) (by assumption) ?rest27
  case hy27 => (intro w hSw; (try dsimp only at hSw); go_simp; try with_reducible rfl)
  (try simp only [Act.put, List.setIfInBounds_toArray, List.set_cons_zero, List.set_cons_succ])
  refine wpAnyH_take (i := 31) (oi := ⟨_, _, _, _, _, _⟩) (v := ?v28) rfl (by kernel_rfl) (by kernel_rfl) (by kernel_rfl) (fun _ _ _ h => h) (Or.inl ⟨by rfl, ?hy28⟩) (by assumption) ?rest28
  case hy28 => (intro w hSw; (try dsimp only at hSw); go_simp; try with_reducible rfl)
  (try simp only [Act.put, List.setIfInBounds_toArray, List.set_cons_zero, List.set_cons_succ])
  refine wpAnyH_take (i := 32) (oi := ⟨_, _, _, _, _, _⟩) (v := ?v29) rfl (by kernel_rfl) (by kernel_rfl) (by kernel_rfl) (fun _ _ _ h => h) (Or.inl ⟨by rfl, ?hy29⟩) (by assumption) ?rest29
  case hy29 => (intro w hSw; (try dsimp only at hSw); go_simp; try with_reducible rfl)
  (try simp only [Act.put, List.setIfInBounds_toArray, List.set_cons_zero, List.set_cons_succ])
  refine wpAnyH_take (i := 33) (oi := ⟨_, _, _, _, _, _⟩) (v := ?v30) rfl (by kernel_rfl) (by kernel_rfl) (by kernel_rfl) (fun _ _ _ h => h) (Or.inl ⟨by rfl, ?hy30⟩) (by assumption) ?rest30
  case hy30 => (intro w hSw; (try dsimp only at hSw); go_simp; try with_reducible rfl)
  (try simp only [Act.put, List.setIfInBounds_toArray, List.set_cons_zero, List.set_cons_succ])
  refine wpAnyH_ready (rs := [34]) (by kernel_rfl) (by simp) ?_
  refine AllReadyH.cons (o := ⟨_, _, _, _, _, _⟩) rfl (fun K hK => ?_) AllReadyH.nil
  go_simp
  refine (HC.out _ hHeld.1).mono ?_
  rintro e wx ⟨rfl, rfl⟩
  (try go_wp2_with fail)
  refine hK.out _ _ ?_ (fun hHeld2 => ?_)
  · (try dsimp only)
    (first | (exact HSS.out _ ⟨rfl, rfl, rfl, Nat.le_refl _, (fun _ _ => rfl)⟩) | (go_split_ands; exact HSS.out _ (by assumption)) | (go_split_ands; exact HSS.out _ (below_to (by assumption) (by assumption))))
  clear hK K
  replace hHeld := hHeld2
  clear hHeld2
  (try simp only [Act.put, List.setIfInBounds_toArray, List.set_cons_zero, List.set_cons_succ])
  refine wpAnyH_take (i := 35) (oi := ⟨_, _, _, _, _, _⟩) (v := ?v31) rfl (by kernel_rfl) (by kernel_rfl) (by kernel_rfl) (fun _ _ _ h => h) (Or.inl ⟨by rfl, ?hy31⟩) (by assumption) ?rest31
  case hy31 => (intro w hSw; (try dsimp only at hSw); go_simp; try with_reducible rfl)
  (try simp only [Act.put, List.setIfInBounds_toArray, List.set_cons_zero, List.set_cons_succ])
  refine wpAnyH_take (i := 36) (oi := ⟨_, _, _, _, _, _⟩) (v := ?v32) rfl (by kernel_rfl) (by kernel_rfl) (by kernel_rfl) (fun _ _ _ h => h) (Or.inl ⟨by rfl, ?hy32⟩) (by assumption) ?rest32
  case hy32 => (intro w hSw; (try dsimp only at hSw); go_simp; try with_reducible rfl)
  (try simp only [Act.put, List.setIfInBounds_toArray, List.set_cons_zero, List.set_cons_succ])
  refine wpAnyH_take (i := 37) (oi := ⟨_, _, _, _, _, _⟩) (v := ?v33) rfl (by kernel_rfl) (by kernel_rfl) (by kernel_rfl) (fun _ _ _ h => h) (Or.inl ⟨by rfl, ?hy33⟩) (by assumption) ?rest33
  case hy33 => (intro w hSw; (try dsimp only at hSw); go_simp; try with_reducible rfl)
  (try simp only [Act.put, List.setIfInBounds_toArray, List.set_cons_zero, List.set_cons_succ])
  refine wpAnyH_take (i := 38) (oi := ⟨_, _, _, _, _, _⟩) (v := ?v34) rfl (by kernel_rfl) (by kernel_rfl) (by kernel_rfl) (fun _ _ _ h => h) (Or.inl ⟨by rfl, ?hy34⟩) (by assumption) ?rest34
  case hy34 => (intro w hSw; (try dsimp only at hSw); go_simp; try with_reducible rfl)
  (try simp only [Act.put, List.setIfInBounds_toArray, List.set_cons_zero, List.set_cons_succ])
  refine wpAnyH_ready (rs := [39]) (by kernel_rfl) (by simp) ?_
  refine AllReadyH.cons (o := ⟨_, _, _, _, _, _⟩) rfl (fun K hK => ?_) AllReadyH.nil
  go_simp
  refine (HW.out _ hHeld.1).mono ?_
  rintro e wx ⟨rfl, rfl⟩
  (try go_wp2_with fail)
  refine hK.out _ _ ?_ (fun hHeld2 => ?_)
  · (try dsimp only)
    (first | (exact HSS.out _ ⟨rfl, rfl, rfl, Nat.le_refl _, (fun _ _ => rfl)⟩) | (go_split_ands; exact HSS.out _ (by assumption)) | (go_split_ands; exact HSS.out _ (below_to (by assumption) (by assumption))))
  clear hK K
  replace hHeld := hHeld2
  clear hHeld2
  (try simp only [Act.put, List.setIfInBounds_toArray, List.set_cons_zero, List.set_cons_succ])
  refine wpAnyH_take (i := 40) (oi := ⟨_, _, _, _, _, _⟩) (v := ?v35) rfl (by kernel_rfl) (by kernel_rfl) (by kernel_rfl) (fun _ _ _ h => h) (Or.inl ⟨by rfl, ?hy35⟩) (by assumption) ?rest35
  case hy35 => (intro w hSw; (try dsimp only at hSw); go_simp; try with_reducible rfl)
  (try simp only [Act.put, List.setIfInBounds_toArray, List.set_cons_zero, List.set_cons_succ])
  refine wpAnyH_take (i := 41) (oi := ⟨_, _, _, _, _, _⟩) (v := ?v36) rfl (by kernel_rfl) (by kernel_rfl) (by kernel_rfl) (fun _ _ _ h => h) (Or.inl ⟨by rfl, ?hy36⟩) (by assumption) ?rest36
  case hy36 => (intro w hSw; (try dsimp only at hSw); go_simp; try with_reducible rfl)
  (try simp only [Act.put, List.setIfInBounds_toArray, List.set_cons_zero, List.set_cons_succ])
  refine wpAnyH_take (i := 42) (oi := ⟨_, _, _, _, _, _⟩) (v := ?v37) rfl (by kernel_rfl) (by kernel_rfl) (by kernel_rfl) (fun _ _ _ h => h) (Or.inl ⟨by rfl, ?hy37⟩) (by assumption) ?rest37
  case hy37 => (intro w hSw; (try dsimp only at hSw); go_simp; try with_reducible rfl)
  (try simp only [Act.put, List.setIfInBounds_toArray, List.set_cons_zero, List.set_cons_succ])
  refine wpAnyH_done (by kernel_rfl) ?_ _
  have hH1 := hHeld.1
  clear hHeld
  go_wp2
  go_ret
  exact ⟨by simp, hBwb.trans (hH1.mono hBwb.size)⟩
end Go.Proofs.Ytffdpipmfdkaoaa

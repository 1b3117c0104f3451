/-
  Several texts of this work in one (merge.py): SuL, SuR, SuG.
-/
import Derived.Test.YtikfbhepnnbdoaaSuJ
import Derived.Test.YtikfbhepnnbdoaaSuI
import Derived.Test.YtikfbhepnnbdoaaOct
import Derived.Test.YtikfbhepnnbdoaaBase
namespace Go.Proofs.Ytikfbhepnnbdoaa
set_option linter.all false
section
/-
  THE WALK over the sums' lives.
-/
open Go.RowKit

def ul0 : ShM := freshSh 1 20
def ulD : DevM := freshDev ul0 0
def ul1 : Bytes × Int × ShM := devRead ul0 ulD 17
def ul2 : Int × ShM × DevM := devWrite ul1.2.2 ulD 17 (secOf 7)
def ul3 : Bytes × Int × ShM := devRead ul2.2.1 ul2.2.2 17
theorem ul_a : ul1.2.1 = 0 ∧ ul1.1.length = 128 := by decide +kernel
theorem ul_b : ul2.1 = 0 := by decide +kernel
theorem ul_c : ul3.1 = secOf 7 ∧ ul3.2.1 = 0 := by decide +kernel
theorem ul_d : ulD.size = 18 ∧ ul2.2.2.size = 18 := by decide +kernel
theorem ul_r1 : Room 999999999990 ul0 := (room_fresh 1 20).mono (by omega)
theorem ul_r2 : Room 999999999990 ul1.2.2 := by
  intro e
  have h : (ul1.2.2.disks.map fun k => k.waits.length) = [0] := by decide +kernel
  exact room_list h (by decide) e
theorem ul_r3 : Room 999999999990 ul2.2.1 := by
  intro e
  have h : (ul2.2.1.disks.map fun k => k.waits.length) = [1] := by decide +kernel
  exact room_list h (by decide) e

set_option maxRecDepth 100000 in
set_option maxHeartbeats 4000000 in
theorem lives06 (w : World) : Calls Try.prog 13 #[] w fun e w' => e = .returned (.bool true) ∧ Below w.heap.size w w' := by
  have hnew := lx_new (X := fun b => b < w.heap.size) (w := w) (fun _ h => h) 1 20 (by omega) (by omega) (by omega) (by omega)
  rw [show ((1 : Nat) : Int) = 1 from rfl, show ((20 : Nat) : Int) = 20 from rfl] at hnew
  go_enter Try.func13, Try.ntmps13
  go_wp2_with fail
  refine hnew.mono ?_
  rintro e w1 ⟨g, rfl, hS1, hB1⟩
  clear hnew
  replace hS1 : ShX (fun b => b < w.heap.size) g w1 ul0 := hS1
  have hct := su_open hS1 0 (by decide)
  rw [show ((0 : Nat) : Int) = 0 from rfl] at hct
  go_wp2_with fail
  with_reducible refine hct.mono ?_
  rintro e w2 ⟨a, rfl, ha, h2, hb2⟩
  replace h2 : DvX (fun b => b < w.heap.size) a g w2 ul0 ulD := h2
  have hB2 := hB1.trans (hb2.mono hB1.size)
  have hct2 := su_read h2 (ul_r1.mono (by omega)) 17 (by omega) (by omega)
  rw [show devRead ul0 ulD 17 = ul1 from rfl] at hct2
  clear hct hS1 hB1 hb2
  go_wp2_with fail
  with_reducible refine hct2.mono ?_
  rintro e w3 ⟨v3, rfl, hf3, h3, hK3⟩
  obtain ⟨A3, c3, rfl, _, _⟩ := hf3.form (by rw [ul_a.2]; omega)
  have h3 := h3.mono (Y := fun b => b < w.heap.size) fun b hb => .inl hb
  have hB3 := hB2.trans (hK3.below fun b hb => hb)
  rw [ul_a.1, ul_a.2]
  clear hct2 hf3 hK3 h2 hB2
  go_wp2_with fail
  refine (sector_any 7 w3).mono ?_
  rintro e w4 ⟨A4, c4, rfl, ho4, hb4⟩
  have hct := su_write_new h3 hb4 ul_r2 17 (by omega) (by omega) A4 128 c4 _ (secOf 7) ho4 (secOf_len 7)
  rw [show devWrite ul1.2.2 ulD 17 (secOf 7) = ul2 from rfl] at hct
  go_wp2_with fail
  with_reducible refine hct.mono ?_
  rintro e w5 ⟨rfl, h5, hK5⟩
  have hB5 := hB3.trans (hK5.below fun b hb => hb)
  rw [ul_b]
  have hct2 := su_read h5 (ul_r3.mono (by omega)) 17 (by omega) (by omega)
  rw [show devRead ul2.2.1 ul2.2.2 17 = ul3 from rfl] at hct2
  clear hct ho4 hb4 h3 hK5
  go_wp2_with fail
  with_reducible refine hct2.mono ?_
  rintro e w6 ⟨v6, rfl, hf6, h6, hK6⟩
  rw [ul_c.1] at hf6
  obtain ⟨A6, c6, rfl, hr6, ho6, hn6⟩ := hf6.form2 (by rw [secOf_len]; omega)
  have hB6 := hB5.trans (hK6.below fun b hb => hb)
  rw [secOf_len] at h6 ho6 ⊢
  rw [ul_c.2]
  clear hct2 hf6 h5 hK6
  have hpl := su_place 17 w6 (by omega)
  rw [show ((17 : Nat) : Int) = 17 from rfl, show sumAt 17 = 17 from rfl, show dataAt 17 = 19 from rfl] at hpl
  go_wp2_with fail
  refine hpl.mono ?_
  rintro e w7 ⟨rfl, rfl⟩
  have hdb : Hid (∀ W, DvX (fun b => b < w.heap.size ∨ Value.ownBlock (.slice A6 128 c6) = some b) a g W ul3.2.2 ul2.2.2 → _) := Lib.hid fun W h => su_dblocks h
  rw [ul_d.2] at hdb
  have hbl : Hid (∀ W, _) := Lib.hid fun W => su_blocks 20 W (by omega) (by omega)
  rw [show blocksI 20 = 18 from rfl] at hbl
  have hsx : ∀ W, Calls Try.prog 22 #[.int .u8 7] W fun e w' => ∃ A c, e = .returned (.slice A 128 c) ∧ Own w' 5 W.heap.size (.slice A 128 c) (secOf 7) ∧ Below W.heap.size W w' := fun W => sector_any 7 W
  have hl7 := Lib.hid (secOf_len 7)
  have hxx : (secOf 7 == secOf 7) = true := by simp
  replace hsx := Lib.hid hsx
  generalize secOf 7 = s7 at *
  have hcs : Hid (∀ W, Below w6.heap.size w6 W → DvX (fun b => b < w.heap.size ∨ Value.ownBlock (.slice A6 128 c6) = some b) a g W ul3.2.2 ul2.2.2 ∧ (convert 28 9 (.slice A6 128 c6)).run Try.prog W = .ok (.string ⟨s7.toArray⟩) W ∧ Below w6.heap.size w6 W) := Lib.hid fun W hW =>
    ⟨h6.below hW, run_string_rd (P := Try.prog) _ 28 9 5 Try.underlying28 Try.underlying5 Try.underlying9 _ 128 c6 s7 (hr6.below hW) hl7.out, hW⟩
  replace h6 := Lib.hid h6
  replace hr6 := Lib.hid hr6
  clear hpl ho6 hn6
  go_wp2_with fail
  refine wp_region_held_drew (S := (fun W => DvX (fun b => b < w.heap.size ∨ Value.ownBlock (.slice A6 128 c6) = some b) a g W ul3.2.2 ul2.2.2 ∧ (convert 28 9 (.slice A6 128 c6)).run Try.prog W = .ok (.string ⟨s7.toArray⟩) W ∧ Below w6.heap.size w6 W)) (by kernel_rfl) ?_ (fun hHeld => ?_)
  · (try dsimp only)
    exact hcs.out _ (Below.refl _ _).drew
  refine wpAnyH_take (i := 0) (oi := ⟨_, _, _, _, _, _⟩) (v := ?v1) rfl (by kernel_rfl) (by kernel_rfl) (by kernel_rfl) (fun _ _ _ h => h) (Or.inl ⟨by rfl, ?hy1⟩) (by assumption) ?rest1
  case hy1 => (intro w hSw; (try dsimp only at hSw); go_simp; try with_reducible rfl)
  (try simp only [Act.put, List.setIfInBounds_toArray, List.set_cons_zero, List.set_cons_succ])
  refine wpAnyH_ready (rs := [1]) (by kernel_rfl) (by simp) ?_
  refine AllReadyH.cons (o := ⟨_, _, _, _, _, _⟩) rfl (fun K hK => ?_) AllReadyH.nil
  go_simp
  refine (hdb.out _ hHeld.1).mono ?_
  rintro e wx ⟨rfl, rfl⟩
  (try go_wp2_with fail)
  refine hK.out _ _ ?_ (fun hHeld2 => ?_)
  · (try dsimp only)
    (first | exact hHeld | exact hcs.out _ hB9)
  clear hK K
  replace hHeld := hHeld2
  clear hHeld2
  (try simp only [Act.put, List.setIfInBounds_toArray, List.set_cons_zero, List.set_cons_succ])
  refine wpAnyH_take (i := 2) (oi := ⟨_, _, _, _, _, _⟩) (v := ?v2) rfl (by kernel_rfl) (by kernel_rfl) (by kernel_rfl) (fun _ _ _ h => h) (Or.inl ⟨by rfl, ?hy2⟩) (by assumption) ?rest2
  case hy2 => (intro w hSw; (try dsimp only at hSw); go_simp; try with_reducible rfl)
  (try simp only [Act.put, List.setIfInBounds_toArray, List.set_cons_zero, List.set_cons_succ])
  refine wpAnyH_take (i := 3) (oi := ⟨_, _, _, _, _, _⟩) (v := ?v3) rfl (by kernel_rfl) (by kernel_rfl) (by kernel_rfl) (fun _ _ _ h => h) (Or.inl ⟨by rfl, ?hy3⟩) (by assumption) ?rest3
  case hy3 => (intro w hSw; (try dsimp only at hSw); go_simp; try with_reducible rfl)
  (try simp only [Act.put, List.setIfInBounds_toArray, List.set_cons_zero, List.set_cons_succ])
  refine wpAnyH_take (i := 4) (oi := ⟨_, _, _, _, _, _⟩) (v := ?v4) rfl (by kernel_rfl) (by kernel_rfl) (by kernel_rfl) (fun _ _ _ h => h) (Or.inl ⟨by rfl, ?hy4⟩) (by assumption) ?rest4
  case hy4 => (intro w hSw; (try dsimp only at hSw); go_simp; try with_reducible rfl)
  (try simp only [Act.put, List.setIfInBounds_toArray, List.set_cons_zero, List.set_cons_succ])
  refine wpAnyH_take (i := 5) (oi := ⟨_, _, _, _, _, _⟩) (v := ?v5) rfl (by kernel_rfl) (by kernel_rfl) (by kernel_rfl) (fun _ _ _ h => h) (Or.inl ⟨by rfl, ?hy5⟩) (by assumption) ?rest5
  case hy5 => (intro w hSw; (try dsimp only at hSw); go_simp; try with_reducible rfl)
  (try simp only [Act.put, List.setIfInBounds_toArray, List.set_cons_zero, List.set_cons_succ])
  refine wpAnyH_take (i := 6) (oi := ⟨_, _, _, _, _, _⟩) (v := ?v6) rfl (by kernel_rfl) (by kernel_rfl) (by kernel_rfl) (fun _ _ _ h => h) (Or.inl ⟨by rfl, ?hy6⟩) (by assumption) ?rest6
  case hy6 => (intro w hSw; (try dsimp only at hSw); go_simp; try with_reducible rfl)
  (try simp only [Act.put, List.setIfInBounds_toArray, List.set_cons_zero, List.set_cons_succ])
  refine wpAnyH_take (i := 7) (oi := ⟨_, _, _, _, _, _⟩) (v := ?v7) rfl (by kernel_rfl) (by kernel_rfl) (by kernel_rfl) (fun _ _ _ h => h) (Or.inl ⟨by rfl, ?hy7⟩) (by assumption) ?rest7
  case hy7 => (intro w hSw; (try dsimp only at hSw); go_simp; try with_reducible rfl)
  (try simp only [Act.put, List.setIfInBounds_toArray, List.set_cons_zero, List.set_cons_succ])
  refine wpAnyH_take (i := 8) (oi := ⟨_, _, _, _, _, _⟩) (v := ?v8) rfl (by kernel_rfl) (by kernel_rfl) (by kernel_rfl) (fun _ _ _ h => h) (Or.inl ⟨by rfl, ?hy8⟩) (by assumption) ?rest8
  case hy8 => (intro w hSw; (try dsimp only at hSw); go_simp; try with_reducible rfl)
  (try simp only [Act.put, List.setIfInBounds_toArray, List.set_cons_zero, List.set_cons_succ])
  refine wpAnyH_take (i := 9) (oi := ⟨_, _, _, _, _, _⟩) (v := ?v9) rfl (by kernel_rfl) (by kernel_rfl) (by kernel_rfl) (fun _ _ _ h => h) (Or.inl ⟨by rfl, ?hy9⟩) (by assumption) ?rest9
  case hy9 => (intro w hSw; (try dsimp only at hSw); go_simp; try with_reducible rfl)
  (try simp only [Act.put, List.setIfInBounds_toArray, List.set_cons_zero, List.set_cons_succ])
  refine wpAnyH_take (i := 10) (oi := ⟨_, _, _, _, _, _⟩) (v := ?v10) rfl (by kernel_rfl) (by kernel_rfl) (by kernel_rfl) (fun _ _ _ h => h) (Or.inl ⟨by rfl, ?hy10⟩) (by assumption) ?rest10
  case hy10 => (intro w hSw; (try dsimp only at hSw); go_simp; try with_reducible rfl)
  (try simp only [Act.put, List.setIfInBounds_toArray, List.set_cons_zero, List.set_cons_succ])
  refine wpAnyH_take (i := 11) (oi := ⟨_, _, _, _, _, _⟩) (v := ?v11) rfl (by kernel_rfl) (by kernel_rfl) (by kernel_rfl) (fun _ _ _ h => h) (Or.inl ⟨by rfl, ?hy11⟩) (by assumption) ?rest11
  case hy11 => (intro w hSw; (try dsimp only at hSw); go_simp; try with_reducible rfl)
  (try simp only [Act.put, List.setIfInBounds_toArray, List.set_cons_zero, List.set_cons_succ])
  refine wpAnyH_take (i := 12) (oi := ⟨_, _, _, _, _, _⟩) (v := ?v12) rfl (by kernel_rfl) (by kernel_rfl) (by kernel_rfl) (fun _ _ _ h => h) (Or.inl ⟨by rfl, ?hy12⟩) (by assumption) ?rest12
  case hy12 => (intro w hSw; (try dsimp only at hSw); go_simp; try with_reducible rfl)
  (try simp only [Act.put, List.setIfInBounds_toArray, List.set_cons_zero, List.set_cons_succ])
  refine wpAnyH_take (i := 13) (oi := ⟨_, _, _, _, _, _⟩) (v := ?v13) rfl (by kernel_rfl) (by kernel_rfl) (by kernel_rfl) (fun _ _ _ h => h) (Or.inl ⟨by rfl, ?hy13⟩) (by assumption) ?rest13
  case hy13 => (intro w hSw; (try dsimp only at hSw); go_simp; try with_reducible rfl)
  (try simp only [Act.put, List.setIfInBounds_toArray, List.set_cons_zero, List.set_cons_succ])
  refine wpAnyH_take (i := 14) (oi := ⟨_, _, _, _, _, _⟩) (v := ?v14) rfl (by kernel_rfl) (by kernel_rfl) (by kernel_rfl) (fun _ _ _ h => h) (Or.inl ⟨by rfl, ?hy14⟩) (by assumption) ?rest14
  case hy14 => (intro w hSw; (try dsimp only at hSw); go_simp; try with_reducible rfl)
  (try simp only [Act.put, List.setIfInBounds_toArray, List.set_cons_zero, List.set_cons_succ])
  refine wpAnyH_take (i := 15) (oi := ⟨_, _, _, _, _, _⟩) (v := ?v15) rfl (by kernel_rfl) (by kernel_rfl) (by kernel_rfl) (fun _ _ _ h => h) (Or.inl ⟨by rfl, ?hy15⟩) (by assumption) ?rest15
  case hy15 => (intro w hSw; (try dsimp only at hSw); go_simp; try with_reducible rfl)
  (try simp only [Act.put, List.setIfInBounds_toArray, List.set_cons_zero, List.set_cons_succ])
  refine wpAnyH_take (i := 16) (oi := ⟨_, _, _, _, _, _⟩) (v := ?v16) rfl (by kernel_rfl) (by kernel_rfl) (by kernel_rfl) (fun _ _ _ h => h) (Or.inl ⟨by rfl, ?hy16⟩) (by assumption) ?rest16
  case hy16 => (intro w hSw; (try dsimp only at hSw); go_simp; try with_reducible rfl)
  (try simp only [Act.put, List.setIfInBounds_toArray, List.set_cons_zero, List.set_cons_succ])
  refine wpAnyH_take (i := 17) (oi := ⟨_, _, _, _, _, _⟩) (v := ?v17) rfl (by kernel_rfl) (by kernel_rfl) (by kernel_rfl) (fun _ _ _ h => h) (Or.inl ⟨by rfl, ?hy17⟩) (by assumption) ?rest17
  case hy17 => (intro w hSw; (try dsimp only at hSw); go_simp; try with_reducible rfl)
  (try simp only [Act.put, List.setIfInBounds_toArray, List.set_cons_zero, List.set_cons_succ])
  refine wpAnyH_take (i := 18) (oi := ⟨_, _, _, _, _, _⟩) (v := ?v18) rfl (by kernel_rfl) (by kernel_rfl) (by kernel_rfl) (fun _ _ _ h => h) (Or.inl ⟨by rfl, ?hy18⟩) (by assumption) ?rest18
  case hy18 => (intro w hSw; (try dsimp only at hSw); go_simp; try with_reducible rfl)
  (try simp only [Act.put, List.setIfInBounds_toArray, List.set_cons_zero, List.set_cons_succ])
  refine wpAnyH_take (i := 19) (oi := ⟨_, _, _, _, _, _⟩) (v := ?v19) rfl (by kernel_rfl) (by kernel_rfl) (by kernel_rfl) (fun _ _ _ h => h) (Or.inl ⟨by rfl, ?hy19⟩) (by assumption) ?rest19
  case hy19 => (intro w hSw; (try dsimp only at hSw); go_simp; try with_reducible rfl)
  (try simp only [Act.put, List.setIfInBounds_toArray, List.set_cons_zero, List.set_cons_succ])
  refine wpAnyH_take (i := 20) (oi := ⟨_, _, _, _, _, _⟩) (v := ?v20) rfl (by kernel_rfl) (by kernel_rfl) (by kernel_rfl) (fun _ _ _ h => h) (Or.inl ⟨by rfl, ?hy20⟩) (by assumption) ?rest20
  case hy20 => (intro w hSw; (try dsimp only at hSw); go_simp; try with_reducible rfl)
  (try simp only [Act.put, List.setIfInBounds_toArray, List.set_cons_zero, List.set_cons_succ])
  refine wpAnyH_take (i := 21) (oi := ⟨_, _, _, _, _, _⟩) (v := ?v21) rfl (by kernel_rfl) (by kernel_rfl) (by kernel_rfl) (fun _ _ _ h => h) (Or.inl ⟨by rfl, ?hy21⟩) (by assumption) ?rest21
  case hy21 => (intro w hSw; (try dsimp only at hSw); go_simp; try with_reducible rfl)
  (try simp only [Act.put, List.setIfInBounds_toArray, List.set_cons_zero, List.set_cons_succ])
  refine wpAnyH_take (i := 22) (oi := ⟨_, _, _, _, _, _⟩) (v := ?v22) rfl (by kernel_rfl) (by kernel_rfl) (by kernel_rfl) (fun _ _ _ h => h) (Or.inl ⟨by rfl, ?hy22⟩) (by assumption) ?rest22
  case hy22 => (intro w hSw; (try dsimp only at hSw); go_simp; try with_reducible rfl)
  (try simp only [Act.put, List.setIfInBounds_toArray, List.set_cons_zero, List.set_cons_succ])
  refine wpAnyH_ready (rs := [23]) (by kernel_rfl) (by simp) ?_
  refine AllReadyH.cons (o := ⟨_, _, _, _, _, _⟩) rfl (fun K hK => ?_) AllReadyH.nil
  go_simp
  refine (hsx.out _).mono ?_
  rintro e wx ⟨A9, c9, rfl, ho9, hb9⟩
  have hB9 := hHeld.2.2.trans (hb9.mono hHeld.2.2.size)
  have hcv9 := run_string_rd (P := Try.prog) wx 28 9 5 Try.underlying28 Try.underlying5 Try.underlying9 A9 128 c9 s7 ho9.rd hl7.out
  clear ho9 hb9
  (try go_wp2_with fail)
  refine hK.out _ _ ?_ (fun hHeld2 => ?_)
  · (try dsimp only)
    (first | exact hHeld | exact hcs.out _ hB9)
  clear hK K
  replace hHeld := hHeld2
  clear hHeld2
  (try simp only [Act.put, List.setIfInBounds_toArray, List.set_cons_zero, List.set_cons_succ])
  refine wpAnyH_ready (rs := [24]) (by kernel_rfl) (by simp) ?_
  refine AllReadyH.cons (o := ⟨_, _, _, _, _, _⟩) rfl (fun K hK => ?_) AllReadyH.nil
  go_simp
  refine hK.out _ _ ?_ (fun hHeld2 => ?_)
  · (try dsimp only)
    (first | exact hHeld | exact hcs.out _ hB9)
  clear hK K
  replace hHeld := hHeld2
  clear hHeld2
  (try simp only [Act.put, List.setIfInBounds_toArray, List.set_cons_zero, List.set_cons_succ])
  refine wpAnyH_take (i := 25) (oi := ⟨_, _, _, _, _, _⟩) (v := ?v23) rfl (by kernel_rfl) (by kernel_rfl) (by kernel_rfl) (fun _ _ _ h => h) (Or.inl ⟨by rfl, ?hy23⟩) (by assumption) ?rest23
  case hy23 => (intro w hSw; (try dsimp only at hSw); go_simp; try with_reducible rfl)
  (try simp only [Act.put, List.setIfInBounds_toArray, List.set_cons_zero, List.set_cons_succ])
  refine wpAnyH_take (i := 26) (oi := ⟨_, _, _, _, _, _⟩) (v := ?v24) rfl (by kernel_rfl) (by kernel_rfl) (by kernel_rfl) (fun _ _ _ h => h) (Or.inl ⟨by rfl, ?hy24⟩) (by assumption) ?rest24
  case hy24 => (intro w hSw; (try dsimp only at hSw); go_simp; try with_reducible rfl)
  (try simp only [Act.put, List.setIfInBounds_toArray, List.set_cons_zero, List.set_cons_succ])
  refine wpAnyH_take (i := 27) (oi := ⟨_, _, _, _, _, _⟩) (v := ?v25) rfl (by kernel_rfl) (by kernel_rfl) (by kernel_rfl) (fun _ _ _ h => h) (Or.inl ⟨by rfl, ?hy25⟩) (by assumption) ?rest25
  case hy25 => (intro w hSw; (try dsimp only at hSw); go_simp; try with_reducible rfl)
  (try simp only [Act.put, List.setIfInBounds_toArray, List.set_cons_zero, List.set_cons_succ])
  refine wpAnyH_take (i := 28) (oi := ⟨_, _, _, _, _, _⟩) (v := ?v26) rfl (by kernel_rfl) (by kernel_rfl) (by kernel_rfl) (fun _ _ _ h => h) (Or.inl ⟨by rfl, ?hy26⟩) (by assumption) ?rest26
  case hy26 => (intro w hSw; (try dsimp only at hSw); go_simp; try with_reducible rfl)
  (try simp only [Act.put, List.setIfInBounds_toArray, List.set_cons_zero, List.set_cons_succ])
  refine wpAnyH_take (i := 29) (oi := ⟨_, _, _, _, _, _⟩) (v := ?v27) rfl (by kernel_rfl) (by kernel_rfl) (by kernel_rfl) (fun _ _ _ h => h) (Or.inl ⟨by rfl, ?hy27⟩) (by assumption) ?rest27
  case hy27 => (intro w hSw; (try dsimp only at hSw); go_simp; try with_reducible rfl)
  (try simp only [Act.put, List.setIfInBounds_toArray, List.set_cons_zero, List.set_cons_succ])
  refine wpAnyH_take (i := 30) (oi := ⟨_, _, _, _, _, _⟩) (v := ?v28) rfl (by kernel_rfl) (by kernel_rfl) (by kernel_rfl) (fun _ _ _ h => h) (Or.inl ⟨by rfl, ?hy28⟩) (by assumption) ?rest28
  case hy28 => (intro w hSw; (try dsimp only at hSw); go_simp; try with_reducible rfl)
  (try simp only [Act.put, List.setIfInBounds_toArray, List.set_cons_zero, List.set_cons_succ])
  refine wpAnyH_take (i := 31) (oi := ⟨_, _, _, _, _, _⟩) (v := ?v29) rfl (by kernel_rfl) (by kernel_rfl) (by kernel_rfl) (fun _ _ _ h => h) (Or.inl ⟨by rfl, ?hy29⟩) (by assumption) ?rest29
  case hy29 => (intro w hSw; (try dsimp only at hSw); go_simp; try with_reducible rfl)
  (try simp only [Act.put, List.setIfInBounds_toArray, List.set_cons_zero, List.set_cons_succ])
  refine wpAnyH_take (i := 32) (oi := ⟨_, _, _, _, _, _⟩) (v := ?v30) rfl (by kernel_rfl) (by kernel_rfl) (by kernel_rfl) (fun _ _ _ h => h) (Or.inl ⟨by rfl, ?hy30⟩) (by assumption) ?rest30
  case hy30 => (intro w hSw; (try dsimp only at hSw); go_simp; try with_reducible rfl)
  (try simp only [Act.put, List.setIfInBounds_toArray, List.set_cons_zero, List.set_cons_succ])
  refine wpAnyH_take (i := 33) (oi := ⟨_, _, _, _, _, _⟩) (v := ?v31) rfl (by kernel_rfl) (by kernel_rfl) (by kernel_rfl) (fun _ _ _ h => h) (Or.inl ⟨by rfl, ?hy31⟩) (by assumption) ?rest31
  case hy31 => (intro w hSw; (try dsimp only at hSw); go_simp; try with_reducible rfl)
  (try simp only [Act.put, List.setIfInBounds_toArray, List.set_cons_zero, List.set_cons_succ])
  refine wpAnyH_take (i := 34) (oi := ⟨_, _, _, _, _, _⟩) (v := ?v32) rfl (by kernel_rfl) (by kernel_rfl) (by kernel_rfl) (fun _ _ _ h => h) (Or.inl ⟨by rfl, ?hy32⟩) (by assumption) ?rest32
  case hy32 => (intro w hSw; (try dsimp only at hSw); go_simp; try with_reducible rfl)
  (try simp only [Act.put, List.setIfInBounds_toArray, List.set_cons_zero, List.set_cons_succ])
  refine wpAnyH_take (i := 35) (oi := ⟨_, _, _, _, _, _⟩) (v := ?v33) rfl (by kernel_rfl) (by kernel_rfl) (by kernel_rfl) (fun _ _ _ h => h) (Or.inl ⟨by rfl, ?hy33⟩) (by assumption) ?rest33
  case hy33 => (intro w hSw; (try dsimp only at hSw); go_simp; try with_reducible rfl)
  (try simp only [Act.put, List.setIfInBounds_toArray, List.set_cons_zero, List.set_cons_succ])
  refine wpAnyH_ready (rs := [36]) (by kernel_rfl) (by simp) ?_
  refine AllReadyH.cons (o := ⟨_, _, _, _, _, _⟩) rfl (fun K hK => ?_) AllReadyH.nil
  go_simp
  refine (hbl.out _).mono ?_
  rintro e wx ⟨rfl, rfl⟩
  (try go_wp2_with fail)
  refine hK.out _ _ ?_ (fun hHeld2 => ?_)
  · (try dsimp only)
    (first | exact hHeld | exact hcs.out _ hB9)
  clear hK K
  replace hHeld := hHeld2
  clear hHeld2
  (try simp only [Act.put, List.setIfInBounds_toArray, List.set_cons_zero, List.set_cons_succ])
  refine wpAnyH_take (i := 37) (oi := ⟨_, _, _, _, _, _⟩) (v := ?v34) rfl (by kernel_rfl) (by kernel_rfl) (by kernel_rfl) (fun _ _ _ h => h) (Or.inl ⟨by rfl, ?hy34⟩) (by assumption) ?rest34
  case hy34 => (intro w hSw; (try dsimp only at hSw); go_simp; try with_reducible rfl)
  (try simp only [Act.put, List.setIfInBounds_toArray, List.set_cons_zero, List.set_cons_succ])
  refine wpAnyH_take (i := 38) (oi := ⟨_, _, _, _, _, _⟩) (v := ?v35) rfl (by kernel_rfl) (by kernel_rfl) (by kernel_rfl) (fun _ _ _ h => h) (Or.inl ⟨by rfl, ?hy35⟩) (by assumption) ?rest35
  case hy35 => (intro w hSw; (try dsimp only at hSw); go_simp; try with_reducible rfl)
  (try simp only [Act.put, List.setIfInBounds_toArray, List.set_cons_zero, List.set_cons_succ])
  refine wpAnyH_take (i := 39) (oi := ⟨_, _, _, _, _, _⟩) (v := ?v36) rfl (by kernel_rfl) (by kernel_rfl) (by kernel_rfl) (fun _ _ _ h => h) (Or.inl ⟨by rfl, ?hy36⟩) (by assumption) ?rest36
  case hy36 => (intro w hSw; (try dsimp only at hSw); go_simp; try with_reducible rfl)
  (try simp only [Act.put, List.setIfInBounds_toArray, List.set_cons_zero, List.set_cons_succ])
  refine wpAnyH_done (by kernel_rfl) ?_ _
  have hBf := hHeld.2.2
  clear hHeld
  go_wp2
  go_ret
  exact ⟨by simp, hB6.trans (hBf.mono hB6.size)⟩
end
section
/-
  THE WALKS over the reference of the sums: Blocks, Place, Sum.
-/
open Go.RowKit

def blkN (k : Nat) : Nat := k / 17 * 16 + (k % 17 - 1)
theorem blocksI_nat (k : Nat) : blocksI (k : Int) = ((blkN k : Nat) : Int) := by
  unfold blocksI blkN
  split <;> omega
theorem blocks_step (k : Nat) : blkN (k + 1) = blkN k + (if k % 17 = 0 then 0 else 1) := by
  unfold blkN
  split <;> omega
theorem blkN_le (k : Nat) : blkN k ≤ k := by unfold blkN; omega
set_option maxHeartbeats 1000000 in
theorem rsu_blocks (n : Int) (w : World) (hn : n ≤ 9223372036854775807) : Calls Try.prog 15 #[.int .i64 n] w fun e w' => e = .returned (.int .i64 (blocksI n)) ∧ w = w' := by
  by_cases h : n < 1
  · have e0 : blocksI n = 0 := by unfold blocksI; rw [if_pos h]
    rw [e0]
    go_enter Try.func15, Try.ntmps15
    go_wp2
    refine wp_loop_rounds 1 ?_
    rw [rounds_succ]
    go_wp2
    go_ret
    exact ⟨rfl, rfl⟩
  · obtain ⟨n, rfl⟩ := Int.eq_ofNat_of_zero_le (by omega : 0 ≤ n)
    rw [blocksI_nat]
    go_enter Try.func15, Try.ntmps15
    go_wp2
    go_loop [3, 4] (fun p q => ∃ k : Nat, k ≤ n ∧ q = .int .i64 k ∧ p = .int .i64 ((blkN k : Nat) : Int)) (fun _ q => (n - intOf q).toNat)
    case atStart => exact ⟨0, by omega, rfl, rfl⟩
    case round =>
      obtain ⟨k, hk, rfl, rfl⟩ := hrel
      have hst := blocks_step k
      have hb := blkN_le k
      by_cases hlt : k < n
      · by_cases h17 : k % 17 = 0
        · rw [if_pos h17] at hst
          have hs := Lib.hid hst
          have h17b : ((k : Int) % 17 != 0) = false := by simp; omega
          clear hst
          go_wp2
          go_round
          case rel => exact ⟨k + 1, by omega, by go_num, by rw [hs.out, Nat.add_zero]⟩
          case measure => simp [intOf]; omega
        · rw [if_neg h17] at hst
          have hs := Lib.hid hst
          have h17b : ((k : Int) % 17 != 0) = true := by simp; omega
          clear hst
          go_wp2
          go_round
          case rel => exact ⟨k + 1, by omega, by go_num, by rw [hs.out]; go_num⟩
          case measure => simp [intOf]; omega
      · obtain rfl : k = n := by omega
        clear hst
        go_wp2
        go_ret
        exact ⟨rfl, rfl⟩
theorem rsu_place_bad (b : Int) (w : World) (h : b < 0 ∨ 4096 ≤ b) : Calls Try.prog 12 #[.int .i64 b] w fun e w' => e = .returned (.tuple #[.int .i64 0, .int .i64 0, .int .i64 1]) ∧ w = w' := by
  have h' : b < 0 ∨ (0 ≤ b ∧ 4095 < b) := by omega
  clear h
  rcases h' with h | ⟨h1, h2⟩
  all_goals
    go_enter Try.func12, Try.ntmps12
    go_wp2
    go_ret3
    exact ⟨by simp, rfl⟩
theorem rsu_place (b : Nat) (w : World) (h : b < 4096) : Calls Try.prog 12 #[.int .i64 b] w fun e w' => e = .returned (.tuple #[.int .i64 (sumAt b : Nat), .int .i64 (dataAt b : Nat), .int .i64 0]) ∧ w = w' := by
  unfold sumAt dataAt
  have h2 : (b : Int) ≤ 4095 := by omega
  go_enter Try.func12, Try.ntmps12
  go_wp2
  go_ret3
  exact ⟨by (simp <;> omega), rfl⟩
theorem rsu_four (x : Int) (w : World) : Calls Try.prog 34 #[.int .i64 x] w fun e w' => ∃ A c, e = .returned (.slice A 4 c) ∧ Own w' 5 w.heap.size (.slice A 4 c) (leBytes (u32I x) 4) ∧ Below w.heap.size w w' := by
  have w1 := u32_wrap x
  have w3 := u64_u32 _ (u32I_lt x)
  have p1 := rput_all (u32I x) 4 w (by have := u32I_lt x; omega) (by omega) (by omega)
  have hlt := Lib.hid (u32I_lt x)
  rw [show ((4 : Nat) : Int) = 4 from rfl] at p1
  go_enter Try.func34, Try.ntmps34
  go_wp2_with fail
  refine p1.mono ?_
  rintro e w' ⟨hb, _, h2⟩
  obtain ⟨A, c, rfl, ho⟩ := h2 hlt.out
  go_wp2
  go_ret
  exact ⟨A, c, rfl, ho, hb⟩
set_option maxRecDepth 10000 in
set_option maxHeartbeats 2000000 in
theorem rsu_sum (disk block : Int) (A : Option Addr) (L c : Nat) (bs : Bytes) (w : World) (hr : Rd w A bs) (hL : bs.length = L) (h47 : L ≤ 140737488351232) :
    Calls Try.prog 17 #[.int .i64 disk, .int .i64 block, .slice A L c] w fun e w' => e = .returned (.int .u32 (sumB disk block bs : Nat)) ∧ Below w.heap.size w w' := by
  have l1 := Lib.hid (leBytes_len 4 (u32I disk))
  have l2 := Lib.hid (leBytes_len 4 (u32I block))
  have f1 := rsu_four disk w
  have f2 : Hid (∀ W, _) := Lib.hid fun W => rsu_four block W
  have hs : Hid (sumB disk block bs = crc 0 (leBytes (u32I disk) 4 ++ leBytes (u32I block) 4 ++ bs)) := Lib.hid rfl
  generalize sumB disk block bs = sm at *
  generalize leBytes (u32I disk) 4 = n1 at *
  generalize leBytes (u32I block) 4 = n2 at *
  replace hr := Lib.hid hr
  replace hL := Lib.hid hL
  go_enter Try.func17, Try.ntmps17
  go_wp2_with fail
  refine f1.mono ?_
  rintro e w1 ⟨A1, c1, rfl, ho1, hb1⟩
  go_wp2_with fail
  refine (f2.out w1).mono ?_
  rintro e w2 ⟨A2, c2, rfl, ho2, hb2⟩
  have ho1 := ho1.below hb2
  have hB2 := below_to hb1 hb2
  clear f1 f2 hb1 hb2
  go_wp2_with (first
    | (at_builtin; refine wpList_append_rd rfl _ _ 28 rfl w.heap.size 5 Try.underlying28 Try.infoU8 _ n1 n2 A2 4 c2 rfl rfl ho1 ho2.rd l2.out (by rw [l1.out]; omega) hB2.size ?_; intro v3 w3 ho3 hg3; have hB3 := hB2.trans (ho1.grow hg3 hB2.size); obtain ⟨A3, c3, rfl, _, _⟩ := ho3.form; have e8 : (n1 ++ n2).length = 8 := (by rw [List.length_append, l1.out, l2.out]); rw [e8] at ho3 ⊢; clear hg3 ho1 ho2 e8)
    | (at_builtin; refine wpList_append_rd rfl _ _ 28 rfl w.heap.size 5 Try.underlying28 Try.infoU8 _ (n1 ++ n2) bs A L c rfl rfl ho3 (hr.out.below hB3) hL.out (by rw [List.length_append, l1.out, l2.out]; omega) hB3.size ?_; intro v4 w4 ho4 hg4; have hB4 := hB3.trans (ho3.grow hg4 hB3.size); clear hg4 ho3))
  obtain ⟨A4, c4, rfl, hr4, _⟩ := ho4.form
  have hcr := rcrc_any A4 _ c4 (n1 ++ n2 ++ bs) 0 w4 hr4 rfl (by omega)
  clear hr4
  go_wp2_with fail
  refine hcr.mono ?_
  rintro e w5 ⟨rfl, rfl⟩
  go_wp2
  go_ret
  exact ⟨by rw [hs.out, List.append_assoc]; rfl, hB4⟩
end
section
/-
  THE WALKS over the reference of the sums: sums, Good.
-/
open Go.RowKit

set_option maxRecDepth 10000 in
set_option maxHeartbeats 2000000 in
theorem rsu_sums (S : Bytes) (n : Nat) (w : World) (hS : S.length = 128) (hn : n < 4096) : Calls Try.prog 46 #[.string ⟨S.toArray⟩, .int .i64 (n : Int)] w fun e w' =>
    e = .returned (.tuple #[.int .u32 ((standP S n).1 : Nat), .int .u32 ((standP S n).2 : Nat)]) ∧ Below w.heap.size w w' := by
  obtain ⟨h1, h2⟩ := stand_lt S n
  have w1 := u32_nat _ h1
  have w2 := u32_nat _ h2
  have hg1 : Hid (∀ W A c, Rd W A S → Calls Try.prog 57 #[.slice A 128 c, .int .i64 (8 * ((n : Int) % 16)), .int .i64 4] W fun e w' => e = .returned (.tuple #[.int .u64 ((standP S n).1 : Nat), .int .i64 0]) ∧ W = w') := Lib.hid fun W A c h => by
    have := rget_ok A 128 c S (n % 16 * 8) 4 W h hS (by omega) (by omega) (by omega)
    rw [show ((n % 16 * 8 : Nat) : Int) = 8 * ((n : Int) % 16) from by omega] at this
    exact this
  have hg2 : Hid (∀ W A c, Rd W A S → Calls Try.prog 57 #[.slice A 128 c, .int .i64 (8 * ((n : Int) % 16) + 4), .int .i64 4] W fun e w' => e = .returned (.tuple #[.int .u64 ((standP S n).2 : Nat), .int .i64 0]) ∧ W = w') := Lib.hid fun W A c h => by
    have := rget_ok A 128 c S (n % 16 * 8 + 4) 4 W h hS (by omega) (by omega) (by omega)
    rw [show ((n % 16 * 8 + 4 : Nat) : Int) = 8 * ((n : Int) % 16) + 4 from by omega] at this
    exact this
  generalize (standP S n).1 = p at *
  generalize (standP S n).2 = q at *
  obtain ⟨ca, wa, hca, hma, hba, hsa, hxa⟩ := ex_bytes (P := Try.prog) w 9 28 5 Try.underlying9 Try.underlying28 Try.underlying5 S
  obtain ⟨cb, wb, hcb, hmb, hbb, hsb, hxb⟩ := ex_bytes (P := Try.prog) wa 9 28 5 Try.underlying9 Try.underlying28 Try.underlying5 S
  rw [hS] at hca hcb
  have hra := hma.rd (by omega)
  have hrb := hmb.rd (by omega)
  have hB := below_to hba hbb
  replace hS := Lib.hid hS
  replace hba := Lib.hid hba
  replace hbb := Lib.hid hbb
  clear hma hmb hsa hxa hsb hxb
  go_enter Try.func46, Try.ntmps46
  go_wp2_with fail
  with_reducible refine (hg1.out wa _ ca hra).mono ?_
  rintro e w' ⟨rfl, rfl⟩
  go_wp2_with fail
  with_reducible refine (hg2.out wb _ cb hrb).mono ?_
  rintro e w' ⟨rfl, rfl⟩
  go_wp2
  go_ret2
  exact ⟨rfl, hB⟩

theorem fits_cases (d n : Nat) (p q : Nat) (x zs : Bytes) (hz : zs = zeroSec) : fitsP d (p, q) n x = ((sumB d n x == p) || (sumB d n x == q) || ((p == 0) && (q == 0) && (x == zs))) := by
  subst hz
  simp only [fitsP]
  cases (sumB d n x == p) <;> cases (sumB d n x == q) <;> simp
set_option maxRecDepth 10000 in
set_option maxHeartbeats 4000000 in
theorem rsu_good (d n : Nat) (S x : Bytes) (w : World) (hS : S.length = 128) (hn : n < 4096) (hx : x.length ≤ 140737488351232) : Calls Try.prog 27 #[.int .i64 (d : Int), .int .i64 (n : Int), .string ⟨S.toArray⟩, .string ⟨x.toArray⟩] w fun e w' =>
    e = .returned (.bool (fitsP d (standP S n) n x)) ∧ Below w.heap.size w w' := by
  have h1 := rsu_sums S n w hS hn
  obtain ⟨zs, hzs⟩ : ∃ zs, zs = zeroSec := ⟨_, rfl⟩
  have hzl : zs.length = 128 := by rw [hzs]; simp [zeroSec]
  have hmk := run_make_rd (P := Try.prog) 28 5 Try.underlying28 Try.infoU8 .i64 .i64 128 (by omega)
  rw [show ((128 : Nat) : Int) = 128 from rfl, show List.replicate 128 (0 : UInt8) = zs from hzs.symm] at hmk
  have hcz : ∀ W : World, (convert 28 9 (.slice (some ⟨W.heap.size, 0, none⟩) 128 128)).run Try.prog (W.alloc (.cells (bVs zs).toArray 5)) = .ok (.string ⟨zs.toArray⟩) (W.alloc (.cells (bVs zs).toArray 5)) := fun W => run_string_rd (P := Try.prog) _ 28 9 5 Try.underlying28 Try.underlying5 Try.underlying9 _ 128 128 zs (Rd.lit W 5 zs (by omega)) hzl
  have hsum : Hid (∀ W A c, Rd W A x → Calls Try.prog 17 #[.int .i64 (d : Int), .int .i64 (n : Int), .slice A x.length c] W fun e w' => e = .returned (.int .u32 (sumB d n x : Nat)) ∧ Below W.heap.size W w') := Lib.hid fun W A c h => rsu_sum d n A x.length c x W h rfl hx
  generalize hpp : standP S n = pp at *
  obtain ⟨p, q⟩ := pp
  rw [fits_cases d n p q x zs hzs]
  have hcv : Hid (∀ W, _) := Lib.hid fun W => ex_bytes (P := Try.prog) W 9 28 5 Try.underlying9 Try.underlying28 Try.underlying5 x
  replace hpp := Lib.hid hpp
  replace hzs := Lib.hid hzs
  replace hzl := Lib.hid hzl
  replace hS := Lib.hid hS
  replace hx := Lib.hid hx
  dsimp only at h1
  generalize sumB d n x = sm at *
  generalize hxl : x.length = xl at *
  replace hxl := Lib.hid hxl
  have key : ∀ (P : Prop), (((sm : Int) == (p : Int)) = true → sm = p → P) → (((sm : Int) == (p : Int)) = false → ¬ sm = p → ((sm : Int) == (q : Int)) = true → sm = q → P) →
      (((sm : Int) == (p : Int)) = false → ¬ sm = p → ((sm : Int) == (q : Int)) = false → ¬ sm = q → ((p : Int) == 0) = false → ¬ p = 0 → P) →
      (((sm : Int) == (p : Int)) = false → ¬ sm = p → ((sm : Int) == (q : Int)) = false → ¬ sm = q → ((p : Int) == 0) = true → p = 0 → ((q : Int) == 0) = false → ¬ q = 0 → P) →
      (((sm : Int) == (p : Int)) = false → ¬ sm = p → ((sm : Int) == (q : Int)) = false → ¬ sm = q → ((p : Int) == 0) = true → p = 0 → ((q : Int) == 0) = true → q = 0 → (x == zs) = true → x = zs → P) →
      (((sm : Int) == (p : Int)) = false → ¬ sm = p → ((sm : Int) == (q : Int)) = false → ¬ sm = q → ((p : Int) == 0) = true → p = 0 → ((q : Int) == 0) = true → q = 0 → (x == zs) = false → ¬ x = zs → P) → P := by
    intro P k1 k2 k3 k4 k5 k6
    by_cases e1 : sm = p
    · exact k1 (by rw [e1]; simp) e1
    have b1 : ((sm : Int) == (p : Int)) = false := beq_eq_false_iff_ne.2 (by omega)
    by_cases e2 : sm = q
    · exact k2 b1 e1 (by rw [e2]; simp) e2
    have b2 : ((sm : Int) == (q : Int)) = false := beq_eq_false_iff_ne.2 (by omega)
    by_cases e3 : p = 0
    · have b3 : ((p : Int) == 0) = true := by rw [e3]; rfl
      by_cases e4 : q = 0
      · have b4 : ((q : Int) == 0) = true := by rw [e4]; rfl
        by_cases e5 : x = zs
        · exact k5 b1 e1 b2 e2 b3 e3 b4 e4 (by rw [e5]; simp) e5
        · exact k6 b1 e1 b2 e2 b3 e3 b4 e4 (by simpa using e5) e5
      · exact k4 b1 e1 b2 e2 b3 e3 (beq_eq_false_iff_ne.2 (by omega)) e4
    · exact k3 b1 e1 b2 e2 (beq_eq_false_iff_ne.2 (by omega)) e3
  go_enter Try.func27, Try.ntmps27
  go_wp2_with fail
  refine h1.mono ?_
  rintro e w1 ⟨rfl, hb1⟩
  obtain ⟨ca, wa, hca, hma, hba, hsa, hxa⟩ := hcv.out w1
  clear hsa hxa
  have hra := hma.rd (by rw [hxl.out]; have := hx.out; omega)
  have hBa := below_to hb1 hba
  have hct := hsum.out wa _ ca hra
  clear h1 hma hba hcv
  go_wp2_with fail
  refine hct.mono ?_
  rintro e w2 ⟨rfl, hb2⟩
  have hB2 := below_to hBa hb2
  clear hct hra hca hBa hb1 hb2 hsum
  refine key _ ?_ ?_ ?_ ?_ ?_ ?_ <;> clear key
  · intro b1 e1
    replace e1 := Lib.hid e1
    go_wp2
    go_ret
    exact ⟨by simp [e1.out], hB2⟩
  · intro b1 e1 b2 e2
    replace e1 := Lib.hid e1
    replace e2 := Lib.hid e2
    go_wp2
    go_ret
    exact ⟨by simp [e1.out, e2.out], hB2⟩
  · intro b1 e1 b2 e2 b3 e3
    replace e1 := Lib.hid e1
    replace e2 := Lib.hid e2
    replace e3 := Lib.hid e3
    go_wp2
    go_ret
    exact ⟨by simp [e1.out, e2.out, e3.out], hB2⟩
  · intro b1 e1 b2 e2 b3 e3 b4 e4
    replace e1 := Lib.hid e1
    replace e2 := Lib.hid e2
    replace e3 := Lib.hid e3
    replace e4 := Lib.hid e4
    go_wp2
    go_ret
    exact ⟨by (simp [e1.out, e2.out, e3.out, e4.out]; first | done | (intro h; exact e1.out (h.trans e3.out.symm))), hB2⟩
  · intro b1 e1 b2 e2 b3 e3 b4 e4 b5 e5
    replace e1 := Lib.hid e1
    replace e2 := Lib.hid e2
    replace e3 := Lib.hid e3
    replace e4 := Lib.hid e4
    replace e5 := Lib.hid e5
    go_wp2
    go_ret
    exact ⟨by simp [e3.out, e4.out, e5.out], hB2.alloc hB2.size _⟩
  · intro b1 e1 b2 e2 b3 e3 b4 e4 b5 e5
    replace e1 := Lib.hid e1
    replace e2 := Lib.hid e2
    replace e3 := Lib.hid e3
    replace e4 := Lib.hid e4
    replace e5 := Lib.hid e5
    go_wp2
    go_ret
    exact ⟨by (simp [e1.out, e2.out, e5.out]; first | done | (intro h; exact e1.out (h.trans e3.out.symm))), hB2.alloc hB2.size _⟩
end
end Go.Proofs.Ytikfbhepnnbdoaa

/-
  THE WALK over ashlarlaw01.lives: it answers true.
-/
import Derived.Test.YtnnpdndmcenfeaaOctC
import Derived.Lib.SlBytesConst
namespace Go.Proofs.Ytnnpdndmcenfeaa
open Go.RowKit

set_option maxRecDepth 100000 in
set_option maxHeartbeats 1000000 in
theorem lives01 (w : World) : Calls Try.prog 22 #[] w fun e w' => e = .returned (.bool true) ∧ Below w.heap.size w w' := by
  have kc := fun (w : World) (C : Array Value) (n c : Nat) => Lib.run_convert_bytes_const (P := Try.prog) w 23 5 C n c Try.underlying23 Try.underlying5
  go_enter Try.func22, Try.ntmps22
  go_wp2_with fail
  refine (put_ok 300 2 w (by omega) (by omega) (by decide)).mono ?_
  rintro e w1 ⟨A1, c1, rfl, hown1, hb1⟩
  have hl1 := Rd.lit w1 5 [9, 44, 1] (by decide)
  go_wp2_with fail
  refine (get_ok (some ⟨w1.heap.size, 0, none⟩) 3 3 [9, 44, 1] 1 2 _ hl1 rfl (by omega) (by omega) (by omega)).mono ?_
  rintro e w' ⟨rfl, rfl⟩
  have hown2 := own_lit hown1 (.cells (bVs [9, 44, 1]).toArray 5)
  have hb2 := below_lit hb1 hb1.size (.cells (bVs [9, 44, 1]).toArray 5)
  clear hown1 hb1 hl1
  generalize w1.alloc (.cells (bVs [9, 44, 1]).toArray 5) = w2 at *
  have hl5 := (Rd.lit w2 5 [5] (by decide)).alloc (.cells (bVs [6]).toArray 5)
  have hl6 := Rd.lit2 w2 5 [6] [5] (by decide)
  go_wp2_with fail
  refine (xor_ok (some ⟨w2.heap.size, 0, none⟩) (some ⟨w2.heap.size + 1, 0, none⟩) 1 1 1 1 [5] [6] _ hl5 hl6 rfl rfl rfl (by omega)).mono ?_
  rintro e w3 ⟨A3, c3, rfl, hown3, hb3⟩
  have hown3a := hown2.below (below_to (((Below.refl _ _).alloc (Nat.le_refl _) _).alloc (by simp) _) hb3)
  have hb3a := below_to (below_lit (below_lit hb2 hb2.size (.cells (bVs [5]).toArray 5)) (by have := hb2.size; simp; omega) (.cells (bVs [6]).toArray 5)) hb3
  clear hown2 hb2 hl5 hl6 hb3
  have hl7 := Rd.lit w3 5 [7] (by decide)
  go_wp2_with fail
  refine (with_ok (some ⟨w3.heap.size, 0, none⟩) 1 1 [7] 3 true _ hl7 rfl (by omega) (by omega)).mono ?_
  rintro e w4 ⟨A4, c4, rfl, hown4, hb4⟩
  have hown4a := (own_lit hown3a (.cells (bVs [7]).toArray 5)).below hb4
  have hown4b := (own_lit hown3 (.cells (bVs [7]).toArray 5)).below hb4
  have hb4a := below_to (below_lit hb3a hb3a.size (.cells (bVs [7]).toArray 5)) hb4
  clear hown3a hown3 hb3a hl7 hb4
  have hl8 := Rd.lit w4 5 [7] (by decide)
  have hown5a := own_lit hown4a (.cells (bVs [7]).toArray 5)
  have hown5b := own_lit hown4b (.cells (bVs [7]).toArray 5)
  have hown5c := own_lit hown4 (.cells (bVs [7]).toArray 5)
  have hb5 := below_lit hb4a hb4a.size (.cells (bVs [7]).toArray 5)
  go_wp2_with fail
  refine (free_any (some ⟨w4.heap.size, 0, none⟩) 1 1 [7] 0 8 _ hl8 rfl (by omega) (by omega) (by omega) (by omega)).mono ?_
  rintro e w' ⟨rfl, rfl⟩
  have hfr : freeI [7] 0 8 = some 3 := by decide
  rw [hfr]
  clear hfr hl8 hown4a hown4b hown4 hb4a
  generalize w4.alloc (.cells (bVs [7]).toArray 5) = w5 at *
  have hcv := run_string_rd (P := Try.prog) w5 23 9 5 Try.underlying23 Try.underlying5 Try.underlying9 A1 2 c1 _ hown5a.rd rfl
  have hl9 := Rd.litM w5 5 [49, 50, 51, 52, 53, 54, 55, 56, 57] (9, 10) (by decide)
  go_wp2_with fail
  refine (crc_any (some ⟨w5.heap.size, 0, none⟩) 9 9 [49, 50, 51, 52, 53, 54, 55, 56, 57] 0 _ hl9 rfl (by omega)).mono ?_
  rintro e w6 ⟨rfl, hb6⟩
  have hcrc : crc 0 [49, 50, 51, 52, 53, 54, 55, 56, 57] = 3808858755 := by decide +kernel
  rw [hcrc]
  have hown6b := (own_lit hown5b (.cells (bVs [49, 50, 51, 52, 53, 54, 55, 56, 57]).toArray 5 (9, 10))).below hb6
  have hown6c := (own_lit hown5c (.cells (bVs [49, 50, 51, 52, 53, 54, 55, 56, 57]).toArray 5 (9, 10))).below hb6
  have hb6a := below_to (below_lit hb5 hb5.size (.cells (bVs [49, 50, 51, 52, 53, 54, 55, 56, 57]).toArray 5 (9, 10))) hb6
  clear hcrc hown5b hown5c hb5 hown5a hcv hl9 hb6
  obtain ⟨g3, rfl, _, _, hc3⟩ := hown6b.first (by decide)
  obtain ⟨g4, rfl, _, _, hc4⟩ := hown6c.first (by decide)
  have hc3a : w6.cell? ⟨g3, 0, none⟩ = some (.int .u8 3) := (hc3 0 (by decide)).1
  have hc4a : w6.cell? ⟨g4, 0, none⟩ = some (.int .u8 15) := (hc4 0 (by decide)).1
  clear hc3 hc4 hown6b hown6c
  have hl10 := Rd.lit w6 5 [7] (by decide)
  go_wp2_with fail
  refine (count_any (some ⟨w6.heap.size, 0, none⟩) 1 1 [7] 8 _ hl10 rfl (by omega) (by omega) (by omega)).mono ?_
  rintro e w' ⟨rfl, rfl⟩
  have hct : countI [7] 8 = 3 := by decide
  rw [hct]
  have hb7 := below_lit hb6a hb6a.size (.cells (bVs [7]).toArray 5)
  clear hct hl10 hc3a hc4a hb6a
  generalize w6.alloc (.cells (bVs [7]).toArray 5) = w7 at *
  have hl11 := Rd.lit w7 5 [7] (by decide)
  go_wp2_with fail
  refine (has_any (some ⟨w7.heap.size, 0, none⟩) 1 1 [7] 2 _ hl11 rfl (by omega)).mono ?_
  rintro e w' ⟨rfl, rfl⟩
  have hh : hasI [7] 2 = true := by decide
  rw [hh]
  have hb8 := below_lit hb7 hb7.size (.cells (bVs [7]).toArray 5)
  clear hh
  go_wp2_with fail
  go_ret
  exact ⟨rfl, hb8⟩
end Go.Proofs.Ytnnpdndmcenfeaa

/-
  THE WALK of lives of layer 4.
-/
import Derived.Test.YtnnpdndmcenfeaaSupN
import Derived.Test.YtnnpdndmcenfeaaSupE
import Derived.Test.YtnnpdndmcenfeaaMemR
namespace Go.Proofs.Ytnnpdndmcenfeaa
open Go.RowKit

def livS : Sup := ⟨1, 3, 0, 1, 1, -1, 0, 0⟩
set_option maxRecDepth 100000 in
theorem liv_str : (supBytes livS).take 20 = [65, 83, 72, 76, 1, 0, 0, 0, 0, 0, 0, 0, 3, 0, 1, 255, 1, 0, 0, 0] := by
  rw [supBytes, List.take_append_of_le_length (by rw [bodyL_len]; omega), bodyL, padL, List.take_append_of_le_length (by rw [preL_len8]; omega)]
  rfl
theorem Rd.take {w : World} {A : Option Addr} {bs : List UInt8} (h : Rd w A bs) (n : Nat) : Rd w A (bs.take n) :=
  ⟨by have := h.1; simp; omega, (fun e => by rw [h.2.1 e]; simp), fun a e i hi => by
    have := h.2.2 a e i (by simp at hi; omega)
    rw [this]
    simp⟩

set_option maxRecDepth 100000 in
set_option maxHeartbeats 4000000 in
theorem lives04 (w : World) : Calls Try.prog 39 #[] w fun e w' => e = .returned (.bool true) ∧ Below w.heap.size w w' := by
  have hrt : rightB livS = true := by decide
  have hsl : supL livS = supBytes livS := by unfold supL; rw [hrt]; rfl
  have hse : supE livS = 0 := by unfold supE; rw [hrt]; rfl
  have hlen := supBytes_len livS
  go_enter Try.func39, Try.ntmps39
  go_wp2_with fail
  refine (enc_u livS _).mono ?_
  rintro e w1 ⟨A1, c1, rfl, ho1, hb1⟩
  rw [hsl, hlen] at ho1
  simp only [hsl, hlen, hse]
  clear hsl hse
  have hrow1 := hrow_keep (heap_alloc_new w (.cells #[.int .i64 1, .int .i64 3, .int .i64 0, .int .i64 1, .int .i64 1, .int .i64 (-1), .int .i64 0, .int .i64 0] 47)) hb1
  have hB1 := (below_made' w _).trans (hb1.mono (by simp))
  clear hb1
  have HL := Lib.hid hlen
  clear hlen
  go_wp2_with fail
  refine (dec_u A1 128 c1 (supBytes livS) w1 ho1.rd HL.out ho1.cap).mono ?_
  rintro e w2 ⟨rfl, hb2⟩
  obtain ⟨hk, hd⟩ := decOK_sup livS hrt
  simp only [hd, decE_ok hk]
  simp only [livS]
  clear hk hd
  have ho2 := ho1.below hb2
  have hrow2 := hrow_keep hrow1 hb2
  have hB2 := hB1.trans (hb2.mono hB1.size)
  clear ho1 hrow1 hB1 hb2
  go_wp2_with fail
  refine (dec_u none 0 0 [] _ (Rd.nil _) rfl (by omega)).mono ?_
  rintro e w3 ⟨rfl, hb3⟩
  have hkn : decOK [] = false := rfl
  simp only [decS_bad hkn, decE_bad hkn]
  simp only [noSup]
  clear hkn
  have hb23 := (below_made' w2 (.cells #[.int .i64 1, .int .i64 3, .int .i64 0, .int .i64 1, .int .i64 1, .int .i64 (-1), .int .i64 0, .int .i64 0] 47)).trans (hb3.mono (by simp))
  have hs4 := hrow_keep hrow2 hb23
  have ht4 := hrow_keep (heap_alloc_new w2 (.cells #[.int .i64 1, .int .i64 3, .int .i64 0, .int .i64 1, .int .i64 1, .int .i64 (-1), .int .i64 0, .int .i64 0] 47)) hb3
  have hB4 := hB2.trans (hb23.mono hB2.size)
  have hr4 := ((ho2.below hb23).rd.take 20).alloc (.cells #[.int .i64 0, .int .i64 0, .int .i64 0, .int .i64 0, .int .i64 0, .int .i64 0, .int .i64 0, .int .i64 0] 47)
  rw [liv_str] at hr4
  have sA := fun cc => run_string_rd (P := Try.prog) _ 23 9 5 Try.underlying23 Try.underlying5 Try.underlying9 A1 20 cc _ hr4 rfl
  have hcap := ho2.cap
  obtain ⟨c0, c1_, c2, c3, c4, c5, c6, c7, -⟩ := row8_cells w3 _ _ _ _ _ _ _ _ _ _ hs4
  obtain ⟨d0, d1, d2, d3, d4, d5, d6, d7, -⟩ := row8_cells w3 _ _ _ _ _ _ _ _ _ _ ht4
  obtain ⟨-, g1, hA1, -, -⟩ := ho2.some_ (i := 0) (by rw [HL.out]; omega)
  subst hA1
  have l1 := lt_of_row hs4
  have l2 := lt_of_row ht4
  clear hs4 ht4 hr4 hb23 hb3 hB2 hrow2 ho2 hrt
  generalize w2.heap.size = g2 at *
  clear w2
  go_wp2_with fail
  refine (slot_any 3 _).mono ?_
  rintro e w5 ⟨rfl, rfl⟩
  have h31 : bits .and .i64 3 1 = 1 := and_one_i64 3 (by omega) (by omega)
  go_wp2_with fail
  refine (right_any livS _).mono ?_
  rintro e w5 ⟨rfl, hb5⟩
  have hrt : rightB livS = true := by decide
  rw [hrt]
  go_wp2_with fail
  go_ret
  exact ⟨rfl, (hB4.trans ((below_made' w3 _).mono hB4.size)).trans (hb5.mono (by have := hB4.size; simp; omega))⟩
end Go.Proofs.Ytnnpdndmcenfeaa

/-
  THE WALK of SuperBack: what was encoded is decoded.
-/
import Derived.Test.YtnnpdndmcenfeaaSupLv
namespace Go.Proofs.Ytnnpdndmcenfeaa
open Go.RowKit

set_option maxRecDepth 100000 in
set_option maxHeartbeats 2000000 in
theorem superBack_walk (s : Sup) (W : World) :
    Calls Try.prog 13 #[(.agg #[.int .i64 s.gen, .int .i64 s.members, .int .i64 s.disk, .int .i64 s.stripes, .int .i64 s.logs, .int .i64 s.spare, .int .i64 s.mark, .int .i64 s.cursor])] W fun e W' => e = .returned (.bool true) ∧ Below W.heap.size W W' := by
  obtain ⟨r, hr⟩ : ∃ r, r = rightB s := ⟨_, rfl⟩
  have HR := Lib.hid hr
  clear hr
  go_enter Try.func13, Try.ntmps13
  go_wp2_with fail
  refine (enc_u s _).mono ?_
  rintro e w1 ⟨A1, c1, rfl, ho1, hb1⟩
  have hrow1 := hrow_keep (heap_alloc_new W (.cells #[.int .i64 s.gen, .int .i64 s.members, .int .i64 s.disk, .int .i64 s.stripes, .int .i64 s.logs, .int .i64 s.spare, .int .i64 s.mark, .int .i64 s.cursor] 47)) hb1
  have hB1 := (below_made' W _).trans (hb1.mono (by simp))
  clear hb1
  cases r with
  | false =>
    have hsl : supL s = [] := by unfold supL; rw [← HR.out]; rfl
    have hse : supE s = 1 := by unfold supE; rw [← HR.out]; rfl
    simp only [hsl, hse]
    clear hsl hse ho1
    go_wp2_with fail
    refine (lives04 _).mono ?_
    rintro e w2 ⟨rfl, hb2⟩
    have hrow2 := hrow_keep hrow1 hb2
    obtain ⟨c0, c1, c2, c3, c4, c5, c6, c7, -⟩ := row8_cells w2 _ _ _ _ _ _ _ _ _ _ hrow2
    have hB2 := hB1.trans (hb2.mono hB1.size)
    clear hrow1 hrow2 hB1 hb2
    go_wp2_with fail
    refine (right_any s _).mono ?_
    rintro e w3 ⟨rfl, hb3⟩
    rw [← HR.out]
    have hB3 := hB2.trans (hb3.mono hB2.size)
    clear hB2 hb3 c0 c1 c2 c3 c4 c5 c6 c7
    go_wp2_with fail
    go_ret
    exact ⟨rfl, hB3⟩
  | true =>
    have hsl : supL s = supBytes s := by unfold supL; rw [← HR.out]; rfl
    have hse : supE s = 0 := by unfold supE; rw [← HR.out]; rfl
    have hlen := supBytes_len s
    rw [hsl, hlen] at ho1
    simp only [hsl, hse, hlen]
    have HLEN := Lib.hid hlen
    clear hsl hse hlen
    go_wp2_with fail
    refine (lives04 _).mono ?_
    rintro e w2 ⟨rfl, hb2⟩
    have hrow2 := hrow_keep hrow1 hb2
    have hB2 := hB1.trans (hb2.mono hB1.size)
    have ho2 := ho1.below hb2
    clear hrow1 hB1 hb2 ho1
    go_wp2_with fail
    refine (dec_u A1 128 c1 (supBytes s) w2 ho2.rd HLEN.out ho2.cap).mono ?_
    rintro e w3 ⟨rfl, hb3⟩
    obtain ⟨hk, hd⟩ := decOK_sup s HR.out.symm
    simp only [hd, decE_ok hk]
    clear hk hd
    have hrow3 := hrow_keep hrow2 hb3
    have hB3 := hB2.trans (hb3.mono hB2.size)
    have hlt := lt_of_row hrow3
    obtain ⟨c0, c1, c2, c3, c4, c5, c6, c7, -⟩ := row8_cells w3 _ _ _ _ _ _ _ _ _ _ hrow3
    clear hrow2 hrow3 hB2 hb3 ho2
    go_wp2_with fail
    refine (right_any s _).mono ?_
    rintro e w4 ⟨rfl, hb4⟩
    rw [← HR.out]
    have hB4 := (hB3.trans ((below_made' w3 _).mono hB3.size)).trans (hb4.mono (by have := hB3.size; simp; omega))
    clear hB3 hb4 c0 c1 c2 c3 c4 c5 c6 c7
    go_wp2_with fail
    go_ret
    exact ⟨rfl, hB4⟩
end Go.Proofs.Ytnnpdndmcenfeaa

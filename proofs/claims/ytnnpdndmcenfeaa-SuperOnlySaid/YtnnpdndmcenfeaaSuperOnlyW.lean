/-
  THE WALK of SuperOnly: what is decoded is that of those bytes alone.
-/
import Derived.Test.YtnnpdndmcenfeaaSupLv
namespace Go.Proofs.Ytnnpdndmcenfeaa
open Go.RowKit

theorem dec_right {bs : List UInt8} (h : decOK bs = true) : rightB (parseS bs) = true ∧ supBytes (parseS bs) = bs := by
  unfold decOK at h
  simp only [Bool.and_eq_true, decide_eq_true_eq] at h
  exact h.2

set_option maxRecDepth 100000 in
set_option maxHeartbeats 2000000 in
theorem superOnly_walk (A : Option Addr) (n c : Nat) (bs : List UInt8) (W : World) (hr : Rd W A bs) (hn : bs.length = n) (hc : n ≤ c) :
    Calls Try.prog 14 #[.slice A n c] W fun e W' => e = .returned (.bool true) ∧ Below W.heap.size W W' := by
  have HR := Lib.hid hr
  have HN := Lib.hid hn
  clear hr hn
  go_enter Try.func14, Try.ntmps14
  go_wp2_with fail
  refine (dec_u A n c bs W HR.out HN.out hc).mono ?_
  rintro e w1 ⟨rfl, hb1⟩
  cases hk : decOK bs with
  | false =>
    rw [decS_bad hk, decE_bad hk]
    simp only [noSup]
    clear hk
    go_wp2_with fail
    refine (lives04 _).mono ?_
    rintro e w2 ⟨rfl, hb2⟩
    have hrow := hrow_keep (heap_alloc_new w1 (.cells #[.int .i64 0, .int .i64 0, .int .i64 0, .int .i64 0, .int .i64 0, .int .i64 0, .int .i64 0, .int .i64 0] 47)) hb2
    obtain ⟨c0, c1, c2, c3, c4, c5, c6, c7, -⟩ := row8_cells w2 _ _ _ _ _ _ _ _ _ _ hrow
    have hB := (hb1.trans ((below_made' w1 _).mono hb1.size)).trans (hb2.mono (by have := hb1.size; simp; omega))
    clear hrow hb2
    go_wp2_with fail
    go_ret
    exact ⟨rfl, hB⟩
  | true =>
    obtain ⟨h1, h2⟩ := dec_right hk
    rw [decS_ok hk, decE_ok hk]
    clear hk
    obtain ⟨s, hs⟩ : ∃ s, s = parseS bs := ⟨_, rfl⟩
    rw [← hs] at h1 h2
    rw [← hs]
    clear hs
    have HS := Lib.hid h2
    have H1 := Lib.hid h1
    clear h1 h2
    go_wp2_with fail
    refine (lives04 _).mono ?_
    rintro e w2 ⟨rfl, hb2⟩
    have hrow := hrow_keep (heap_alloc_new w1 (.cells #[.int .i64 s.gen, .int .i64 s.members, .int .i64 s.disk, .int .i64 s.stripes, .int .i64 s.logs, .int .i64 s.spare, .int .i64 s.mark, .int .i64 s.cursor] 47)) hb2
    obtain ⟨c0, c1, c2, c3, c4, c5, c6, c7, -⟩ := row8_cells w2 _ _ _ _ _ _ _ _ _ _ hrow
    have hB := (hb1.trans ((below_made' w1 _).mono hb1.size)).trans (hb2.mono (by have := hb1.size; simp; omega))
    clear hrow hb2 hb1
    go_wp2_with fail
    refine (enc_u s _).mono ?_
    rintro e w3 ⟨A3, c3', rfl, ho3, hb3⟩
    have hsl : supL s = bs := by unfold supL; rw [H1.out, if_pos rfl]; exact HS.out
    have hse : supE s = 0 := by unfold supE; rw [H1.out]; rfl
    rw [hsl] at ho3
    simp only [hsl, hse]
    clear hsl hse
    have hB3 := hB.trans (hb3.mono hB.size)
    have sA := run_string_rd (P := Try.prog) w3 23 9 5 Try.underlying23 Try.underlying5 Try.underlying9 A3 bs.length c3' _ ho3.rd rfl
    have sB := run_string_rd (P := Try.prog) w3 23 9 5 Try.underlying23 Try.underlying5 Try.underlying9 A n c _ (HR.out.below hB3) HN.out
    clear c0 c1 c2 c3 c4 c5 c6 c7 ho3 hb3 hB
    go_wp2_with fail
    go_ret
    exact ⟨rfl, hB3⟩
end Go.Proofs.Ytnnpdndmcenfeaa

/-
  THE WALK of the reference's Decode.
-/
import Derived.Test.YtnnpdndmcenfeaaSupE
import Derived.Test.YtnnpdndmcenfeaaSupR
namespace Go.Proofs.Ytnnpdndmcenfeaa
open Go.RowKit

def numI (q : Nat) : Int := if q ≤ 4611686018427387904 then (q : Int) else -1
set_option maxHeartbeats 1000000 in
theorem rnumber (A : Option Addr) (c : Nat) (bs : List UInt8) (o n : Nat) (w : World) (hr : Rd w A bs) (hL : bs.length = 128) (h1 : 1 ≤ n) (h8 : n ≤ 8) (hf : o + n ≤ 128) :
    Calls Try.prog 49 #[.slice A 128 c, .int .i64 o, .int .i64 n] w fun e w' => e = .returned (.int .i64 (numI (fld bs o n))) ∧ w = w' := by
  have HR := Lib.hid hr
  have HL := Lib.hid hL
  clear hr hL
  have he : leNum ((bs.drop o).take n) = fld bs o n := rfl
  by_cases hx : fld bs o n ≤ 4611686018427387904
  · have hv : numI (fld bs o n) = (fld bs o n : Nat) := if_pos hx
    have hwx : IntKind.i64.wrap (fld bs o n : Int) = ((fld bs o n : Nat) : Int) := by
      rw [IntKind.wrap_i64]; omega
    rw [hv]
    go_enter Try.func49, Try.ntmps49
    go_wp2_with fail
    refine (rget_ok A 128 c bs o n w HR.out HL.out h1 h8 hf).mono ?_
    rintro e w1 ⟨rfl, rfl⟩
    rw [he]
    clear he hv
    go_wp2_with fail
    go_ret
    exact ⟨rfl, rfl⟩
  · have hv : numI (fld bs o n) = -1 := if_neg hx
    rw [hv]
    go_enter Try.func49, Try.ntmps49
    go_wp2_with fail
    refine (rget_ok A 128 c bs o n w HR.out HL.out h1 h8 hf).mono ?_
    rintro e w1 ⟨rfl, rfl⟩
    rw [he]
    clear he hv
    go_wp2_with fail
    go_ret
    exact ⟨rfl, rfl⟩
theorem fld_small (bs : List UInt8) (o n : Nat) (h : n ≤ 4) : fld bs o n < 4294967296 := by
  have h1 := leNum_lt ((bs.drop o).take n)
  have hlen : ((bs.drop o).take n).length ≤ 4 := by rw [List.length_take]; omega
  exact Nat.lt_of_lt_of_le h1 (Nat.le_trans (Nat.pow_le_pow_right (by omega) hlen) (by decide))
theorem rnumber4 (A : Option Addr) (c : Nat) (bs : List UInt8) (o n : Nat) (w : World) (hr : Rd w A bs) (hL : bs.length = 128) (h1 : 1 ≤ n) (h4 : n ≤ 4) (hf : o + n ≤ 128) :
    Calls Try.prog 49 #[.slice A 128 c, .int .i64 o, .int .i64 n] w fun e w' => e = .returned (.int .i64 (fld bs o n : Nat)) ∧ w = w' := by
  refine (rnumber A c bs o n w hr hL h1 (by omega) hf).mono ?_
  rintro e w1 ⟨rfl, rfl⟩
  have := fld_small bs o n h4
  refine ⟨?_, rfl⟩
  unfold numI
  rw [if_pos (by omega)]

set_option maxRecDepth 100000 in
set_option maxHeartbeats 2000000 in
theorem rdec_short (A : Option Addr) (L c : Nat) (bs : List UInt8) (w : World) (hL : bs.length = L) (_hmax : L ≤ 9223372036854775807) (h : L ≠ 128) :
    Calls Try.prog 38 #[.slice A L c] w (DecPost w bs) := by
  have hk : decOK bs = false := by unfold decOK; simp; intro h2; omega
  unfold DecPost
  rw [decS_bad hk, decE_bad hk]
  have hne : ((L : Int) != 128) = true := by rw [bne_iff_ne]; omega
  clear hk hL
  go_enter Try.func38, Try.ntmps38
  go_wp2_with fail
  go_returns
  exact ⟨rfl, (Below.refl _ _).alloc (Nat.le_refl _) _⟩

set_option maxRecDepth 100000 in
set_option maxHeartbeats 2000000 in
theorem rdec_main (A : Option Addr) (c : Nat) (bs : List UInt8) (w : World) (hr : Rd w A bs) (hL : bs.length = 128) :
    Calls Try.prog 38 #[.slice A 128 c] w (DecPost w bs) := by
  have HR := Lib.hid hr
  have HL := Lib.hid hL
  clear hr hL
  go_enter Try.func38, Try.ntmps38
  have hr1 := HR.out.alloc (.cells zeroR 47)
  unfold zeroR at hr1
  go_wp2_with fail
  refine (rnumber A c bs 4 8 _ hr1 HL.out (by omega) (by omega) (by omega)).mono ?_
  rintro e w1 ⟨rfl, rfl⟩
  go_wp2_with fail
  refine (rnumber4 A c bs 12 1 _ hr1 HL.out (by omega) (by omega) (by omega)).mono ?_
  rintro e w1 ⟨rfl, rfl⟩
  go_wp2_with fail
  refine (rnumber4 A c bs 13 1 _ hr1 HL.out (by omega) (by omega) (by omega)).mono ?_
  rintro e w1 ⟨rfl, rfl⟩
  go_wp2_with fail
  refine (rnumber4 A c bs 14 1 _ hr1 HL.out (by omega) (by omega) (by omega)).mono ?_
  rintro e w1 ⟨rfl, rfl⟩
  go_wp2_with fail
  refine (rnumber4 A c bs 15 1 _ hr1 HL.out (by omega) (by omega) (by omega)).mono ?_
  rintro e w1 ⟨rfl, rfl⟩
  go_wp2_with fail
  refine (rnumber4 A c bs 16 4 _ hr1 HL.out (by omega) (by omega) (by omega)).mono ?_
  rintro e w1 ⟨rfl, rfl⟩
  go_wp2_with fail
  refine (rnumber4 A c bs 20 4 _ hr1 HL.out (by omega) (by omega) (by omega)).mono ?_
  rintro e w1 ⟨rfl, rfl⟩
  go_wp2_with fail
  refine (rnumber4 A c bs 24 4 _ hr1 HL.out (by omega) (by omega) (by omega)).mono ?_
  rintro e w1 ⟨rfl, rfl⟩
  obtain ⟨y0, e0⟩ : ∃ x, x = numI (fld bs 4 8) := ⟨_, rfl⟩
  obtain ⟨x1, e1⟩ : ∃ x, x = fld bs 12 1 := ⟨_, rfl⟩
  obtain ⟨x2, e2⟩ : ∃ x, x = fld bs 13 1 := ⟨_, rfl⟩
  obtain ⟨x3, e3⟩ : ∃ x, x = fld bs 14 1 := ⟨_, rfl⟩
  obtain ⟨x4, e4⟩ : ∃ x, x = fld bs 15 1 := ⟨_, rfl⟩
  obtain ⟨x5, e5⟩ : ∃ x, x = fld bs 16 4 := ⟨_, rfl⟩
  obtain ⟨x6, e6⟩ : ∃ x, x = fld bs 20 4 := ⟨_, rfl⟩
  obtain ⟨x7, e7⟩ : ∃ x, x = fld bs 24 4 := ⟨_, rfl⟩
  have hpar : parseS bs = ⟨(fld bs 4 8 : Nat), (x1 : Int), (x2 : Int), (x5 : Int), (x3 : Int), spareI x4, (x6 : Int), (x7 : Int)⟩ := by rw [e1, e2, e3, e4, e5, e6, e7]; rfl
  have HD : Hid (decOK bs = (rightB ⟨y0, (x1 : Int), (x2 : Int), (x5 : Int), (x3 : Int), spareI x4, (x6 : Int), (x7 : Int)⟩ && decide (supBytes ⟨y0, (x1 : Int), (x2 : Int), (x5 : Int), (x3 : Int), spareI x4, (x6 : Int), (x7 : Int)⟩ = bs)) ∧ (decOK bs = true → parseS bs = ⟨y0, (x1 : Int), (x2 : Int), (x5 : Int), (x3 : Int), spareI x4, (x6 : Int), (x7 : Int)⟩)) := by
    refine Lib.hid ?_
    unfold decOK
    rw [HL.out, hpar]
    by_cases hx : fld bs 4 8 ≤ 4611686018427387904
    · have : y0 = ((fld bs 4 8 : Nat) : Int) := by rw [e0]; exact if_pos hx
      rw [this]
      simp
    · have h1 : y0 = -1 := by rw [e0]; exact if_neg hx
      have h2 : rightB ⟨(fld bs 4 8 : Nat), (x1 : Int), (x2 : Int), (x5 : Int), (x3 : Int), spareI x4, (x6 : Int), (x7 : Int)⟩ = false := by
        unfold rightB
        rw [decide_eq_false_iff_not]
        intro h
        have := h.2.1
        simp only at this
        omega
      have h3 : rightB ⟨y0, (x1 : Int), (x2 : Int), (x5 : Int), (x3 : Int), spareI x4, (x6 : Int), (x7 : Int)⟩ = false := by
        unfold rightB
        rw [decide_eq_false_iff_not]
        intro h
        have := h.1
        simp only at this
        omega
      rw [h2, h3]
      simp
  clear hpar
  rw [← e0, ← e1, ← e2, ← e3, ← e4, ← e5, ← e6, ← e7]
  clear e0 e1 e2 e3 e4 e5 e6 e7
  have hz : (w.alloc (.cells zeroR 47)).heap[w.heap.size]? = some (.cells zeroR 47) := heap_alloc_new _ _
  have hbel : Below w.heap.size w (w.alloc (.cells zeroR 47)) := below_made' _ _
  clear hr1
  have hzz : zeroR = #[.int .i64 0, .int .i64 0, .int .i64 0, .int .i64 0, .int .i64 0, .int .i64 0, .int .i64 0, .int .i64 0] := rfl
  rw [← hzz]
  clear hzz
  generalize w.alloc (.cells zeroR 47) = wr at *

  have hq4 : ((x4 : Int) = 255 ∧ spareI x4 = -1) ∨ (¬ (x4 : Int) = 255 ∧ spareI x4 = (x4 : Int)) := by
    unfold spareI
    by_cases h : x4 = 255
    · left; exact ⟨by omega, by rw [if_pos h]⟩
    · right; exact ⟨by omega, by rw [if_neg h]⟩
  have hq5 : ∃ sp : Int, spareI x4 = sp ∧ (((x4 : Int) == 255) = true ∧ sp = -1 ∨ ((x4 : Int) == 255) = false ∧ sp = (x4 : Int)) := by
    rcases hq4 with ⟨h1, h2⟩ | ⟨h1, h2⟩
    · exact ⟨_, h2, .inl ⟨by rw [beq_iff_eq]; exact h1, rfl⟩⟩
    · exact ⟨_, h2, .inr ⟨by rw [beq_eq_false_iff_ne]; exact h1, rfl⟩⟩
  clear hq4
  obtain ⟨sp, hsp, hcase⟩ := hq5
  rw [hsp] at HD
  clear hsp
  obtain ⟨s0, hs0⟩ : ∃ s0 : Sup, s0 = ⟨y0, (x1 : Int), (x2 : Int), (x5 : Int), (x3 : Int), sp, (x6 : Int), (x7 : Int)⟩ := ⟨_, rfl⟩
  rw [← hs0] at HD
  have HS := Lib.hid hs0
  clear hs0
  obtain ⟨W0, hW0⟩ : ∃ W0, W0 = wr.alloc (.cells #[.int .i64 y0, .int .i64 x1, .int .i64 x2, .int .i64 x5, .int .i64 x3, .int .i64 sp, .int .i64 x6, .int .i64 x7] 47) := ⟨_, rfl⟩
  have hrow0 : W0.heap[wr.heap.size]? = some (.cells #[.int .i64 y0, .int .i64 x1, .int .i64 x2, .int .i64 x5, .int .i64 x3, .int .i64 sp, .int .i64 x6, .int .i64 x7] 47) := by rw [hW0]; exact heap_alloc_new _ _
  have hz0 : W0.heap[w.heap.size]? = some (.cells zeroR 47) := by rw [hW0]; exact hrow_keep hz (below_made' _ _)
  have hbel0 : Below w.heap.size w W0 := by rw [hW0]; exact hbel.trans ((below_made' _ _).mono hbel.size)
  clear hz hbel
  rcases hcase with ⟨hqb, hsp⟩ | ⟨hqb, hsp⟩
  all_goals
    subst hsp
    go_wp2_with fail
    rw [← hW0]
    clear hW0 hqb
    generalize wr.heap.size = gs at *
    refine (renc_u ⟨_, _, _, _, _, _, _, _⟩ _).mono ?_
    rintro e w6 ⟨A6, c6, rfl, ho6, hb6⟩
    rw [← HS.out] at ho6
    simp only [← HS.out]
    have hD := HD.out
    clear HD
    have hD1 := hD.1
    have hD2 := Lib.hid hD.2
    clear hD
    have hz6 := hrow_keep hz0 hb6
    have hrow6 := hrow_keep hrow0 hb6
    have hbel6 := hbel0.trans (hb6.mono hbel0.size)
    have hrB := HR.out.below hbel6
    obtain ⟨c0, c1, c2, c3, c4, c5, c6', c7, hf⟩ := row8_cells w6 _ _ _ _ _ _ _ _ _ _ hz6
    obtain ⟨d0, d1, d2, d3, d4, d5, d6, d7, df⟩ := row8_cells w6 _ _ _ _ _ _ _ _ _ _ hrow6
    have sB := fun cc => run_string_rd (P := Try.prog) w6 23 9 5 Try.underlying23 Try.underlying5 Try.underlying9 A 128 cc bs hrB HL.out
    clear hz0 hrow0 hb6 hbel0 hrB
    unfold supL supE at *
    cases hright : rightB (s0) with
    | false =>
      have hk : decOK bs = false := by rw [hD1, hright]; simp
      simp only [Bool.false_eq_true, if_false]
      clear hright ho6 sB hD1 d0 d1 d2 d3 d4 d5 d6 d7 df hrow6
      go_wp2_with fail
      unfold DecPost
      rw [decS_bad hk, decE_bad hk]
      exact bodyPost_ret (results_row_tmp rfl _ _ w.heap.size 47 _ _ _ rfl (set8_row w6 _ _ _ _ _ _ _ _ _ _ (.int .i64 0) (.int .i64 0) (.int .i64 0) (.int .i64 0) (.int .i64 0) (.int .i64 0) (.int .i64 0) (.int .i64 0) hz6) Try.underlying47 rfl (by kernel_rfl)) rfl ⟨rfl, set8_below hbel6 (Nat.le_refl _) _ _ _ _ _ _ _ _⟩
    | true =>
      simp only [hright, if_true] at ho6 ⊢
      have hlen := supBytes_len (s0)
      rw [hlen] at ho6
      simp only [hlen]
      have sA := run_string_rd (P := Try.prog) w6 23 9 5 Try.underlying23 Try.underlying5 Try.underlying9 A6 128 c6 _ ho6.rd hlen
      by_cases heq : supBytes (s0) = bs
      · have hk : decOK bs = true := by rw [hD1, hright, heq]; simp
        rw [heq] at sA
        clear hlen ho6 hright heq hD1
        go_wp2_with fail
        unfold DecPost
        rw [decS_ok hk, decE_ok hk, hD2.out hk, HS.out]
        exact bodyPost_ret (results_row_tmp rfl _ _ w.heap.size 47 _ _ _ rfl (set8_row w6 _ _ _ _ _ _ _ _ _ _ _ _ _ _ _ _ _ _ hz6) Try.underlying47 rfl (by kernel_rfl)) rfl ⟨rfl, set8_below hbel6 (Nat.le_refl _) _ _ _ _ _ _ _ _⟩
      · have hk : decOK bs = false := by rw [hD1, hright]; simp [heq]
        have hne : (supBytes (s0) == bs) = false := by rw [beq_eq_false_iff_ne]; exact heq
        clear hlen ho6 hright heq hD1
        generalize supBytes (s0) = sb at *
        go_wp2_with fail
        unfold DecPost
        rw [decS_bad hk, decE_bad hk]
        exact bodyPost_ret (results_row_tmp rfl _ _ w.heap.size 47 _ _ _ rfl (set8_row w6 _ _ _ _ _ _ _ _ _ _ (.int .i64 0) (.int .i64 0) (.int .i64 0) (.int .i64 0) (.int .i64 0) (.int .i64 0) (.int .i64 0) (.int .i64 0) hz6) Try.underlying47 rfl (by kernel_rfl)) rfl ⟨rfl, set8_below hbel6 (Nat.le_refl _) _ _ _ _ _ _ _ _⟩

theorem rdec_u (A : Option Addr) (L c : Nat) (bs : List UInt8) (w : World) (hr : Rd w A bs) (hL : bs.length = L) :
    Calls Try.prog 38 #[.slice A L c] w (DecPost w bs) := by
  by_cases h : L = 128
  · subst h
    exact rdec_main A c bs w hr hL
  · exact rdec_short A L c bs w hL (by have := hr.le; omega) h
end Go.Proofs.Ytnnpdndmcenfeaa

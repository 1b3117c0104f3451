/-
 THE WALK of super.Decode: a block that begins as it must.
-/
import Derived.Test.YtajnlhalanhicaaSupD
import Derived.Test.YtajnlhalanhicaaBase
namespace Go.Proofs.Ytajnlhalanhicaa
set_option linter.all false
set_option maxRecDepth 20000
open Go.RowKit
def zeroR : Array Value := #[.int .i64 0, .int .i64 0, .int .i64 0, .int .i64 0, .int .i64 0, .int .i64 0, .int .i64 0, .int .i64 0]
set_option maxRecDepth 100000 in
set_option maxHeartbeats 2000000 in
theorem dec_main (A : Option Addr) (c : Nat) (bs : List UInt8) (w : World) (hr : Rd w A bs) (hL : bs.length = 128) (hc : 128 ≤ c) (h : bs.take 4 = magicL) :
  Calls Try.prog 89 #[.slice A 128 c] w (DecPost w bs) := by
 obtain ⟨ad, rfl⟩ := hr.some_ (i := 0) (by omega)
 have hr4 : Rd (w.alloc (.cells zeroR 53)) (some ad) magicL := by
  have h0 := hr.alloc (.cells zeroR 53)
  refine ⟨by decide, (fun e => by cases e), fun a e i hi => ?_⟩
  injection e with e
  subst e
  have := h0.cell i (by rw [hL]; have : magicL.length = 4 := rfl; omega)
  rw [this]
  have hm : bs[i]'(by rw [hL]; have : magicL.length = 4 := rfl; omega) = magicL[i] := by
   have : (bs.take 4)[i]'(by rw [h]; exact hi) = magicL[i] := by simp [h]
   rw [← this]
   simp
  rw [hm]
 have hs := fun cc => run_string_rd (P := Try.prog) _ 32 9 5 Try.underlying32 Try.underlying5 Try.underlying9 (some ad) 4 cc _ hr4 rfl
 simp only [zeroR, magicL] at hs
 have HR := Lib.hid hr
 have HL := Lib.hid hL
 clear hr4 hr hL h
 go_enter Try.func89, Try.ntmps89
 go_wp2_with fail
 refine (layout_any _).mono ?_
 rintro e w1 ⟨rfl, hb1⟩
 have hx1 : w1.heap[w.heap.size + 1]? = some (.cells (xsR bs 0) 111) := (hb1.block _ (by simp)).trans (heap_alloc2_new w (.cells zeroR 53) (.cells zeroR 111))
 have hz1 : w1.heap[w.heap.size]? = some (.cells zeroR 53) := (hb1.block _ (by simp; omega)).trans ((heap_alloc_old' (w.alloc (.cells zeroR 53)) (.cells zeroR 111) w.heap.size (by simp)).trans (heap_alloc_new _ _))
 have hb1' : Below w.heap.size w w1 := (((Below.refl w.heap.size w).alloc (Nat.le_refl _) _).alloc (by simp) _).trans (hb1.mono (by simp; omega))
 clear hb1 hs
 go_wp2_with fail
 obtain ⟨gx, hgx⟩ : ∃ gx, gx = w.heap.size + 1 := ⟨_, rfl⟩
 rw [← hgx] at hx1
 simp only [← hgx]
 have hgx1 : w.heap.size < gx := by omega
 clear hgx
 go_loopw [23] (fun i wr => ∃ k : Nat, k ≤ 8 ∧ i = .int .i64 k ∧ wr.heap[gx]? = some (.cells (xsR bs k) 111) ∧ wr.heap[w.heap.size]? = some (.cells zeroR 53) ∧ Below w.heap.size w wr) (fun i _ => 8 - (intOf i).toNat)
 case atStart => exact ⟨0, by omega, rfl, hx1, hz1, hb1'⟩
 case round =>
  obtain ⟨k, hk, rfl, hx, hz, hbel⟩ := hrel
  clear hx1 hz1 hb1'
  by_cases hlt : k < 8
  ·obtain ⟨a, n, ha, hn, h1, h8, hfit, hix⟩ := lay_at k hlt
   have hix := hix wr
   have hxlt := lt_of_row hx
   obtain ⟨w5, hw5⟩ : ∃ w5, w5 = wr.alloc (.cells #[.int .i64 a, .int .i64 n] 108) := ⟨_, rfl⟩
   have hx5 : w5.heap[gx]? = some (.cells (xsR bs k) 111) := by rw [hw5]; exact hrow_keep hx (below_made' _ _)
   have hz5 : w5.heap[w.heap.size]? = some (.cells zeroR 53) := by rw [hw5]; exact hrow_keep hz (below_made' _ _)
   have hbel5 : Below w.heap.size w w5 := by rw [hw5]; exact hbel.trans ((below_made' _ _).mono hbel.size)
   have hfv : leNum ((bs.drop a).take n) = fv bs k := by rw [← ha, ← hn]; rfl
   have hr5 := HR.out.below hbel5
   clear hx hz hbel ha hn
   go_wp2_with fail
   rw [← hw5]
   refine (get_ok (some ad) 128 c bs a n w5 hr5 HL.out h1 h8 (by omega)).mono ?_
   rintro e w6 ⟨rfl, rfl⟩
   rw [hfv]
   clear hix hw5 hfv hr5 h1 h8 hfit hxlt
   by_cases hg : fv bs k ≤ 4611686018427387904
   ·have hcell := (cell_of_row w5 _ k _ _ _ hx5).trans (show (xsR bs k)[k]? = some (.int .i64 0) from by
     have h8 : k = 0 ∨ k = 1 ∨ k = 2 ∨ k = 3 ∨ k = 4 ∨ k = 5 ∨ k = 6 ∨ k = 7 := by omega
     rcases h8 with rfl | rfl | rfl | rfl | rfl | rfl | rfl | rfl <;> rfl)
    have hf := frozen_of_row w5 _ k _ _ hx5
    have hwx : IntKind.i64.wrap (fv bs k : Int) = ((fv bs k : Nat) : Int) := by
     rw [IntKind.wrap_i64]; omega
    have hx6 := heap_setCell_same w5 gx k _ _ (.int .i64 (fv bs k : Nat)) hx5
    rw [xsR_set bs k hlt] at hx6
    have hz6 := (heap_setCell_other w5 ⟨gx, k, none⟩ w.heap.size (.int .i64 (fv bs k : Nat)) (by show w.heap.size ≠ gx; omega)).trans hz5
    have hbel6 := hbel5.setCell (p := ⟨gx, k, none⟩) (Nat.le_of_lt hgx1) (.int .i64 (fv bs k : Nat))
    clear hx5 hz5 hbel5
    generalize fv bs k = x at *
    go_wp2_with fail
    go_roundw
    case rel => exact ⟨k + 1, by omega, by go_num, hx6, hz6, hbel6⟩
    case measure => simp [intOf]; omega
   ·have hk0 : k = 0 := by
     by_cases h0 : k = 0
     ·exact h0
     ·exact absurd (fv_small bs k (by omega) hlt) (by omega)
    subst hk0
    have hd := dec_gen (by omega : 4611686018427387904 < fv bs 0)
    obtain ⟨c0, c1, c2, c3, c4, c5, c6, c7, hf⟩ := row8_cells w5 _ _ _ _ _ _ _ _ _ _ hz5
    generalize fv bs 0 = x at *
    go_wp2_with fail
    unfold DecPost
    rw [decS_bad hd, decE_bad hd]
    exact bodyPost_ret (results_row_tmp rfl _ _ w.heap.size 53 _ _ _ rfl (set8_row w5 _ _ _ _ _ _ _ _ _ _ (.int .i64 0) (.int .i64 0) (.int .i64 0) (.int .i64 0) (.int .i64 0) (.int .i64 0) (.int .i64 0) (.int .i64 0) hz5) Try.underlying53 rfl (by kernel_rfl)) rfl ⟨rfl, set8_below hbel5 (Nat.le_refl _) _ _ _ _ _ _ _ _⟩
  ·have hk8 : k = 8 := by omega
   subst hk8
   clear hlt hk
   obtain ⟨x0, e0⟩ : ∃ x, x = fv bs 0 := ⟨_, rfl⟩
   obtain ⟨x1, e1⟩ : ∃ x, x = fv bs 1 := ⟨_, rfl⟩
   obtain ⟨x2, e2⟩ : ∃ x, x = fv bs 2 := ⟨_, rfl⟩
   obtain ⟨x3, e3⟩ : ∃ x, x = fv bs 3 := ⟨_, rfl⟩
   obtain ⟨x4, e4⟩ : ∃ x, x = fv bs 4 := ⟨_, rfl⟩
   obtain ⟨x5, e5⟩ : ∃ x, x = fv bs 5 := ⟨_, rfl⟩
   obtain ⟨x6, e6⟩ : ∃ x, x = fv bs 6 := ⟨_, rfl⟩
   obtain ⟨x7, e7⟩ : ∃ x, x = fv bs 7 := ⟨_, rfl⟩
   have hx8 : wr.heap[gx]? = some (.cells #[.int .i64 x0, .int .i64 x1, .int .i64 x2, .int .i64 x3, .int .i64 x4, .int .i64 x5, .int .i64 x6, .int .i64 x7] 111) := by
    rw [e0, e1, e2, e3, e4, e5, e6, e7]
    exact hx
   have HP : Hid (parseS bs = ⟨(x0 : Int), (x1 : Int), (x2 : Int), (x5 : Int), (x3 : Int), spareI x4, (x6 : Int), (x7 : Int)⟩) := Lib.hid (by rw [e0, e1, e2, e3, e4, e5, e6, e7]; rfl)
   have hxlt := lt_of_row hx
   obtain ⟨c0, c1, c2, c3, c4, c5, c6, c7, hf⟩ := row8_cells wr _ _ _ _ _ _ _ _ _ _ hx8
   clear e0 e1 e2 e3 e4 e5 e6 e7 hx hx8
   have hq4 : ((x4 : Int) = 255 ∧ spareI x4 = -1) ∨ (¬ (x4 : Int) = 255 ∧ spareI x4 = (x4 : Int)) := by
    unfold spareI
    by_cases h : x4 = 255
    ·left; exact ⟨by omega, by rw [if_pos h]⟩
    ·right; exact ⟨by omega, by rw [if_neg h]⟩
   have hq5 : ∃ sp : Int, spareI x4 = sp ∧ (((x4 : Int) == 255) = true ∧ sp = -1 ∨ ((x4 : Int) == 255) = false ∧ sp = (x4 : Int)) := by
    rcases hq4 with ⟨h1, h2⟩ | ⟨h1, h2⟩
    ·exact ⟨_, h2, .inl ⟨by rw [beq_iff_eq]; exact h1, rfl⟩⟩
    ·exact ⟨_, h2, .inr ⟨by rw [beq_eq_false_iff_ne]; exact h1, rfl⟩⟩
   clear hq4
   obtain ⟨sp, hsp, hcase⟩ := hq5
   rw [hsp] at HP
   clear hsp
   obtain ⟨W0, hW0⟩ : ∃ W0, W0 = wr.alloc (.cells #[.int .i64 x0, .int .i64 x1, .int .i64 x2, .int .i64 x5, .int .i64 x3, .int .i64 sp, .int .i64 x6, .int .i64 x7] 53) := ⟨_, rfl⟩
   have hrow0 : W0.heap[wr.heap.size]? = some (.cells #[.int .i64 x0, .int .i64 x1, .int .i64 x2, .int .i64 x5, .int .i64 x3, .int .i64 sp, .int .i64 x6, .int .i64 x7] 53) := by rw [hW0]; exact heap_alloc_new _ _
   have hz0 : W0.heap[w.heap.size]? = some (.cells zeroR 53) := by rw [hW0]; exact hrow_keep hz (below_made' _ _)
   have hbel0 : Below w.heap.size w W0 := by rw [hW0]; exact hbel.trans ((below_made' _ _).mono hbel.size)
   clear hz hbel
   rcases hcase with ⟨hqb, hsp⟩ | ⟨hqb, hsp⟩
   all_goals
    subst hsp
    go_wp2_with fail
    rw [← hW0]
    clear hW0 hqb c0 c1 c2 c3 c4 c5 c6 c7 hf hxlt
    generalize wr.heap.size = gs at *
    refine (enc_u ⟨_, _, _, _, _, _, _, _⟩ _).mono ?_
    rintro e w6 ⟨A6, c6, rfl, ho6, hb6⟩
    rw [← HP.out] at ho6
    simp only [← HP.out]
    have hz6 := hrow_keep hz0 hb6
    have hrow6 := hrow_keep hrow0 hb6
    have hbel6 := hbel0.trans (hb6.mono hbel0.size)
    have hrB := HR.out.below hbel6
    obtain ⟨c0, c1, c2, c3, c4, c5, c6', c7, hf⟩ := row8_cells w6 _ _ _ _ _ _ _ _ _ _ hz6
    obtain ⟨d0, d1, d2, d3, d4, d5, d6, d7, df⟩ := row8_cells w6 _ _ _ _ _ _ _ _ _ _ hrow6
    have sB := fun cc => run_string_rd (P := Try.prog) w6 32 9 5 Try.underlying32 Try.underlying5 Try.underlying9 (some ad) 128 cc bs hrB HL.out
    clear hz0 hrow0 hb6 hbel0 hrB
    unfold supL supE at *
    cases hright : rightB (parseS bs) with
    | false =>
     have hk : decOK bs = false := by unfold decOK; rw [hright]; simp
     simp only [Bool.false_eq_true, if_false]
     clear hright ho6 sB d0 d1 d2 d3 d4 d5 d6 d7 df hrow6
     go_wp2_with fail
     unfold DecPost
     rw [decS_bad hk, decE_bad hk]
     exact bodyPost_ret (results_row_tmp rfl _ _ w.heap.size 53 _ _ _ rfl (set8_row w6 _ _ _ _ _ _ _ _ _ _ (.int .i64 0) (.int .i64 0) (.int .i64 0) (.int .i64 0) (.int .i64 0) (.int .i64 0) (.int .i64 0) (.int .i64 0) hz6) Try.underlying53 rfl (by kernel_rfl)) rfl ⟨rfl, set8_below hbel6 (Nat.le_refl _) _ _ _ _ _ _ _ _⟩
    | true =>
     simp only [hright, if_true] at ho6 ⊢
     have hlen := supBytes_len (parseS bs)
     rw [hlen] at ho6
     simp only [hlen]
     have sA := run_string_rd (P := Try.prog) w6 32 9 5 Try.underlying32 Try.underlying5 Try.underlying9 A6 128 c6 _ ho6.rd hlen
     by_cases heq : supBytes (parseS bs) = bs
     ·have hk : decOK bs = true := by unfold decOK; rw [hright, heq, HL.out]; simp
      rw [heq] at sA
      clear hlen ho6 hright heq
      go_wp2_with fail
      unfold DecPost
      rw [decS_ok hk, decE_ok hk, HP.out]
      exact bodyPost_ret (results_row_tmp rfl _ _ w.heap.size 53 _ _ _ rfl (set8_row w6 _ _ _ _ _ _ _ _ _ _ _ _ _ _ _ _ _ _ hz6) Try.underlying53 rfl (by kernel_rfl)) rfl ⟨rfl, set8_below hbel6 (Nat.le_refl _) _ _ _ _ _ _ _ _⟩
     ·have hk : decOK bs = false := by unfold decOK; rw [hright]; simp [heq]
      have hne : (supBytes (parseS bs) == bs) = false := by rw [beq_eq_false_iff_ne]; exact heq
      clear hlen ho6 hright heq
      generalize supBytes (parseS bs) = sb at *
      go_wp2_with fail
      unfold DecPost
      rw [decS_bad hk, decE_bad hk]
      exact bodyPost_ret (results_row_tmp rfl _ _ w.heap.size 53 _ _ _ rfl (set8_row w6 _ _ _ _ _ _ _ _ _ _ (.int .i64 0) (.int .i64 0) (.int .i64 0) (.int .i64 0) (.int .i64 0) (.int .i64 0) (.int .i64 0) (.int .i64 0) hz6) Try.underlying53 rfl (by kernel_rfl)) rfl ⟨rfl, set8_below hbel6 (Nat.le_refl _) _ _ _ _ _ _ _ _⟩
theorem dec_u (A : Option Addr) (L c : Nat) (bs : List UInt8) (w : World) (hr : Rd w A bs) (hL : bs.length = L) (hc : L ≤ c) :
  Calls Try.prog 89 #[.slice A L c] w (DecPost w bs) := by
 by_cases h : L = 128
 ·subst h
  by_cases hm : bs.take 4 = magicL
  ·exact dec_main A c bs w hr hL hc hm
  ·exact dec_nomagic A c bs w hr hL hc hm
 ·exact dec_short A L c bs w hL (by have := hr.le; omega) h
end Go.Proofs.Ytajnlhalanhicaa

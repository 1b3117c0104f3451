/-
 THE WALKS over a log's calls: at, Open, Put.
-/
import Derived.Test.YtajnlhalanhicaaHeldTail
import Derived.Test.YtajnlhalanhicaaPpB
import Derived.Test.YtajnlhalanhicaaPpN
namespace Go.Proofs.Ytajnlhalanhicaa
set_option linter.all false
set_option maxRecDepth 20000
open Go.RowKit
def LogRow (w : World) (l a slots : Nat) : Prop := w.heap[l]? = some (.cells #[.pointer (some ⟨a, 0, none⟩), .int .i64 (slots : Int)] 152)
section
variable {X : Nat → Prop} {a g l slots : Nat} {w w1 w' : World} {s s' : ShM} {D : DevM}
theorem LogRow.lt (h : LogRow w l a slots) : l < w.heap.size := lt_of_row h
theorem LogRow.below (h : LogRow w l a slots) (hb : Below w.heap.size w w') : LogRow w' l a slots := hrow_keep h hb
theorem LogRow.kept (h : LogRow w l a slots) (hK : Kept X w w') (hX : X l) : LogRow w' l a slots := (hK.block l hX).trans h
theorem LogRow.c0 (h : LogRow w l a slots) : w.cell? ⟨l, 0, none⟩ = some (.pointer (some ⟨a, 0, none⟩)) := (cell_of_row w l 0 _ _ _ h).trans rfl
theorem LogRow.c1 (h : LogRow w l a slots) : w.cell? ⟨l, 1, none⟩ = some (.int .i64 (slots : Int)) := (cell_of_row w l 1 _ _ _ h).trans rfl
def atE (slots : Nat) (slot : Int) : Int := if slotOk slots slot then 0 else 1
def atN (slots : Nat) (slot : Int) : Int := if slotOk slots slot then 2 + 2 * slot else 0
set_option maxHeartbeats 1000000 in
theorem lg_at (h : LogRow w l a slots) (slot : Int) (hs8 : slots ≤ 8) : Calls Try.prog 83 #[.pointer (some ⟨l, 0, none⟩), .int .i64 slot] w fun e w' => e = .returned (.tuple #[.int .i64 (atN slots slot), .int .i64 (atE slots slot)]) ∧ w = w' := by
 have c1 := h.c1
 have hlt := h.lt
 unfold atN atE
 cases hk : slotOk slots slot with
 | true =>
  obtain ⟨h1, h2⟩ := of_decide_eq_true hk
  obtain ⟨n, rfl⟩ := Int.eq_ofNat_of_zero_le h1
  have h3 : n < slots := by omega
  clear hk h1 h2
  go_enter Try.func83, Try.ntmps83
  go_wp2
  go_ret2
  exact ⟨by simp, rfl⟩
 | false =>
  have h1 : slot < 0 ∨ (0 ≤ slot ∧ (slots : Int) ≤ slot) := by
   have := of_decide_eq_false hk
   omega
  clear hk
  rcases h1 with h1 | ⟨h1, h2⟩
  all_goals
   go_enter Try.func83, Try.ntmps83
   go_wp2
   go_ret2
   exact ⟨by simp, rfl⟩
set_option maxHeartbeats 1000000 in
theorem lg_open (h : DvX X a g w s D) (slots : Nat) (h1 : 1 ≤ slots) (h8 : slots ≤ 8) (hz : 2 + 2 * slots ≤ D.size) : Calls Try.prog 92 #[.pointer (some ⟨a, 0, none⟩), .int .i64 (slots : Int)] w fun e w' =>
  ∃ l, e = .returned (.tuple #[.pointer (some ⟨l, 0, none⟩), .int .i64 0]) ∧ w.heap.size ≤ l ∧ LogRow w' l a slots ∧ Below w.heap.size w w' := by
 have hdb := su_dblocks h
 have hsz := h.size
 replace h := Lib.hid h
 generalize D.size = z at *
 go_enter Try.func92, Try.ntmps92
 go_wp2_with fail
 refine hdb.mono ?_
 rintro e wx ⟨rfl, rfl⟩
 clear hdb
 go_wp2
 go_ret2
 exact ⟨_, rfl, Nat.le_refl _, heap_alloc_new _ _, below_made' _ _⟩
theorem put_out {slot : Int} {r : Rec} (h : slotOk slots slot = false) : logPut s D slots slot r = (1, s, D) := by unfold logPut; rw [h]; rfl
theorem put_bad' {slot : Int} {r : Rec} (h : slotOk slots slot = true) (h2 : mayB r = false) : logPut s D slots slot r = (1, s, D) := by unfold logPut; rw [h, h2]; rfl
set_option maxRecDepth 100000 in
set_option maxHeartbeats 4000000 in
theorem lg_put (h : DvX X a g w s D) (hl : LogRow w l a slots) (hX : X l) (hs8 : slots ≤ 8) (hroom : Room 999999999980 s) (slot : Int) (r : Rec) (A : Option Addr) (L c : Nat) (hL : r.part.length = L) (hr : Rd w A r.part) (hA : ∀ ad, A = some ad → 0 < L → X ad.block) :
  Calls Try.prog 82 #[.pointer (some ⟨l, 0, none⟩), .int .i64 slot, .agg #[.int .i64 r.stripe, .int .i64 r.place, .slice A L c]] w (WrPost X a g w (logPut s D slots slot r)) := by
 have hb0 : Below w.heap.size w (w.alloc (.cells #[.int .i64 r.stripe, .int .i64 r.place, .slice A L c] 150)) := below_made' _ _
 have hct := lg_at (hl.below hb0) slot hs8
 cases hk : slotOk slots slot with
 | false =>
  rw [put_out hk]
  unfold atN atE at hct
  rw [hk] at hct
  simp only [Bool.false_eq_true, if_false] at hct
  have hD := h.below hb0
  have hK := Kept.of_below hb0 h.lt
  clear hb0 hl h
  go_enter Try.func82, Try.ntmps82
  go_wp2_with fail
  refine hct.mono ?_
  rintro e wx ⟨rfl, rfl⟩
  go_wp2_with fail
  go_ret
  exact ⟨rfl, hD, hK⟩
 | true =>
  have henc := pp_enc r A L c _ hL (hr.below hb0)
  unfold atN atE at hct
  rw [hk] at hct
  simp only [if_true] at hct
  unfold HeadPost hdL hdE at henc
  cases hm : mayB r with
  | false =>
   rw [put_bad' hk hm]
   rw [hm] at henc
   simp only [Bool.false_eq_true, if_false] at henc
   have hsz := h.lt
   have key : ∀ W, Below (w.alloc (.cells #[.int .i64 r.stripe, .int .i64 r.place, .slice A L c] 150)).heap.size (w.alloc (.cells #[.int .i64 r.stripe, .int .i64 r.place, .slice A L c] 150)) W → DvX X a g W s D ∧ Kept X w W := fun W hW => by
    have hb := below_to hb0 hW
    exact ⟨h.below hb, Kept.of_below hb h.lt⟩
   replace key := Lib.hid key
   clear hb0 hl h hsz
   obtain ⟨st, pl, part⟩ := r
   dsimp only at *
   go_enter Try.func82, Try.ntmps82
   go_wp2_with fail
   refine hct.mono ?_
   rintro e wx ⟨rfl, rfl⟩
   clear hct
   go_wp2_with fail
   refine henc.mono ?_
   rintro e wx ⟨A1, c1, rfl, _, hb1⟩
   obtain ⟨hD, hK⟩ := key.out _ hb1
   clear key henc
   go_wp2_with fail
   go_ret
   exact ⟨rfl, hD, hK⟩
  | true =>
   obtain ⟨n, rfl⟩ := Int.eq_ofNat_of_zero_le (of_decide_eq_true hk).1
   have hn8 : n < slots := by have := (of_decide_eq_true hk).2; omega
   rw [hm] at henc
   simp only [if_true, hdBytes_len] at henc
   have hpart : r.part.length = 128 := (of_decide_eq_true hm).2.2.2.2
   have hput : Hid (logPut s D slots n r = _) := Lib.hid (show logPut s D slots n r = (if (devWrite s D (2 + 2 * (n : Int) + 1) r.part).1 = 0 then devWrite (devWrite s D (2 + 2 * (n : Int) + 1) r.part).2.1 (devWrite s D (2 + 2 * (n : Int) + 1) r.part).2.2 (2 + 2 * (n : Int)) (hdBytes r) else devWrite s D (2 + 2 * (n : Int) + 1) r.part) from by
    unfold logPut
    rw [hk, hm]
    rfl)
   clear hk hm
   obtain ⟨hd, hhd⟩ : ∃ hd, hd = hdBytes r := ⟨_, rfl⟩
   have hhl : hd.length = 128 := by rw [hhd]; exact hdBytes_len r
   rw [← hhd] at henc hput
   have hroom2 := room_dwrite hroom D (2 + 2 * (n : Int) + 1) r.part
   clear hhd
   obtain ⟨st, pl, part⟩ := r
   dsimp only at *
   replace h := Lib.hid h
   replace hl := Lib.hid hl
   replace hr := Lib.hid hr
   replace hL := Lib.hid hL
   replace hhl := Lib.hid hhl
   go_enter Try.func82, Try.ntmps82
   go_wp2_with fail
   refine hct.mono ?_
   rintro e wx ⟨rfl, rfl⟩
   clear hct
   go_wp2_with fail
   refine henc.mono ?_
   rintro e w1 ⟨A1, c1, rfl, ho1, hb1⟩
   have hB1 := below_to hb0 hb1
   have hbox1 : w1.heap[w.heap.size]? = some (.cells #[.int .i64 st, .int .i64 pl, .slice A L c] 150) := hrow_keep (heap_alloc_new _ _) hb1
   have hlr1 := hl.out.below hB1
   have hown : ∀ ad, A1 = some ad → w.heap.size + 1 ≤ ad.block ∧ ad.block < w1.heap.size := by
    intro ad e
    obtain ⟨A', c', hv, _, h2⟩ := ho1.form
    injection hv with e1
    subst e1
    obtain ⟨x, rfl, h4, h5⟩ := h2 ad e
    exact ⟨by simpa using h4, h5⟩
   have hD1 := h.out.more hB1 (Y := fun b => X b ∨ b = w.heap.size ∨ ∃ ad, A1 = some ad ∧ ad.block = b) fun b hx => by
    rcases hx with hx | rfl | ⟨ad, e, rfl⟩
    ·exact ⟨Nat.lt_of_lt_of_le (h.out.lt b hx) hB1.size, .inl hx⟩
    ·exact ⟨lt_of_row hbox1, .inr (Nat.le_refl _)⟩
    ·exact ⟨(hown ad e).2, .inr (by have := (hown ad e).1; omega)⟩
   have hlc := hlr1.c0
   have hllt := hlr1.lt
   obtain ⟨_, _, bc, _⟩ := row3_cells w1 _ _ _ _ _ hbox1
   have hblt := lt_of_row hbox1
   have hct := su_write (hD1.below (Below.refl _ _).drew) (hroom.mono (by omega)) (2 + 2 * (n : Int) + 1) (by omega) (by omega) A L c part ((hr.out.below hB1).below (Below.refl _ _).drew) hL.out (fun ad e => .inl (hA ad e (by have := hL.out; omega)))
   have hwr : IntKind.i64.wrap (2 + 2 * (n : Int) + 1) = 2 + 2 * (n : Int) + 1 := IntWalk.i64_in _ (by omega)
   clear henc hb0 hb1
   replace hD1 := Lib.hid hD1
   go_wp2_with fail
   refine wp_region_held_drew (S := (fun W => W.cell? ⟨l, 0, none⟩ = some (.pointer (some ⟨a, 0, none⟩)) ∧ W.cell? ⟨w.heap.size, 2, none⟩ = some (.slice A L c))) (by kernel_rfl) ?_ (fun hHeld => ?_)
   ·(try dsimp only)
    exact ⟨hlc, bc⟩
   refine tkA 0 ?_
   refine tkA 1 ?_
   refine tkA 2 ?_
   refine tkA 3 ?_
   refine tkA 4 ?_
   refine tkA 5 ?_
   refine tkA 6 ?_
   refine tkA 7 ?_
   refine rkA 8 (fun K hK => ?_)
   go_simp
   with_reducible refine hct.mono ?_
   rintro e w2 ⟨rfl, hD2, hK2⟩
   have hS2 : w2.cell? ⟨l, 0, none⟩ = some (.pointer (some ⟨a, 0, none⟩)) ∧ w2.cell? ⟨w.heap.size, 2, none⟩ = some (.slice A L c) := ⟨(World.cell?_of_block (hK2.block l (.inl hX))).trans hlc, (World.cell?_of_block (hK2.block w.heap.size (.inr (.inl rfl)))).trans bc⟩
   (try go_wp2_with fail)
   refine hK.out _ _ ?_ (fun hHeld2 => ?_)
   ·(try dsimp only)
    first | exact hHeld | exact hS2
   clear hK K
   replace hHeld := hHeld2
   clear hHeld2
   (try simp only [pA, pN, pB, pC, pD])
   refine tkA 9 ?_
   refine wpAnyH_done (by kernel_rfl) ?_ _
   obtain ⟨hlc2, _⟩ := hHeld
   clear hct hroom hlc bc hwr hS2
   have hrd2 := hK2.rd ho1.rd (fun ad e => .inr (.inr ⟨ad, e, rfl⟩))
   have hK02 : Kept X w w2 := (Kept.of_below hB1 h.out.lt).trans ((Kept.drew _ _).trans (hK2.mono fun b hb => .inl hb))
   generalize devWrite s D (2 + 2 * (n : Int) + 1) part = x at *
   have hct2 := su_write hD2 (hroom2.mono (by omega)) (2 + 2 * (n : Int)) (by omega) (by omega) A1 128 c1 hd hrd2 hhl.out (fun ad e => .inr (.inr ⟨ad, e, rfl⟩))
   have hllt2 := Nat.lt_of_lt_of_le hllt hK2.size
   obtain ⟨x1, s1, D1⟩ := x
   dsimp only at *
   replace hD2 := Lib.hid hD2
   clear hK2 hrd2 hlr1 hbox1 ho1 hD1 hl h hr hroom2 hown
   by_cases h0 : x1 = 0
   ·subst h0
    have hp0 : Hid (logPut s D slots n ⟨st, pl, part⟩ = devWrite s1 D1 (2 + 2 * (n : Int)) hd) := Lib.hid (hput.out.trans (if_pos rfl))
    clear hput
    go_wp2_with fail
    with_reducible refine hct2.mono ?_
    rintro e w3 ⟨rfl, hD3, hK3⟩
    clear hct2
    go_wp2_with fail
    go_ret
    unfold WrPost
    rw [hp0.out]
    exact ⟨rfl, hD3.mono fun b hb => .inl hb, hK02.trans (hK3.mono fun b hb => .inl hb)⟩
   ·have h0' : (x1 != 0) = true := by rw [bne_iff_ne]; exact h0
    have hE : WrPost X a g w (logPut s D slots n ⟨st, pl, part⟩) (.returned (.int .i64 x1)) w2 := by
     rw [WrPost, hput.out, if_neg h0]
     exact ⟨rfl, hD2.out.mono fun b hb => .inl hb, hK02⟩
    clear hct2 hD2 hK02 hput h0
    go_wp2_with fail
    go_ret
    exact hE
end
end Go.Proofs.Ytajnlhalanhicaa

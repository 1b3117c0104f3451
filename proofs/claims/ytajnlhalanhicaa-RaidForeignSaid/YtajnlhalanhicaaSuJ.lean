/-
 Several texts of this work in one (merge.py): SuW, SuX, SuP, SuQ.
-/
import Derived.Test.YtajnlhalanhicaaSuI
import Derived.Test.YtajnlhalanhicaaShJ
import Derived.Deep.DeepCutAuto
namespace Go.Proofs.Ytajnlhalanhicaa
set_option linter.all false
set_option maxRecDepth 20000
section
open Go.RowKit
section
variable {X : Nat → Prop} {a g : Nat} {w w' : World} {s s' : ShM} {D : DevM}
theorem devFlush_disk (s : ShM) (D : DevM) : (devFlush s D).2.2.disk = D.disk := by
 unfold devFlush
 dsimp only
 split <;> rfl
theorem devOpen_disk (s : ShM) (D : DevM) (n : Int) : (devOpen s D n).2.2.disk = D.disk := by
 unfold devOpen
 split
 ·exact devFlush_disk s D
 ·rfl
theorem devFlush_size (s : ShM) (D : DevM) : (devFlush s D).2.2.size = D.size := by
 unfold devFlush
 dsimp only
 split <;> rfl
theorem devOpen_size (s : ShM) (D : DevM) (n : Int) : (devOpen s D n).2.2.size = D.size := by
 unfold devOpen
 split
 ·exact devFlush_size s D
 ·rfl
theorem devFirst_disk (s : ShM) (D : DevM) (n : Nat) (x1 x2 bs : Bytes) : (devFirst s D n x1 x2 bs).2.2.disk = D.disk := by
 unfold devFirst devSpoil
 dsimp only
 repeat' split
 all_goals first | rfl | exact devFlush_disk _ _
theorem room_dflush {N : Nat} (h : Room N s) (D : DevM) : Room N (devFlush s D).2.1 := room_flush h _
theorem room_open {N : Nat} (h : Room N s) (D : DevM) (n : Int) : Room N (devOpen s D n).2.1 := by
 unfold devOpen
 split
 ·exact room_dflush h D
 ·exact h
theorem room_first {N : Nat} (h : Room N s) (D : DevM) (n : Nat) (x1 x2 bs : Bytes) : Room (N + 1) (devFirst s D n x1 x2 bs).2.1 := by
 unfold devFirst devSpoil
 dsimp only
 repeat' split
 ·exact h.mono (Nat.le_succ _)
 ·exact room_dflush (room_write h _ _ _) _
 ·exact room_write h _ _ _
 ·exact h.mono (Nat.le_succ _)
set_option maxRecDepth 100000 in
set_option maxHeartbeats 8000000 in
theorem su_write (h : DvX X a g w s D) (hroom : Room 999999999990 s) (n : Int) (hn0 : -9223372036854775808 ≤ n) (hn1 : n ≤ 9223372036854775807) (A : Option Addr) (L c : Nat) (bs : Bytes) (hr : Rd w A bs) (hL : bs.length = L) (hA : ∀ ad, A = some ad → X ad.block) :
  Calls Try.prog 19 #[.pointer (some ⟨a, 0, none⟩), .int .i64 n, .slice A L c] w (WrPost X a g w (devWrite s D n bs)) := by
 have halt := h.alt
 by_cases h128 : L = 128
 ·subst h128
  have hct := su_sector h (hroom.mono (by omega)) n hn0 hn1
  have hln := Lib.hid fun he => sec_len (s := s) (D := D) (n := n) h.sh.ok he
  have hsz := h.size
  have hwr : Hid (devWrite s D n bs = let r := devSector s D n
   if r.2.2.1 = 0 then
    let f := devOpen r.2.2.2 D n
    if f.1 = 0 then
     let x := devFirst f.2.1 f.2.2 n.toNat r.1 r.2.1 bs
     if x.1 = 0 then devPut x.2.1 x.2.2 n.toNat (putSums r.1 n.toNat (nextP D n.toNat (standP r.1 n.toNat) r.2.1 bs)) bs
     else x
    else f
   else (r.2.2.1, r.2.2.2, D)) := Lib.hid (by unfold devWrite; rw [if_pos hL])
  have hrd : Hid (∀ W, Kept X w W → Rd W A bs) := Lib.hid fun W hK => hK.rd hr hA
  have hroom1 : Hid (Room 999999999990 (devSector s D n).2.2.2) := Lib.hid (room_sec hroom D n)
  replace hL := Lib.hid hL
  replace hA := Lib.hid hA
  generalize hr1 : devSector s D n = r at *
  replace hr1 := Lib.hid hr1
  obtain ⟨x1, x2, er, s1⟩ := r
  dsimp only at hln hwr hct hroom1
  go_enter Try.func19, Try.ntmps19
  go_wp2_with fail
  refine hct.mono ?_
  rintro e w1 ⟨v1, v2, rfl, hf1, hf2, hne, h1, hK1⟩
  dsimp only at hf1 hf2 h1
  by_cases he : er = 0
  ·obtain ⟨l1, l2, n0, n1⟩ := hln.out he
   obtain ⟨n, rfl⟩ := Int.eq_ofNat_of_zero_le n0
   rw [Int.toNat_natCast] at hwr
   obtain ⟨g1, c1, rfl, hg1, hc1, hm1⟩ := hf1.row (by omega)
   obtain ⟨g2, c2, rfl, hg2, hc2, hm2⟩ := hf2.row (by omega)
   have hg12 : g1 ≠ g2 := fun e => hne g1 rfl (by rw [e]; rfl)
   have hgX1 : Hid (¬ X g1) := Lib.hid fun hx => by have := h.lt _ hx; omega
   have hgX2 : Hid (¬ X g2) := Lib.hid fun hx => by have := h.lt _ hx; omega
   have h1 : DvX (fun b => X b ∨ b = g1 ∨ b = g2) a g w1 s1 D := h1.mono fun b hb => by
    rcases hb with hb | hb | hb
    ·exact .inl hb
    ·exact .inr (.inl (by rw [hb]; rfl))
    ·exact .inr (.inr (by rw [hb]; rfl))
   rw [l1] at hc1 ⊢
   rw [l2] at hc2 ⊢
   have heb : (er != 0) = false := by simp [he]
   have hz := hwr.out
   rw [if_pos he] at hz
   subst he
   replace hwr := Lib.hid hz
   have h3 := h1.c3
   have ha1 := h1.alt
   replace l1 := Lib.hid l1
   replace l2 := Lib.hid l2
   replace hm1 := Lib.hid hm1
   replace hm2 := Lib.hid hm2
   clear hct hln hz hf1 hf2 hne
   go_upto_if 45 with (fail)
   go_cut [] (fun wc => Hid ((devOpen s1 D n).1 = 0) ∧ Hid (RowM wc g1 x1) ∧ Hid (RowM wc g2 x2) ∧ DvX (fun b => X b ∨ b = g1 ∨ b = g2) a g wc (devOpen s1 D n).2.1 (devOpen s1 D n).2.2 ∧ Kept X w wc)
   case first =>
    by_cases ho : D.opn = n
    ·have hob : (D.opn == (n : Int)) = true := by simp [ho]
     have hop : devOpen s1 D n = devFlush s1 D := by simp only [devOpen, ho, if_true]
     have hct := su_flush h1
     generalize devFlush s1 D = f at *
     obtain ⟨ef, s2, D2⟩ := f
     dsimp only at hct
     replace hop := Lib.hid hop
     replace ho := Lib.hid ho
     go_wp2_with fail
     refine hct.mono ?_
     rintro e w2 ⟨rfl, h2, hK2⟩
     have hm1' := Lib.hid (hm1.out.of_block (hK2.block g1 (.inr (.inl rfl))))
     have hm2' := Lib.hid (hm2.out.of_block (hK2.block g2 (.inr (.inr rfl))))
     have hK2 := hK1.trans (hK2.mono fun b hb => .inl hb)
     clear hct
     by_cases he : ef = 0
     ·have heb : (ef != 0) = false := by simp [he]
      subst he
      go_wp2_with fail
      go_meet
      rw [hop.out]
      exact ⟨Lib.hid rfl, hm1', hm2', h2, hK2⟩
     ·have heb : (ef != 0) = true := by simp [he]
      have hz := hwr.out
      rw [hop.out] at hz
      dsimp only at hz
      rw [if_neg he] at hz
      replace hz := Lib.hid hz
      replace he := Lib.hid he
      replace h2 := Lib.hid h2
      go_wp2
      go_ret
      rw [hz.out]
      exact ⟨rfl, h2.out.mono fun b hb => .inl hb, hK2⟩
    ·have hob : (D.opn == (n : Int)) = false := beq_eq_false_iff_ne.2 ho
     have hop := Lib.hid (show devOpen s1 D n = (0, s1, D) by simp only [devOpen, ho, if_false])
     replace ho := Lib.hid ho
     go_wp2_with fail
     go_meet
     rw [hop.out]
     exact ⟨Lib.hid rfl, hm1, hm2, h1, hK1⟩
   case rest =>
    clear hm1 hm2 h1 hK1 h3 ha1
    obtain ⟨hof, hm1, hm2, h1, hK1⟩ := hcut
    have hdk := devOpen_disk s1 D n
    have hdz := devOpen_size s1 D n
    have hrm2 := Lib.hid (room_open hroom1.out D n)
    have hz := hwr.out
    rw [if_pos hof.out] at hz
    generalize hfo : devOpen s1 D n = f at *
    obtain ⟨ef, s2, D2⟩ := f
    dsimp only at hdk hdz hrm2 hz h1
    replace hfo := Lib.hid hfo
    replace hwr := Lib.hid hz
    clear hz hof hroom1 hroom
    have d1c := h1.c1
    rw [hdk] at d1c
    have ha1 := h1.alt
    have hrdA := Lib.hid (hrd.out wc hK1)
    have hsA : Hid (∀ W, Rd W A bs → _) := Lib.hid fun W hR => su_sum D.disk n A 128 c bs W hR hL.out
    have hst : Hid (∀ W, Below wc.heap.size wc W → _) := Lib.hid fun W hW => su_stand (some ⟨g1, 0, none⟩) c1 x1 n W ((hm1.out.below hW).rd (by rw [l1.out]; omega)) l1.out (by omega)
    have hfi : Hid (∀ W, Below wc.heap.size wc W → _) := Lib.hid fun W hW => su_fits a g D2 (standP x1 n) n (some ⟨g2, 0, none⟩) 128 c2 x2 W ((hW.block a ha1).trans h1.row) ((hm2.out.below hW).rd (by rw [l2.out]; omega)) l2.out
    rw [hdk] at hfi
    unfold pairAgg at hst hfi
    have hsW : Hid (∀ W, RowM W g2 x2 → _) := Lib.hid fun W hR => su_sum D.disk n (some ⟨g2, 0, none⟩) 128 c2 x2 W (hR.rd (by rw [l2.out]; omega)) l2.out
    have hnx : Hid (nextP D n (standP x1 n) x2 bs = (if fitsP D.disk (standP x1 n) n x2 then sumB D.disk n x2 else sumB D.disk n bs, sumB D.disk n bs)) := Lib.hid rfl
    have hfs : Hid (devFirst s2 D2 n x1 x2 bs = if fitsP D.disk (standP x1 n) n x2 then (0, s2, D2) else if sumB D.disk n x2 = sumB D.disk n bs then devSpoil s2 D2 n (standP x1 n) x2 (sumB D.disk n bs) else (0, s2, D2)) := Lib.hid (by simp only [devFirst, hdk])
    go_wp2_with fail
    refine (hsA.out wc hrdA.out).mono ?_
    rintro e w3 ⟨rfl, hb3⟩
    generalize hsm : sumB D.disk n bs = sm at *
    generalize hsw : sumB D.disk n x2 = sw at *
    replace hsm := Lib.hid hsm
    replace hsw := Lib.hid hsw
    go_wp2_with fail
    have hb4 := hb3.trans ((Below.refl w3.heap.size w3).alloc (Nat.le_refl _) (.cells #[.int .u32 (sm : Int), .int .u32 (sm : Int)] 124) |>.mono hb3.size)
    with_reducible refine (hst.out _ hb4).mono ?_
    rintro e w5 ⟨rfl, hb5⟩
    generalize hpp : standP x1 n = pp at *
    obtain ⟨p1, p2⟩ := pp
    dsimp only at hfi
    replace hpp := Lib.hid hpp
    go_wp2_with fail
    have hb6 := hb4.trans ((hb5.mono (by have := hb3.size; simp; omega) : Below wc.heap.size _ w5))
    have hs34 := hb3.size
    have hs45 : w3.heap.size + 1 ≤ w5.heap.size := by have := hb5.size; simp at this; omega
    have hb7 := hb6.trans ((Below.refl w5.heap.size w5).alloc (Nat.le_refl _) (.cells #[.int .u32 (p1 : Int), .int .u32 (p2 : Int)] 124) |>.mono hb6.size)
    have hN1 : Hid (w5.heap[w3.heap.size]? = some (.cells #[.int .u32 (sm : Int), .int .u32 (sm : Int)] 124)) := Lib.hid ((hb5.block _ (by simp)).trans (heap_alloc_new w3 _))
    with_reducible refine (hfi.out _ hb7).mono ?_
    rintro e w8 ⟨rfl, hb8⟩
    have hb9 := hb7.trans (hb8.mono hb7.size)
    have hN2 : Hid (w8.heap[w5.heap.size]? = some (.cells #[.int .u32 (p1 : Int), .int .u32 (p2 : Int)] 124)) := Lib.hid ((hb8.block _ (by simp)).trans (heap_alloc_new w5 _))
    have hs58 : w5.heap.size + 1 ≤ w8.heap.size := by have := hb8.size; simp at this; omega
    have hN1 : Hid (w8.heap[w3.heap.size]? = some (.cells #[.int .u32 (sm : Int), .int .u32 (sm : Int)] 124)) := Lib.hid ((hb8.block _ (by simp; omega)).trans ((heap_alloc_old w5 _ (by omega)).trans hN1.out))
    have hm1 := Lib.hid (hm1.out.below hb9)
    have hm2 := Lib.hid (hm2.out.below hb9)
    have h8 : DvX (fun b => X b ∨ b = g1 ∨ b = g2 ∨ b = w3.heap.size) a g w8 s2 D2 := h1.more hb9 fun b hb => by
     rcases hb with hb | hb | hb | hb
     ·exact ⟨Nat.lt_of_lt_of_le (h1.lt b (.inl hb)) hb9.size, .inl (.inl hb)⟩
     ·exact ⟨Nat.lt_of_lt_of_le (h1.lt b (.inr (.inl hb))) hb9.size, .inl (.inr (.inl hb))⟩
     ·exact ⟨Nat.lt_of_lt_of_le (h1.lt b (.inr (.inr hb))) hb9.size, .inl (.inr (.inr hb))⟩
     ·subst hb; exact ⟨by omega, .inr hs34⟩
    have hNX : Hid (¬ X w3.heap.size) := Lib.hid fun hx => by have := h1.lt _ (.inl hx); omega
    have hN12 : g1 ≠ w3.heap.size ∧ g2 ≠ w3.heap.size := ⟨fun e => by have := h1.lt g1 (.inr (.inl rfl)); omega, fun e => by have := h1.lt g2 (.inr (.inr rfl)); omega⟩
    have hK8 := hK1.trans (Kept.of_below hb9 (fun b hb => h1.lt b (.inl hb)))
    have hrm2' := hrm2
    clear hb3 hb4 hb5 hb6 hb7 hb8 hst hfi h1 hK1
    generalize hff : fitsP D.disk (p1, p2) n x2 = ff at *
    replace hff := Lib.hid hff
    have d1c := h8.c1
    rw [hdk] at d1c
    have ha8 := h8.alt
    go_upto_if 68 with (fail)
    go_cut [] (fun wx => Hid ((devFirst s2 D2 n x1 x2 bs).1 = 0) ∧ Hid (RowM wx g1 x1) ∧ Hid (wx.heap[w3.heap.size]? = some (.cells #[.int .u32 ((nextP D n (p1, p2) x2 bs).1 : Int), .int .u32 ((nextP D n (p1, p2) x2 bs).2 : Int)] 124)) ∧ DvX (fun b => X b ∨ b = g1 ∨ b = g2 ∨ b = w3.heap.size) a g wx (devFirst s2 D2 n x1 x2 bs).2.1 (devFirst s2 D2 n x1 x2 bs).2.2 ∧ Kept X w wx)
    case first =>
     cases ff
     ·have hnx2 := hnx.out
      have hfs2 := hfs.out
      rw [if_neg (by decide)] at hnx2 hfs2
      replace hnx2 := Lib.hid hnx2
      clear hnx hfs
      have hcW := hsW.out w8 hm2.out
      by_cases hq : sw = sm
      ·have hqb : ((sw : Int) == (sm : Int)) = true := by rw [hq]; simp
       rw [if_pos hq] at hfs2
       have hsp : Hid (∀ W, DvX (fun b => (X b ∨ b = g1 ∨ b = w3.heap.size) ∨ b = g2) a g W s2 D2 → RowM W g2 x2 → _) := Lib.hid fun W hD hR => su_spoil g2 hD (fun hx => by
         rcases hx with hx | hx | hx
         ·exact hgX2.out hx
         ·exact hg12 hx.symm
         ·exact hN12.2 hx) (hrm2.out.mono (by omega)) p1 p2 sm n (by rw [hdz]; omega) c2 x2 hR l2.out
       generalize hds : devSpoil s2 D2 n (p1, p2) x2 sm = r at *
       obtain ⟨er, s3, D3⟩ := r
       dsimp only at hsp
       replace hfs2 := Lib.hid hfs2
       replace hq := Lib.hid hq
       replace hds := Lib.hid hds
       go_wp2_with fail
       with_reducible refine hcW.mono ?_
       rintro e wa ⟨rfl, hba⟩
       have h9 := (h8.below hba).mono (Y := fun b => (X b ∨ b = g1 ∨ b = w3.heap.size) ∨ b = g2) fun b hb => by
        rcases hb with (hb | hb | hb) | hb
        ·exact .inl hb
        ·exact .inr (.inl hb)
        ·exact .inr (.inr (.inr hb))
        ·exact .inr (.inr (.inl hb))
       obtain ⟨y0, y1⟩ := two_cells wa _ _ _ _ ((hba.block _ (by omega)).trans hN2.out)
       have hcs := hsp.out wa h9 (hm2.out.below hba)
       have hN9 := Lib.hid ((hba.block _ (by omega)).trans hN1.out)
       have hm9 := Lib.hid (hm1.out.below hba)
       have hK9 := hK8.trans (Kept.of_below hba (fun b hb => h8.lt b (.inl hb)))
       clear hcW hsp
       go_wp2_with fail
       with_reducible refine hcs.mono ?_
       rintro e wb ⟨rfl, hD, hKb⟩
       have hNb := Lib.hid ((hKb.block _ (.inr (.inr rfl))).trans hN9.out)
       have hmb := Lib.hid (hm9.out.of_block (hKb.block _ (.inr (.inl rfl))))
       have hKb := hK9.trans (hKb.mono fun b hb => .inl hb)
       have hD := hD.mono (Y := fun b => X b ∨ b = g1 ∨ b = g2 ∨ b = w3.heap.size) fun b hb => by
        rcases hb with hb | hb | hb | hb
        ·exact .inl (.inl hb)
        ·exact .inl (.inr (.inl hb))
        ·exact .inr hb
        ·exact .inl (.inr (.inr hb))
       clear hcs y0 y1
       by_cases he : er = 0
       ·have heb2 : (er != 0) = false := by simp [he]
        subst he
        go_wp2_with fail
        go_meet
        rw [hnx2.out, hfs2.out]
        exact ⟨Lib.hid rfl, hmb, hNb, hD, hKb⟩
       ·have heb2 : (er != 0) = true := by simp [he]
        have hz := hwr.out
        rw [hfs2.out] at hz
        dsimp only at hz
        rw [if_neg he] at hz
        replace hz := Lib.hid hz
        replace he := Lib.hid he
        replace hD := Lib.hid hD
        go_wp2
        go_ret
        rw [hz.out]
        exact ⟨rfl, hD.out.mono fun b hb => .inl hb, hKb⟩
      ·have hqb : ((sw : Int) == (sm : Int)) = false := beq_eq_false_iff_ne.2 (by omega)
       rw [if_neg hq] at hfs2
       replace hfs2 := Lib.hid hfs2
       replace hq := Lib.hid hq
       go_wp2_with fail
       with_reducible refine hcW.mono ?_
       rintro e wa ⟨rfl, hba⟩
       have h9 := h8.below hba
       have hN9 := Lib.hid ((hba.block _ (by omega)).trans hN1.out)
       have hm9 := Lib.hid (hm1.out.below hba)
       have hK9 := hK8.trans (Kept.of_below hba (fun b hb => h8.lt b (.inl hb)))
       clear hcW
       go_wp2_with fail
       go_meet
       rw [hnx2.out, hfs2.out]
       exact ⟨Lib.hid rfl, hm9, hN9, h9, hK9⟩
     ·have hnx2 := hnx.out
      have hfs2 := hfs.out
      rw [if_pos rfl] at hnx2 hfs2
      replace hnx2 := Lib.hid hnx2
      replace hfs2 := Lib.hid hfs2
      clear hnx hfs
      go_wp2_with fail
      with_reducible refine (hsW.out w8 hm2.out).mono ?_
      rintro e wa ⟨rfl, hba⟩
      have h9 := h8.below hba
      have hN9 := (hba.block _ (by omega)).trans hN1.out
      obtain ⟨y0, y1⟩ := two_cells wa _ _ _ _ hN9
      have yf := frozen_of_row wa w3.heap.size 0 _ _ hN9
      have h10 := h9.setX (b := ⟨w3.heap.size, 0, none⟩) (.inr (.inr (.inr rfl))) (.int .u32 (sw : Int))
      have hN10 : Hid ((wa.setCell ⟨w3.heap.size, 0, none⟩ (.int .u32 (sw : Int))).heap[w3.heap.size]? = some (.cells #[.int .u32 (sw : Int), .int .u32 (sm : Int)] 124)) := Lib.hid ((heap_setCell_same wa w3.heap.size 0 _ _ _ hN9).trans rfl)
      have hK10 := (hK8.trans (Kept.of_below hba (fun b hb => h8.lt b (.inl hb)))).trans (Kept.setCell (a := ⟨w3.heap.size, 0, none⟩) hNX.out (.int .u32 (sw : Int)))
      have hm10 : Hid (RowM (wa.setCell ⟨w3.heap.size, 0, none⟩ (.int .u32 (sw : Int))) g1 x1) := Lib.hid ((hm1.out.below hba).of_block (heap_setCell_other wa ⟨w3.heap.size, 0, none⟩ g1 _ hN12.1))
      replace hN9 := Lib.hid hN9
      go_wp2_with fail
      go_meet
      rw [hnx2.out, hfs2.out]
      exact ⟨Lib.hid rfl, hm10, hN10, h10, hK10⟩
    case rest =>
     clear hm1 hm2 hN1 hN2 h8 hK8 hsW hfs d1c hff
     obtain ⟨hf0, hm1, hN1, h1, hK1⟩ := hcut
     have hd3 := devFirst_disk s2 D2 n x1 x2 bs
     have hrm3 := Lib.hid (room_first hrm2.out D2 n x1 x2 bs)
     have hz := hwr.out
     rw [if_pos hf0.out] at hz
     generalize hfe : devFirst s2 D2 n x1 x2 bs = f at *
     obtain ⟨ef, s3, D3⟩ := f
     dsimp only at hd3 hrm3 hz h1
     replace hfe := Lib.hid hfe
     rw [hdk] at hd3
     have hq := nextP_lt D n (p1, p2) x2 bs
     generalize hnp : nextP D n (p1, p2) x2 bs = q at *
     replace hnp := Lib.hid hnp
     obtain ⟨q1, q2⟩ := q
     dsimp only at hq hN1 hz
     obtain ⟨hq1, hq2⟩ := hq
     replace hwr := Lib.hid hz
     clear hz hf0 hnx
     obtain ⟨y0, y1⟩ := two_cells wc _ _ _ _ hN1.out
     have i0 : ∀ w, (Instr.index 124 (.agg #[.int .u32 (q1 : Int), .int .u32 (q2 : Int)]) (.int .i64 0)).run Try.prog w = .ok (.int .u32 (q1 : Int)) w := fun _ => by kernel_rfl
     have i1 : ∀ w, (Instr.index 124 (.agg #[.int .u32 (q1 : Int), .int .u32 (q2 : Int)]) (.int .i64 1)).run Try.prog w = .ok (.int .u32 (q2 : Int)) w := fun _ => by kernel_rfl
     have w3' := u64_u32 q1 hq1
     have w4' := u64_u32 q2 hq2
     have e8 : (n : Int) % 16 * 8 = ((n % 16 * 8 : Nat) : Int) := by omega
     have hk0 : n % 16 * 8 ≤ 120 := by omega
     have hps : Hid (putSums x1 n (q1, q2) = putB (putB x1 (n % 16 * 8) (leBytes q1 4)) (n % 16 * 8 + 4) (leBytes q2 4)) := Lib.hid (put_four x1 _ _ _ (leBytes_len 4 q1) (leBytes_len 4 q2) (by rw [l1.out]; omega)).symm
     generalize n % 16 * 8 = k0 at *
     have hp1 := put_ok q1 4 wc (by omega) (by omega) hq1
     rw [show ((4 : Nat) : Int) = 4 from rfl] at hp1
     go_wp2_with fail
     refine wp_loop_rounds 3 ?_
     rw [rounds_succ]
     go_wp2_with fail
     with_reducible refine hp1.mono ?_
     rintro e wa ⟨A5, c5, rfl, ho5, hb5⟩
     obtain ⟨g5, rfl, hg5, hlt5, _⟩ := ho5.first (by rw [leBytes_len]; omega)
     have hm5 := hm1.out.below hb5
     obtain ⟨wb, hcp, hmb, hBb⟩ := ex_copy_m (P := Try.prog) wa 32 32 3 5 Try.underlying32 Try.infoU8 g1 k0 (128 - k0) (c1 - k0) x1 (leBytes q1 4) ⟨g5, 0, none⟩ 4 c5 hm5 ho5.rd (leBytes_len 4 q1) (by omega) (by rw [l1.out]; omega)
     have hlt1 : (k0 : Int) < c1 := by omega
     have hlt2 : (k0 : Int) ≤ 128 := by omega
     replace hmb := Lib.hid hmb
     replace hm5 := Lib.hid hm5
     replace ho5 := Lib.hid ho5
     clear hp1
     go_wp2_with fail
     have h5 := h1.below hb5
     have h6 := h5.but (b := g1) (.inr (.inl rfl)) hBb
     have hK6 := (hK1.trans (Kept.of_below hb5 (fun b hb => h1.lt b (.inl hb)))).trans (hBb.kept hgX1.out (fun b hb => h5.lt b (.inl hb)))
     clear h1 h5 hb5 hBb hK1 hm1 hm5 ho5 y0 y1 hN1 hcp i0 w3' hg5 hlt5
     have hpl1 : Hid ((putB x1 k0 (leBytes q1 4)).length = 128) := Lib.hid (by have := l1.out; simp [putB, leBytes_len]; omega)
     have hp2 := put_ok q2 4 wb (by omega) (by omega) hq2
     rw [show ((4 : Nat) : Int) = 4 from rfl] at hp2
     rw [rounds_succ]
     go_wp2_with fail
     with_reducible refine hp2.mono ?_
     rintro e wa ⟨A5, c5, rfl, ho5, hb5⟩
     obtain ⟨g5, rfl, hg5, hlt5, _⟩ := ho5.first (by rw [leBytes_len]; omega)
     have hm5 := hmb.out.below hb5
     obtain ⟨wd, hcp, hmd, hBd⟩ := ex_copy_m (P := Try.prog) wa 32 32 3 5 Try.underlying32 Try.infoU8 g1 (k0 + 4) (124 - k0) (c1 - (k0 + 4)) (putB x1 k0 (leBytes q1 4)) (leBytes q2 4) ⟨g5, 0, none⟩ 4 c5 hm5 ho5.rd (leBytes_len 4 q2) (by omega) (by rw [hpl1.out]; omega)
     have hlt3 : (k0 : Int) + 4 < c1 := by omega
     have hlt4 : (k0 : Int) + 4 ≤ 128 := by omega
     rw [← hps.out] at hmd
     replace hmd := Lib.hid hmd
     replace hm5 := Lib.hid hm5
     replace ho5 := Lib.hid ho5
     clear hp2
     go_wp2_with fail
     have h7 := h6.below hb5
     have h8 := h7.but (b := g1) (.inr (.inl rfl)) hBd
     have hK8 := (hK6.trans (Kept.of_below hb5 (fun b hb => h6.lt b (.inl hb)))).trans (hBd.kept hgX1.out (fun b hb => h7.lt b (.inl hb)))
     clear h6 h7 hb5 hBd hK6 hm5 ho5 hcp i1 w4' hmb hlt1 hlt2 hlt3 hlt4 hg5 hlt5
     have hSl : Hid ((putSums x1 n (q1, q2)).length = 128) := Lib.hid (by have h9 := hpl1.out; have h10 := l1.out; rw [hps.out]; simp [putB, leBytes_len]; omega)
     generalize putSums x1 n (q1, q2) = S at *
     clear hps hpl1
     have hpl : Hid (∀ W, _) := Lib.hid fun W => su_place n W (by omega)
     have hdp : Hid (devPut s3 D3 n S bs = let r := s3.writeR D.disk (sumAt n) S
      if r.1 = 0 then
       let f := devFlush r.2 D3
       if f.1 = 0 then
        let q := f.2.1.writeR f.2.2.disk (dataAt n) bs
        (q.1, q.2, if q.1 = 0 then { f.2.2 with opn := n } else f.2.2)
       else f
      else (r.1, r.2, D3)) := Lib.hid (by simp only [devPut, hd3, devFlush_disk])
     have hl3 := Lib.hid (write_len s3 D.disk (sumAt n) S)
     have hrm4 := Lib.hid (room_write hrm3.out D.disk (sumAt n) S)
     have hwr1 : Hid (∀ W, DvX (fun b => X b ∨ b = g1 ∨ b = g2 ∨ b = w3.heap.size) a g W s3 D3 → RowM W g1 S → _) := Lib.hid fun W hS hR => lx_write_in hS.sh D.disk (sumAt n) (some ⟨g1, 0, none⟩) 128 c1 S (hR.rd (by rw [hSl.out]; omega)) (fun ad e => by injection e with e; subst e; exact .inl (.inr (.inl rfl))) hSl.out ((hrm3.out.mono (by omega)) _)
     generalize sumAt n = pa at *
     generalize dataAt n = pd at *
     generalize hww : s3.writeR D.disk pa S = r at *
     obtain ⟨er, s4⟩ := r
     replace hww := Lib.hid hww
     dsimp only at hdp hl3 hrm4 hwr1
     rw [rounds_succ]
     go_wp2_with fail
     refine (hpl.out wd).mono ?_
     rintro e w' ⟨rfl, rfl⟩
     have c0 := h8.c0
     have d1c := h8.c1
     rw [hd3] at d1c
     have ha8 := h8.alt
     have hct := hwr1.out wd.drew h8.drew (hmd.out.of_block rfl)
     clear hwr1 hpl
     go_wp2_with fail
     go_still_tail 10, (by kernel_rfl)
     change wpList _ _ _ _ _ wd.drew
     go_wp2_with fail
     with_reducible refine hct.mono ?_
     rintro e w9 ⟨rfl, hS9, hK9⟩
     obtain ⟨h9, hK9⟩ := h8.drew.step hS9 hK9 hl3.out
     have hK9 := hK8.trans ((Kept.drew X wd).trans (hK9.mono fun b hb => .inl hb))
     clear hct hS9 c0 d1c ha8 h8 hK8 hmd
     by_cases he : er = 0
     ·have heb2 : (er != 0) = false := by simp [he]
      have hz := hdp.out
      rw [if_pos he] at hz
      subst he
      have hct := su_flush h9
      have hfd := devFlush_disk s4 D3
      rw [hd3] at hfd
      have hrm5 := Lib.hid (room_dflush hrm4.out D3)
      generalize hfl : devFlush s4 D3 = f at *
      obtain ⟨ef2, s5, D5⟩ := f
      replace hfl := Lib.hid hfl
      dsimp only at hct hz hfd hrm5
      replace hdp := Lib.hid hz
      clear hz
      go_wp2_with fail
      with_reducible refine hct.mono ?_
      rintro e wf ⟨rfl, h10, hK10⟩
      have hK10 := hK9.trans (hK10.mono fun b hb => .inl hb)
      clear hct h9 hK9
      by_cases he2 : ef2 = 0
      ·have heb3 : (ef2 != 0) = false := by simp [he2]
       have hz := hdp.out
       rw [if_pos he2] at hz
       subst he2
       have c0 := h10.c0
       have d1c := h10.c1
       rw [hfd] at d1c
       rw [hfd] at hz
       have ha10 := h10.alt
       have hl5 := Lib.hid (write_len s5 D.disk pd bs)
       have hct := lx_write_in h10.drew.sh D.disk pd A 128 c bs (hrd.out wf.drew (hK10.trans (Kept.drew X wf))) (fun ad e => .inl (.inl (hA.out ad e))) hL.out ((hrm5.out.mono (by omega)) _)
       generalize hw2 : s5.writeR D.disk pd bs = r2 at *
       obtain ⟨eq2, s6⟩ := r2
       replace hw2 := Lib.hid hw2
       dsimp only at hct hz hl5
       replace hdp := Lib.hid hz
       clear hz
       go_wp2_with fail
       go_still_tail 10, (by kernel_rfl)
       change wpList _ _ _ _ _ wf.drew
       go_wp2_with fail
       with_reducible refine hct.mono ?_
       rintro e wg ⟨rfl, hSg, hKg⟩
       obtain ⟨h11, hKg⟩ := h10.drew.step hSg hKg hl5.out
       have hKg := hK10.trans ((Kept.drew X wf).trans (hKg.mono fun b hb => .inl hb))
       clear hct hSg c0 d1c ha10 h10 hK10
       by_cases he3 : eq2 = 0
       ·have heb4 : (eq2 != 0) = false := by simp [he3]
        have hz := hdp.out
        rw [if_pos he3] at hz
        subst he3
        have f3 := h11.fr 3
        have ha11 := h11.alt
        have d3c := h11.c3
        have h12 := Lib.hid (h11.setOpn (n : Int))
        have hK12 := Lib.hid (hKg.trans (Kept.setCell (a := ⟨a, 3, none⟩) h.out (.int .i64 (n : Int))))
        replace hdp := Lib.hid hz
        clear hz
        go_wp2
        go_ret
        rw [hwr.out, hdp.out]
        have h13 : DvX X a g _ s6 _ := h12.out.mono fun b hb => .inl hb
        rw [hfd] at h13
        exact ⟨rfl, h13, hK12.out⟩
       ·have heb4 : (eq2 != 0) = true := by simp [he3]
        have hz := hdp.out
        rw [if_neg he3] at hz
        replace he3 := Lib.hid he3
        replace hdp := Lib.hid hz
        replace h11 := Lib.hid h11
        clear hz
        go_wp2
        go_ret
        rw [hwr.out, hdp.out]
        exact ⟨rfl, h11.out.mono fun b hb => .inl hb, hKg⟩
      ·have heb3 : (ef2 != 0) = true := by simp [he2]
       have hz := hdp.out
       rw [if_neg he2] at hz
       replace he2 := Lib.hid he2
       replace hdp := Lib.hid hz
       replace h10 := Lib.hid h10
       clear hz
       go_wp2
       go_ret
       rw [hwr.out, hdp.out]
       exact ⟨rfl, h10.out.mono fun b hb => .inl hb, hK10⟩
     ·have heb2 : (er != 0) = true := by simp [he]
      have hz := hdp.out
      rw [if_neg he] at hz
      replace he := Lib.hid he
      replace hdp := Lib.hid hz
      replace h9 := Lib.hid h9
      clear hz
      go_wp2
      go_ret
      rw [hwr.out, hdp.out]
      exact ⟨rfl, h9.out.mono fun b hb => .inl hb, hK9⟩
  ·have heb : (er != 0) = true := by simp [he]
   have hz := hwr.out
   rw [if_neg he] at hz
   replace hz := Lib.hid hz
   replace he := Lib.hid he
   replace h1 := Lib.hid h1
   clear hct hln hf1 hf2 hne
   go_wp2
   go_ret
   rw [hz.out]
   exact ⟨rfl, h1.out.mono fun b hb => .inl hb, hK1⟩
 ·have hz : devWrite s D n bs = (1, s, D) := by
   unfold devWrite
   rw [if_neg (by rw [hL]; exact h128)]
  have hlb : ((L : Int) != 128) = true := by rw [bne_iff_ne]; omega
  replace h128 := Lib.hid h128
  replace hz := Lib.hid hz
  replace h := Lib.hid h
  replace hr := Lib.hid hr
  replace hL := Lib.hid hL
  go_enter Try.func19, Try.ntmps19
  go_wp2
  go_ret
  rw [hz.out]
  exact ⟨rfl, h.out, Kept.refl _ _⟩
end
end
section
open Go.RowKit
section
variable {X : Nat → Prop} {a g : Nat} {w w1 w' : World} {s s' : ShM} {D : DevM}
theorem su_write_new (h : DvX X a g w s D) (hb : Below w.heap.size w w1) (hroom : Room 999999999990 s) (n : Int) (hn0 : -9223372036854775808 ≤ n) (hn1 : n ≤ 9223372036854775807) (A : Option Addr) (L c E : Nat) (bs : Bytes) (ho : Own w1 E w.heap.size (.slice A L c) bs) (hL : bs.length = L) :
  Calls Try.prog 19 #[.pointer (some ⟨a, 0, none⟩), .int .i64 n, .slice A L c] w1 (WrPost X a g w (devWrite s D n bs)) := by
 have hown : ∀ ad, A = some ad → w.heap.size ≤ ad.block ∧ ad.block < w1.heap.size := by
  intro ad e
  obtain ⟨A', c', hv, _, h2⟩ := ho.form
  injection hv with e1
  subst e1
  obtain ⟨x, rfl, h4, h5⟩ := h2 ad e
  exact ⟨h4, h5⟩
 have h1 : DvX (fun b => X b ∨ ∃ ad, A = some ad ∧ ad.block = b) a g w1 s D := h.more hb fun b hx => by
  rcases hx with hx | ⟨ad, e, rfl⟩
  ·exact ⟨Nat.lt_of_lt_of_le (h.lt b hx) hb.size, .inl hx⟩
  ·exact ⟨(hown ad e).2, .inr (hown ad e).1⟩
 refine (su_write h1 hroom n hn0 hn1 A L c bs ho.rd hL (fun ad e => .inr ⟨ad, e, rfl⟩)).mono ?_
 rintro e w' ⟨r1, r2, r3⟩
 exact ⟨r1, r2.mono fun b hx => .inl hx, (Kept.of_below hb h.lt).trans (r3.mono fun b hx => .inl hx)⟩
end
end
section
open Go.RowKit
def rdS (s : ShM) (d n : Nat) : Bytes := (s.disk d).read n
structure Run (s : ShM) (d : Nat) : Prop where
 ok : s.Ok
 on : s.stops = false
 disk : d < s.disks.length
 alive : (s.disk d).dead = false
theorem lastOf_app (ws : List (Nat × Bytes)) (n m : Nat) (b : Bytes) : lastOf (ws ++ [(n, b)]) m = if n = m then some b else lastOf ws m := by
 unfold lastOf
 rw [List.reverse_append]
 simp only [List.reverse_singleton, List.singleton_append, List.find?_cons]
 by_cases h : n = m
 ·simp [h]
 ·have : (n == m) = false := by simpa using h
  simp [this, h]
section
variable {s : ShM} {d : Nat} {D : DevM}
theorem Run.off (h : Run s d) : s.off = false := by simp [ShM.off, h.on]
theorem Run.why (h : Run s d) : s.why d = 0 := by simp [ShM.why, h.off, h.alive]
theorem Run.has (h : Run s d) {n : Nat} (hn : n < s.sectors) : s.has d n = true := by
 simp only [ShM.has, decide_eq_true_eq]
 have := h.disk
 omega
theorem Run.tick (h : Run s d) : Run s.tick d := ⟨⟨h.ok.disks1, h.ok.disks17, h.ok.sectors1, h.ok.sectors4096, h.ok.sure, h.ok.sec, h.ok.waits⟩, h.on, h.disk, h.alive⟩
theorem Run.len (h : Run s d) {n : Nat} (hn : n < s.sectors) : (rdS s d n).length = 128 := read_len h.ok h.disk hn
theorem ok_set (h : s.Ok) (d : Nat) (k : DiskM) (h1 : k.sure.length = s.sectors) (h2 : ∀ b ∈ k.sure, b.length = 128) (h3 : ∀ x ∈ k.waits, x.1 < s.sectors ∧ x.2.length = 128) : (s.setDisk d k).Ok := by
 refine ⟨by rw [s.set_len]; exact h.disks1, by rw [s.set_len]; exact h.disks17, h.sectors1, h.sectors4096, ?_, ?_, ?_⟩
 all_goals
  intro x hx
  rcases List.mem_or_eq_of_mem_set hx with hx | rfl
 ·exact h.sure _ hx
 ·exact h1
 ·exact h.sec _ hx
 ·exact h2
 ·exact h.waits _ hx
 ·exact h3
theorem run_read (h : Run s d) {n : Nat} (hn : n < s.sectors) : s.readR d n = (rdS s d n, 0, s.tick) := by
 have hh := h.has hn
 have hw := h.why
 simp only [ShM.readR, hh, if_true, Int.toNat_natCast, hw]
 rfl
structure Flushed (s s' : ShM) (d : Nat) : Prop where
 run : Run s' d
 sec : s'.sectors = s.sectors
 len : s'.disks.length = s.disks.length
 rd : ∀ m, m < s.sectors → rdS s' d m = rdS s d m
 waits : (s'.disk d).waits = []
 sure : ∀ m, m < s.sectors → (s'.disk d).sure.getD m [] = rdS s d m
 other : ∀ e, e ≠ d → s'.disk e = s.disk e
theorem stand_put (S : Bytes) (n : Nat) (p : Nat × Nat) (hS : S.length = 128) (h1 : p.1 < 4294967296) (h2 : p.2 < 4294967296) : standP (putSums S n p) n = p ∧ (putSums S n p).length = 128 := by
 obtain ⟨p1, p2⟩ := p
 have hk : n % 16 * 8 ≤ 120 := by omega
 unfold standP putSums
 generalize n % 16 * 8 = k at *
 have ht : (S.take k).length = k := by simp; omega
 have e1 : (S.take k ++ (leBytes p1 4 ++ leBytes p2 4) ++ S.drop (k + 8)).drop k = leBytes p1 4 ++ (leBytes p2 4 ++ S.drop (k + 8)) := by
  rw [List.append_assoc, List.drop_left' ht, List.append_assoc]
 have e2 : (S.take k ++ (leBytes p1 4 ++ leBytes p2 4) ++ S.drop (k + 8)).drop (k + 4) = leBytes p2 4 ++ S.drop (k + 8) := by
  rw [← List.drop_drop, e1, List.drop_left' (leBytes_len 4 p1)]
 refine ⟨?_, ?_⟩
 ·show (leNum _, leNum _) = _
  rw [e1, e2, List.take_left' (leBytes_len 4 p1), List.take_left' (leBytes_len 4 p2), leNum_leBytes, leNum_leBytes]
  have h1' : p1 < 4294967296 := h1
  have h2' : p2 < 4294967296 := h2
  rw [Nat.mod_eq_of_lt (by omega), Nat.mod_eq_of_lt (by omega)]
 ·simp [leBytes_len]
  omega
theorem take_mid (S A : Bytes) (k o : Nat) (ht : k + 8 ≤ S.length) (hA : A.length = 8) (ho : o + 4 ≤ k ∨ k + 8 ≤ o) : ((S.take k ++ A ++ S.drop (k + 8)).drop o).take 4 = (S.drop o).take 4 := by
 apply List.ext_getElem?
 intro i
 simp only [List.getElem?_take, List.getElem?_drop]
 by_cases hi : i < 4
 ·rw [if_pos hi, if_pos hi]
  rcases ho with ho | ho
  ·rw [List.append_assoc, List.getElem?_append_left (by simp; omega), List.getElem?_take, if_pos (by omega)]
  ·rw [List.getElem?_append_right (by simp [hA]; omega), List.getElem?_drop]
   congr 1
   simp [hA]
   omega
 ·rw [if_neg hi, if_neg hi]
theorem stand_put_ne (S : Bytes) (n m : Nat) (p : Nat × Nat) (hS : S.length = 128) (h : n % 16 ≠ m % 16) : standP (putSums S n p) m = standP S m := by
 have hk : n % 16 * 8 ≤ 120 := by omega
 have hA : (leBytes p.1 4 ++ leBytes p.2 4).length = 8 := by simp [leBytes_len]
 unfold standP putSums
 rw [take_mid S _ _ _ (by omega) hA (by omega), take_mid S _ _ _ (by omega) hA (by omega)]
theorem sumB_lt (d b : Int) (x : Bytes) : sumB d b x < 4294967296 := crc_lt _ _
theorem fits_snd (d : Nat) (p : Nat × Nat) (n : Nat) (x : Bytes) (h : sumB d n x = p.2) : fitsP d p n x = true := by simp [fitsP, h]
theorem fits_fst (d : Nat) (p : Nat × Nat) (n : Nat) (x : Bytes) (h : sumB d n x = p.1) : fitsP d p n x = true := by simp [fitsP, h]
structure DRun (s : ShM) (D : DevM) : Prop where
 run : Run s D.disk
 size : (D.size : Int) = blocksI s.sectors
theorem DRun.place (h : DRun s D) {n : Nat} (hn : n < D.size) : sumAt n < s.sectors ∧ dataAt n < s.sectors := by
 have hz := h.size
 have h1 := h.run.ok.sectors1
 unfold blocksI at hz
 rw [if_neg (by omega)] at hz
 unfold sumAt dataAt
 omega
theorem place_ne {n m : Nat} : sumAt n ≠ dataAt m ∧ (n ≠ m → dataAt n ≠ dataAt m) := by
 unfold sumAt dataAt
 omega
theorem DRun.sector (h : DRun s D) {n : Nat} (hn : n < D.size) : devSector s D n = (rdS s D.disk (sumAt n), rdS s D.disk (dataAt n), 0, s.tick.tick) := by
 obtain ⟨h1, h2⟩ := h.place hn
 have e1 := run_read h.run h1
 have e2 := run_read h.run.tick (n := dataAt n) h2
 have hb : (0 : Int) ≤ (n : Int) ∧ (n : Int) < (D.size : Int) := by omega
 rw [sec_ok (s := s) (D := D) (n := n) hb (by rw [Int.toNat_natCast, e1]), Int.toNat_natCast, e1]
 dsimp only
 rw [e2]
 rfl
theorem DRun.tick (h : DRun s D) : DRun s.tick D := ⟨h.run.tick, h.size⟩
structure DWrote (s s' : ShM) (D D' : DevM) (n : Nat) (b : Bytes) : Prop where
 run : DRun s' D'
 disk : D'.disk = D.disk
 size : D'.size = D.size
 opn : D'.opn = n
 sec : s'.sectors = s.sectors
 len : s'.disks.length = s.disks.length
 data : rdS s' D.disk (dataAt n) = b
 sums : ∃ p, p.2 = sumB D.disk n b ∧ p.1 < 4294967296 ∧ rdS s' D.disk (sumAt n) = putSums (rdS s D.disk (sumAt n)) n p
 still : ∀ m, m < s.sectors → m ≠ sumAt n → m ≠ dataAt n → rdS s' D.disk m = rdS s D.disk m
 waits : (s'.disk D.disk).waits = [(dataAt n, b)]
 other : ∀ e, e ≠ D.disk → s'.disk e = s.disk e
end
end
section
open Go.RowKit
section
variable {s s' : ShM} {D D' : DevM} {d n : Nat} {b : Bytes}
theorem room_by {N : Nat} (h : Room N s) (d : Nat) (h1 : (s'.disk d).waits.length ≤ N) (h2 : ∀ e, e ≠ d → s'.disk e = s.disk e) : Room N s' := by
 intro e
 by_cases he : e = d
 ·subst he; exact h1
 ·rw [h2 e he]; exact h e
theorem DWrote.room (h : DWrote s s' D D' n b) {N : Nat} (hN : 1 ≤ N) (hr : Room N s) : Room N s' := room_by hr D.disk (by rw [h.waits]; simpa using hN) h.other
theorem Flushed.room (h : Flushed s s' d) {N : Nat} (hr : Room N s) : Room N s' := room_by hr d (by rw [h.waits]; simp) h.other
structure Turned (s s' : ShM) (d n : Nat) (b : Bytes) : Prop where
 run : Run s' d
 sec : s'.sectors = s.sectors
 len : s'.disks.length = s.disks.length
 rd : ∀ m, m < s.sectors → rdS s' d m = if m = n then b else rdS s d m
 waits : (s'.disk d).waits = []
 other : ∀ e, e ≠ d → s'.disk e = s.disk e
theorem rd_nowait (h : (s.disk d).waits = []) (m : Nat) : rdS s d m = (s.disk d).sure.getD m [] := by
 simp [rdS, DiskM.read, lastOf, h]
theorem Turned.room (h : Turned s s' d n b) {N : Nat} (hr : Room N s) : Room N s' := room_by hr d (by rw [h.waits]; simp) h.other
end
structure LawS (X : Nat → Prop) (a g : Nat) (w : World) (s : ShM) (D : DevM) : Prop where
 dv : DvX X a g w s D
 run : DRun s D
 room : Room 100 s
section
variable {X : Nat → Prop} {a g : Nat} {w w1 w' : World} {s s' : ShM} {D : DevM}
theorem LawS.below (h : LawS X a g w s D) (hb : Below w.heap.size w w') : LawS X a g w' s D := ⟨h.dv.below hb, h.run, h.room⟩
theorem LawS.mono (h : LawS X a g w s D) {Y : Nat → Prop} (hY : ∀ b, Y b → X b) : LawS Y a g w s D := ⟨h.dv.mono hY, h.run, h.room⟩
theorem LawS.more (h : LawS X a g w s D) (hb : Below w.heap.size w w') {Y : Nat → Prop} (hY : ∀ b, Y b → b < w'.heap.size ∧ (X b ∨ w.heap.size ≤ b)) : LawS Y a g w' s D := ⟨h.dv.more hb hY, h.run, h.room⟩
end
end
end Go.Proofs.Ytajnlhalanhicaa

/-
 Several texts of this work in one (merge.py): RdC, RdD, RdE, RdF, RdM, RdG, RdH, RdI, RdJ, RdK, RdL.
-/
import Derived.Test.YtajnlhalanhicaaGreatRq
import Derived.Test.YtajnlhalanhicaaGreatRp
import Derived.Test.YtajnlhalanhicaaGreatSuY
import Derived.Test.YtajnlhalanhicaaGreatHeldTail
import Derived.Test.YtajnlhalanhicaaGreatOpG
import Derived.Test.YtajnlhalanhicaaGreatRaLz
import Derived.BigQuiet
namespace Go.Proofs.YtajnlhalanhicaaGreat
set_option linter.all false
set_option maxRecDepth 20000
section
open Go.RowKit
section
variable {base rb mb cap N m st lg : Nat} {G : Nat → Nat × Nat × Nat} {F F' : VolF} {tv : Value} {w w' : World} {s s' : ShM} {V V' : VolM} {L : Nat → List Bytes} {killed : Bool}
def RX (base rb mb : Nat) (G : Nat → Nat × Nat × Nat) (N : Nat) (b : Nat) : Prop := b < base ∨ b = rb ∨ MayB mb G N b
def rigR (F : VolF) (mb cap N m st lg : Nat) (tv : Value) (killed : Bool) : Array Value := #[.pointer (some ⟨F.g, 0, none⟩), .pointer (some ⟨F.v, 0, none⟩), .int .i64 (m : Int), .int .i64 (st : Int), .int .i64 (lg : Int), .slice (some ⟨mb, 0, none⟩) N cap, .bool killed, tv, .bool false]
structure RigAt (w : World) (base rb mb cap : Nat) (G : Nat → Nat × Nat × Nat) (F : VolF) (tv : Value) (m st lg N : Nat) (s : ShM) (V : VolM) (L : Nat → List Bytes) (killed : Bool) : Prop where
 row : w.heap[rb]? = some (.cells (rigR F mb cap N m st lg tv killed) 39)
 may : MayAt w base mb G cap N L
 vol : VolX (RX base rb mb G N) F w s V
 rbne : ¬ MayB mb G N rb
 low : base ≤ rb
 ncap : N ≤ cap
theorem RigAt.rlt (h : RigAt w base rb mb cap G F tv m st lg N s V L killed) : rb < w.heap.size := lt_of_row h.row
theorem RigAt.bsz (h : RigAt w base rb mb cap G F tv m st lg N s V L killed) : base ≤ w.heap.size := Nat.le_trans h.low (Nat.le_of_lt h.rlt)
theorem RigAt.c (h : RigAt w base rb mb cap G F tv m st lg N s V L killed) (k : Nat) : w.cell? ⟨rb, k, none⟩ = (rigR F mb cap N m st lg tv killed)[k]? := cell_of_row w rb k _ _ _ h.row
theorem RigAt.keep (h : RigAt w base rb mb cap G F tv m st lg N s V L killed) (hV : VolX (RX base rb mb G N) F w' s' V') (hK : Kept (RX base rb mb G N) w w') : RigAt w' base rb mb cap G F tv m st lg N s' V' L killed :=
 ⟨(hK.block rb (.inr (.inl rfl))).trans h.row, h.may.kept fun b hb => hK.block b (.inr (.inr hb)), hV, h.rbne, h.low, h.ncap⟩
theorem RigAt.below (h : RigAt w base rb mb cap G F tv m st lg N s V L killed) (hb : Below w.heap.size w w') : RigAt w' base rb mb cap G F tv m st lg N s V L killed :=
 h.keep (h.vol.below hb) (Kept.of_below hb h.vol.lt)
theorem RigAt.kbelow {w0 : World} (hB : Below base w0 w) (hK : Kept (RX base rb mb G N) w w') : Below base w0 w' := hB.trans (hK.below fun b hb => .inl hb)
theorem RigAt.field (h : RigAt w base rb mb cap G F tv m st lg N s V L killed) (k : Nat) (v : Value) {F' : VolF} {killed' : Bool} {s' : ShM} {V' : VolM} (hV : VolX (RX base rb mb G N) F' w s' V') (hr : (rigR F mb cap N m st lg tv killed).setIfInBounds k v = rigR F' mb cap N m st lg tv killed') :
  RigAt (w.setCell ⟨rb, k, none⟩ v) base rb mb cap G F' tv m st lg N s' V' L killed' := by
 have hoth : ∀ b, b ≠ rb → (w.setCell ⟨rb, k, none⟩ v).heap[b]? = w.heap[b]? := fun b hb => heap_setCell_other w ⟨rb, k, none⟩ b _ hb
 have hsz : (w.setCell ⟨rb, k, none⟩ v).heap.size = w.heap.size := by simp [World.setCell]
 refine ⟨?_, h.may.kept fun b hb => hoth b fun e => h.rbne (e ▸ hb), hV.other (Nat.le_of_eq hsz.symm) fun b _ hn => hoth b fun e => hn (.inr (.inl e)), h.rbne, h.low, h.ncap⟩
 rw [← hr]
 exact heap_setCell_same w rb k _ _ _ h.row
theorem RigAt.put (h : RigAt w base rb mb cap G F tv m st lg N s V L killed) {k g' o' c' n : Nat} (hk : k < N) (hBt : But (G k).1 w w') {l : List Bytes} (hm : l.length = n) (hV : VlAt w' 9 base g' o' c' (l.map strV)) (hg : g' = (G k).1 ∨ w.heap.size ≤ g') :
  RigAt (w'.setCell ⟨mb, k, none⟩ (.slice (some ⟨g', o', none⟩) n c')) base rb mb cap (updM G k (g', o', c')) F tv m st lg N s V (updM L k l) killed ∧
  ∀ w0, Below base w0 w → Below base w0 (w'.setCell ⟨mb, k, none⟩ (.slice (some ⟨g', o', none⟩) n c')) := by
 have hsz : (w'.setCell ⟨mb, k, none⟩ (.slice (some ⟨g', o', none⟩) n c')).heap.size = w'.heap.size := by simp [World.setCell]
 have hM := h.may
 have hM' := hM.set (w' := w') (k := k) (n' := N) (by have := h.ncap; omega) (fun j hj => .inl hj) hBt.size (fun b hb hne => hBt.block b hb (hne hk)) hm hV (hg.imp (fun e => ⟨hk, e⟩) id)
 have hge := (hM.el k hk).1.1
 have hmbr : rb ≠ mb := fun e => h.rbne (.inl e)
 have hgr : rb ≠ (G k).1 := fun e => h.rbne (.inr ⟨k, hk, e⟩)
 have hsame : ∀ b, b < w.heap.size → ¬ RX base rb mb G N b → (w'.setCell ⟨mb, k, none⟩ (.slice (some ⟨g', o', none⟩) n c')).heap[b]? = w.heap[b]? := fun b hb hx => by
  rw [heap_setCell_other _ ⟨mb, k, none⟩ b _ (fun e => hx (.inr (.inr (.inl e))))]
  exact hBt.block b hb fun e => hx (.inr (.inr (.inr ⟨k, hk, e⟩)))
 have hsz2 := hBt.size
 have hY : ∀ b, RX base rb mb (updM G k (g', o', c')) N b → b < w'.heap.size ∧ (RX base rb mb G N b ∨ w.heap.size ≤ b) := fun b hb => by
  have hbz := h.bsz
  have hr := h.rlt
  rcases hb with hb | rfl | rfl | ⟨j, hj, rfl⟩
  ·exact ⟨by omega, .inl (.inl hb)⟩
  ·exact ⟨by omega, .inl (.inr (.inl rfl))⟩
  ·exact ⟨by have := hM.mblt; omega, .inl (.inr (.inr (.inl rfl)))⟩
  ·by_cases e : j = k
   ·subst e
    rw [updM_same]
    exact ⟨hV.lt, hg.imp (fun e => .inr (.inr (.inr ⟨j, hj, e⟩))) id⟩
   ·rw [updM_ne _ _ e]
    exact ⟨by have := (hM.el j hj).1.lt; omega, .inl (.inr (.inr (.inr ⟨j, hj, rfl⟩)))⟩
 have hrbY : ¬ MayB mb (updM G k (g', o', c')) N rb := fun hx => by
  rcases hx with e | ⟨j, hj, e⟩
  ·exact hmbr e
  ·by_cases e2 : j = k
   ·subst e2
    rw [updM_same] at e
    rcases hg with hg | hg
    ·exact hgr (e.trans hg)
    ·have := h.rlt
     have e : rb = g' := e
     omega
   ·rw [updM_ne _ _ e2] at e
    exact h.rbne (.inr ⟨j, hj, e⟩)
 refine ⟨⟨?_, hM', ?_, hrbY, h.low, h.ncap⟩, fun w0 hB => (hB.trans ⟨hBt.os, hBt.tape, hBt.output, hBt.size, fun b hb => hBt.block b (by have := h.bsz; omega) (by omega)⟩).setCell (p := ⟨mb, k, none⟩) hM.low _⟩
 ·rw [heap_setCell_other _ ⟨mb, k, none⟩ rb _ hmbr, hBt.block rb h.rlt hgr]
  exact h.row
 ·refine h.vol.rows (h.vol.sh.more (by rw [hsz]; exact hBt.size) (fun b hb hx => hsame b hb fun hx2 => hx (.inl hx2)) fun b hb => ?_) (fun b hb hy => ?_) (fun b hb => hsame b (h.vol.olt b hb) (h.vol.out b hb)) h.vol.ok
  ·rw [hsz]
   rcases hb with hb | hb
   ·exact ⟨(hY b hb).1, (hY b hb).2.imp (fun h => .inl h) id⟩
   ·exact ⟨by have := h.vol.olt b hb; omega, .inl (.inr hb)⟩
  ·rcases (hY b hy).2 with h1 | h1
   ·exact h.vol.out b hb h1
   ·have := h.vol.olt b hb; omega
end
end
section
open Go.RowKit
section
variable {base rb mb cap N m st lg : Nat} {G : Nat → Nat × Nat × Nat} {F F' : VolF} {tv : Value} {w w' : World} {s s' : ShM} {V V' : VolM} {L : Nat → List Bytes} {killed : Bool} {U D : Nat → Nat → Bytes} {M : Nat → Nat → Bytes → Prop} {B : Nat → Nat} {O : Nat → Bytes} {May : Nat → Bytes → Prop}
theorem VlAt.lit {W : World} {E base : Nat} (v : Value) (hb : base ≤ W.heap.size) : VlAt (W.alloc (.cells #[v] E)) E base W.heap.size 0 1 [v] := by
 refine ⟨hb, by simp, by simp [maxLen], #[v], heap_alloc_new W _, rfl, fun i hi => ?_⟩
 simp only [List.length_singleton] at hi
 obtain rfl : i = 0 := by omega
 rfl
theorem Rd.blk {w w' : World} {A : Option Addr} {bs : List UInt8} (h : Rd w A bs) (hb : ∀ ad, A = some ad → w'.heap[ad.block]? = w.heap[ad.block]?) : Rd w' A bs :=
 ⟨h.1, h.2.1, fun ad e i hi => (World.cell?_of_block (by rw [add_block]; exact hb ad e)).trans (h.2.2 ad e i hi)⟩
theorem Rd.blt {w : World} {A : Option Addr} {bs : List UInt8} (h : Rd w A bs) (hl : 0 < bs.length) (ad : Addr) (e : A = some ad) : ad.block < w.heap.size := by
 have := World.block_lt_of_cell? w _ (h.2.2 ad e 0 hl)
 rwa [add_block] at this
theorem But.of_below {g : Nat} {w w' : World} (h : Below w.heap.size w w') : But g w w' := ⟨h.os, h.tape, h.output, h.size, fun k hk _ => h.block k hk⟩
def SettlePost (w : World) (base rb mb cap : Nat) (F : VolF) (tv : Value) (m st lg N : Nat) (s : ShM) (V : VolM) (D : Nat → Nat → Bytes) (killed : Bool) (e : Ending) (w' : World) : Prop :=
 e = .returned (.bool true) ∧ ∃ G s' L, RigAt w' base rb mb cap G F tv m st lg N s' V L killed ∧ Ticked s s' ∧ (∀ b, b < N → L b = [D (spotN V.m b).member (spotN V.m b).stripe]) ∧ Below base w w'
set_option maxRecDepth 100000 in
set_option maxHeartbeats 16000000 in
theorem settle_any (h : RigAt w base rb mb cap G F tv m st lg N s V L killed) (hl : LiveV s V U M D B O May) (hon : s.off = false) (hsz : V.size = N) (hin : ∀ b, b < N → D (spotN V.m b).member (spotN V.m b).stripe ∈ L b) (hlen : ∀ b, b < N → (L b).length ≤ 1000) (hN : N ≤ 1000) :
  Calls Tryz.prog 20 #[.pointer (some ⟨rb, 0, none⟩)] w (SettlePost w base rb mb cap F tv m st lg N s V D killed) := by
 have hdl : ∀ b, b < N → (D (spotN V.m b).member (spotN V.m b).stripe).length = 128 := fun b hb => by
  obtain ⟨q1, q2, _⟩ := spot_in hl.cv.m3 (show b < V.stripes * (V.m - 1) by rw [← hsz] at hb; exact hb)
  exact (hl.cv.fits _ q1).len _ q2
 have hbn := h.bsz
 have hrlt := h.rlt
 have hR0 := Lib.hid h
 have hT0 : Hid (Ticked s s) := Lib.hid (Ticked.refl s)
 have hB0 : Hid (Below base w w) := Lib.hid (Below.refl _ _)
 have hL0 : Hid (∀ b, (b < 0 → L b = [D (spotN V.m b).member (spotN V.m b).stripe]) ∧ (0 ≤ b → L b = L b)) := Lib.hid fun b => ⟨fun h => absurd h (by omega), fun _ => rfl⟩
 have hL00 : Hid (∀ b, (b < 0 → L b = [D (spotN V.m b).member (spotN V.m b).stripe]) ∧ (0 ≤ b → L b = L b)) := hL0
 replace hl := Lib.hid hl
 replace hin := Lib.hid hin
 replace hdl := Lib.hid hdl
 replace hlen := Lib.hid hlen
 replace hsz := Lib.hid hsz
 clear h
 go_enter Tryz.func20, Tryz.ntmps20
 go_wp2_with fail
 go_loopw [3] (fun q wr => ∃ (n : Nat) (G : Nat → Nat × Nat × Nat) (s' : ShM) (L' : Nat → List Bytes), q = .int .i64 n ∧ n ≤ N ∧ Hid (RigAt wr base rb mb cap G F tv m st lg N s' V L' killed) ∧ Hid (Ticked s s') ∧ Hid (Below base w wr) ∧ Hid (∀ b, (b < n → L' b = [D (spotN V.m b).member (spotN V.m b).stripe]) ∧ (n ≤ b → L' b = L b)))
  (fun q _ => N - (intOf q).toNat)
 case atStart => exact ⟨0, G, s, L, by go_num, by omega, hR0, hT0, hB0, Lib.hid fun b => ⟨fun h => absurd h (by omega), fun _ => rfl⟩⟩
 case round =>
  clear hR0 hT0 hB0 hL0 hL00
  obtain ⟨n, G, s', L', rfl, hn, hR, hT, hB, hL⟩ := hrel
  have r5 := hR.out.c 5
  have r1 := hR.out.c 1
  have hrl := hR.out.rlt
  simp only [rigR] at r5 r1
  by_cases hnN : n < N
  ·have hlv := hl.out.ticked hT.out
   have hon' : s'.off = false := hT.out.off.trans hon
   obtain ⟨s2, hrd, hT2⟩ := hlv.readD hon' (by rw [hsz.out]; exact hnN)
   have hct := ra_read hR.out.vol (hlv.arr.room.mono (by omega)) n (by rw [hsz.out]; exact hnN)
   rw [hrd] at hct
   have hd128 := hdl.out n hnN
   have hinn := hin.out n hnN
   have hLn : L' n = L n := (hL.out n).2 (Nat.le_refl _)
   rw [← hLn] at hinn
   have hln := hlen.out n hnN
   rw [← hLn] at hln
   generalize hbs : D (spotN V.m n).member (spotN V.m n).stripe = bs at *
   replace hbs := Lib.hid hbs
   have hT02 := Lib.hid (hT.out.trans hT2)
   unfold BytesPost at hct
   dsimp only at hct
   rw [hd128] at hct
   clear hlv hrd hT2 hLn
   go_wp2_with fail
   with_reducible refine hct.mono ?_
   rintro e w2 ⟨A2, c2, rfl, hR2, hc2, hA2, hV2, hK2⟩
   have hG2 := hR.out.keep (hV2.mono fun b hb => .inl hb) hK2
   have hB2 := RigAt.kbelow hB.out hK2
   have hMl := hG2.may
   have hA2l : Hid (∀ ad, A2 = some ad → ad.block < w2.heap.size) := Lib.hid fun ad e => hR2.blt (by omega) ad e
   have hcv0 : Hid (∀ W, Below w2.heap.size w2 W → (convert 45 9 (.slice A2 128 c2)).run Tryz.prog W = .ok (.string ⟨bs.toArray⟩) W) := Lib.hid fun W hW =>
    run_string_rd (P := Tryz.prog) W 45 9 5 Tryz.underlying45 Tryz.underlying5 Tryz.underlying9 A2 128 c2 bs (hR2.below hW) hd128
   have r5 := hG2.c 5
   have hrl := hG2.rlt
   simp only [rigR] at r5
   have hncap := hG2.ncap
   replace hG2 := Lib.hid hG2
   replace hB2 := Lib.hid hB2
   replace hMl := Lib.hid hMl
   clear hct hV2 hK2 hR hB hT r1 hA2 hc2 hR2
   go_wp2_with fail
   go_loopw [6, 7] (fun p q wr => ∃ (i : Nat) (b : Bool), p = .bool b ∧ q = .int .i64 i ∧ i ≤ (L' n).length ∧ Hid (b = ((L' n).take i).contains bs) ∧ Hid (Below w2.heap.size w2 wr))
    (fun p q _ => ((L' n).length - intOf q).toNat)
   case atStart => exact ⟨0, false, rfl, by go_num, by omega, Lib.hid (by simp), Lib.hid (by first | exact Below.refl _ _ | exact (Below.refl _ _).drew)⟩
   case round =>
    obtain ⟨i, b, rfl, rfl, hil, hbb, hbel⟩ := hrel
    have hMw := hMl.out.below hbel.out
    have hhd := hMw.head hnN
    have r5w : wr.cell? ⟨rb, 5, none⟩ = some (.slice (some ⟨mb, 0, none⟩) N cap) := (hbel.out.cell hrl).trans r5
    by_cases hi : i < (L' n).length
    ·have hst := hMw.str hnN hi
     have htk : (L' n).take (i + 1) = (L' n).take i ++ [(L' n)[i]] := by rw [List.take_succ, List.getElem?_eq_getElem hi]; rfl
     have hcw := hcv0.out _ hbel.out.drew
     have hbw := Lib.hid hbel.out.drew
     generalize (L' n)[i] = x at *
     replace hst : wr.cell? ⟨(G n).1, (G n).2.1 + i, none⟩ = some (.string ⟨x.toArray⟩) := hst
     replace htk := Lib.hid htk
     replace hMw := Lib.hid hMw
     have hig : ((L' n).length : Int) ≤ 1001 := by omega
     cases b with
     | true =>
      go_wp2_with fail
      refine wp_region_held_drew (S := (fun W => W.cell? ⟨rb, 5, none⟩ = some (.slice (some ⟨mb, 0, none⟩) N cap) ∧ W.cell? ⟨mb, n, none⟩ = some (.slice (some ⟨(G n).1, (G n).2.1, none⟩) (L' n).length (G n).2.2) ∧ W.cell? ⟨(G n).1, (G n).2.1 + i, none⟩ = some (.string ⟨x.toArray⟩) ∧ (convert 45 9 (.slice A2 128 c2)).run Tryz.prog W = .ok (.string ⟨bs.toArray⟩) W)) (by kernel_rfl) ?_ (fun hHeld => ?_)
      ·(try dsimp only)
       exact ⟨r5w, hhd, hst, hcw⟩
      refine tkA 0 ?_
      refine tkA 1 ?_
      refine tuA 2 ?_
      refine tuA 3 ?_
      refine tuA 4 ?_
      refine tuA 5 ?_
      refine tuA 6 ?_
      refine tuA 7 ?_
      refine tuA 8 ?_
      refine tuA 9 ?_
      refine tuA 10 ?_
      refine tuA 11 ?_
      refine tuA 12 ?_
      refine tuA 13 ?_
      refine tuA 14 ?_
      refine tkA 15 ?_
      refine tkA 16 ?_
      refine wpAnyH_done (by kernel_rfl) ?_ _
      go_wp2
      go_roundw
      case rel => exact ⟨i + 1, _, rfl, by go_num, by omega, Lib.hid (by rw [htk.out, List.contains_append, ← hbb.out, List.contains_cons, List.contains_nil, Bool.or_false]; first | rfl | (rw [Bool.false_or]; rfl) | (rw [Bool.true_or]; rfl) | (rw [Bool.false_or, Bool.eq_iff_iff, beq_iff_eq, beq_iff_eq]; exact eq_comm) | (rw [Bool.true_or])), hbw⟩
      case measure => simp [intOf]; omega
     | false =>
      go_wp2_with fail
      refine wp_region_held_drew (S := (fun W => W.cell? ⟨rb, 5, none⟩ = some (.slice (some ⟨mb, 0, none⟩) N cap) ∧ W.cell? ⟨mb, n, none⟩ = some (.slice (some ⟨(G n).1, (G n).2.1, none⟩) (L' n).length (G n).2.2) ∧ W.cell? ⟨(G n).1, (G n).2.1 + i, none⟩ = some (.string ⟨x.toArray⟩) ∧ (convert 45 9 (.slice A2 128 c2)).run Tryz.prog W = .ok (.string ⟨bs.toArray⟩) W)) (by kernel_rfl) ?_ (fun hHeld => ?_)
      ·(try dsimp only)
       exact ⟨r5w, hhd, hst, hcw⟩
      refine tkA 0 ?_
      refine tkA 1 ?_
      refine tkA 2 ?_
      refine tkA 3 ?_
      refine tkA 4 ?_
      refine tkA 5 ?_
      refine tkA 6 ?_
      refine tkA 7 ?_
      refine tkA 8 ?_
      refine tkA 9 ?_
      refine tkA 10 ?_
      refine tkA 11 ?_
      refine tkA 12 ?_
      refine tkA 13 ?_
      refine tkA 14 ?_
      refine tkA 15 ?_
      refine tkA 16 ?_
      refine wpAnyH_done (by kernel_rfl) ?_ _
      go_wp2
      go_roundw
      case rel => exact ⟨i + 1, _, rfl, by go_num, by omega, Lib.hid (by rw [htk.out, List.contains_append, ← hbb.out, List.contains_cons, List.contains_nil, Bool.or_false]; first | rfl | (rw [Bool.false_or]; rfl) | (rw [Bool.true_or]; rfl) | (rw [Bool.false_or, Bool.eq_iff_iff, beq_iff_eq, beq_iff_eq]; exact eq_comm) | (rw [Bool.true_or])), hbw⟩
      case measure => simp [intOf]; omega
    ·obtain rfl : i = (L' n).length := by omega
     have hbt : b = true := by rw [hbb.out, List.take_length]; simpa using hinn
     subst hbt
     have hGw := hG2.out.below hbel.out
     have hBw := hB2.out.trans (hbel.out.mono hG2.out.bsz)
     have hcw := hcv0.out _ hbel.out.drew
     have hwsz := hbel.out.size
     have hrlw := hGw.rlt
     have hmbw := hGw.may.mblt
     have hfz := (hGw.may.room (k := n) (by omega)).2
     have hS8 : (wr.alloc (.cells #[.string ⟨bs.toArray⟩] 9)).drew.cell? ⟨rb, 5, none⟩ = some (.slice (some ⟨mb, 0, none⟩) N cap) ∧ (convert 45 9 (.slice A2 128 c2)).run Tryz.prog (wr.alloc (.cells #[.string ⟨bs.toArray⟩] 9)).drew = .ok (.string ⟨bs.toArray⟩) (wr.alloc (.cells #[.string ⟨bs.toArray⟩] 9)).drew :=
      ⟨(World.cell?_alloc_lt _ _ _ hrlw).trans r5w, hcv0.out _ (hbel.out.alloc hwsz _).drew⟩
     have hbel9 : Below wr.heap.size wr (wr.alloc (.cells #[.string ⟨bs.toArray⟩] 9)).drew := ((Below.refl _ _).alloc (Nat.le_refl _) _).drew
     obtain ⟨hR9, hB9⟩ := hGw.put (k := n) hnN (w' := (wr.alloc (.cells #[.string ⟨bs.toArray⟩] 9)).drew) (But.of_below hbel9) (l := [bs]) (n := 1) rfl ((VlAt.lit (W := wr) _ hGw.bsz).kept rfl) (.inr (Nat.le_refl _))
     have hBfin := Lib.hid (hB9 w hBw)
     have hc9 : (wr.alloc (.cells #[.string ⟨bs.toArray⟩] 9)).drew.cell? ⟨mb, n, none⟩ = some (.slice (some ⟨(G n).1, (G n).2.1, none⟩) (L' n).length (G n).2.2) := (World.cell?_alloc_lt _ _ _ hmbw).trans hhd
     have hf9 : (wr.alloc (.cells #[.string ⟨bs.toArray⟩] 9)).drew.frozen? ⟨mb, n, none⟩ = false := (World.frozen?_of_block (hbel9.block mb hmbw)).trans hfz
     have hL9 : Hid (∀ b, (b < n + 1 → updM L' n [bs] b = [D (spotN V.m b).member (spotN V.m b).stripe]) ∧ (n + 1 ≤ b → updM L' n [bs] b = L b)) := Lib.hid fun b => by
      by_cases e : b = n
      ·subst e
       rw [updM_same, hbs.out]
       exact ⟨fun _ => rfl, fun h => absurd h (by omega)⟩
      ·rw [updM_ne _ _ e]
       exact ⟨fun h => (hL.out b).1 (by omega), fun h => (hL.out b).2 (by omega)⟩
     replace hR9 := Lib.hid hR9
     clear hbb hcv0 hG2 hB2 hMl hGw hBw hMw hB9 hL hbel
     go_wp2_with fail
     refine wp_region_held_tail (S := (fun W => W.cell? ⟨rb, 5, none⟩ = some (.slice (some ⟨mb, 0, none⟩) N cap) ∧ (convert 45 9 (.slice A2 128 c2)).run Tryz.prog W = .ok (.string ⟨bs.toArray⟩) W)) 8 (by kernel_rfl) (by decide) ?_ (fun hHeld => ?_)
     ·(try dsimp only)
      exact ⟨r5w, hcw⟩
     refine tkT 0 ?_
     refine tkT 1 ?_
     refine tkT 2 ?_
     refine tkT 3 ?_
     refine tkT 4 ?_
     refine tkT 5 ?_
     refine tkT 6 ?_
     refine rkT 7 (fun K hK => ?_)
     go_simp
     refine hK.out _ _ ?_ (fun hHeld2 => ?_)
     ·(try dsimp only)
      (first | exact hHeld | exact hS8)
     clear hK K
     replace hHeld := hHeld2
     clear hHeld2
     (try simp only [pA, pN, pB, pC, pD])
     refine wt_tail (by kernel_rfl) ?_
     simp only [List.drop_succ_cons, List.drop_zero]
     generalize (wr.alloc (.cells #[.string ⟨bs.toArray⟩] 9)).drew = W9 at *
     go_wp2
     go_roundw
     case rel => exact ⟨n + 1, _, s2, _, by go_num, by omega, hR9, hT02, hBfin, hL9⟩
     case measure => simp [intOf]; omega
  ·obtain rfl : n = N := by omega
   have hfin : SettlePost w base rb mb cap F tv m st lg n s V D killed (.returned (.bool true)) wr := ⟨rfl, G, s', L', hR.out, hT.out, fun b hb => (hL.out b).1 hb, hB.out⟩
   replace hfin := Lib.hid hfin
   clear hR hT hB hL
   go_wp2_with fail
   go_ret
   exact hfin.out
end
end
section
open Go.RowKit
section
variable {base rb mb cap N m st lg : Nat} {G : Nat → Nat × Nat × Nat} {F F' : VolF} {tv : Value} {w w' : World} {s s' : ShM} {V V' : VolM} {L : Nat → List Bytes} {killed : Bool}
def DoPost (w : World) (base rb mb cap : Nat) (tv : Value) (m st lg N K : Nat) (killed : Bool) (e : Ending) (w' : World) : Prop :=
 e = .returned (.bool true) ∧ ∃ G F s V L, RigAt w' base rb mb cap G F tv m st lg N s V L killed ∧ RigOk s V N L killed (m, st) ∧ (∀ b, b < N → (L b).length ≤ K) ∧ Below base w w'
def CrashPost (w : World) (base rb mb cap : Nat) (tv : Value) (m st lg N K : Nat) (killed : Bool) (e : Ending) (w' : World) : Prop :=
 e = .returned (.bool true) ∧ ∃ G F s V L, RigAt w' base rb mb cap G F tv m st lg N s V L killed ∧ RigOk s V N L killed (m, st) ∧ (∀ b, b < N → (L b).length ≤ K) ∧ Below base w w' ∧ s.off = false
structure RigHalf (w : World) (base rb mb cap : Nat) (G : Nat → Nat × Nat × Nat) (F : VolF) (tv : Value) (m st lg N : Nat) (L : Nat → List Bytes) (killed : Bool) : Prop where
 row : w.heap[rb]? = some (.cells (rigR F mb cap N m st lg tv killed) 39)
 may : MayAt w base mb G cap N L
 rbne : ¬ MayB mb G N rb
 low : base ≤ rb
 ncap : N ≤ cap
theorem RigAt.half (h : RigAt w base rb mb cap G F tv m st lg N s V L killed) : RigHalf w base rb mb cap G F tv m st lg N L killed := ⟨h.row, h.may, h.rbne, h.low, h.ncap⟩
theorem RigHalf.keep (h : RigHalf w base rb mb cap G F tv m st lg N L killed) (hK : Kept (RX base rb mb G N) w w') : RigHalf w' base rb mb cap G F tv m st lg N L killed :=
 ⟨(hK.block rb (.inr (.inl rfl))).trans h.row, h.may.kept fun b hb => hK.block b (.inr (.inr hb)), h.rbne, h.low, h.ncap⟩
theorem RigHalf.rlt (h : RigHalf w base rb mb cap G F tv m st lg N L killed) : rb < w.heap.size := lt_of_row h.row
theorem RigHalf.c0 (h : RigHalf w base rb mb cap G F tv m st lg N L killed) : w.cell? ⟨rb, 0, none⟩ = some (.pointer (some ⟨F.g, 0, none⟩)) := cell_of_row w rb 0 _ _ _ h.row
theorem RigHalf.c1 (h : RigHalf w base rb mb cap G F tv m st lg N L killed) : w.cell? ⟨rb, 1, none⟩ = some (.pointer (some ⟨F.v, 0, none⟩)) := cell_of_row w rb 1 _ _ _ h.row
theorem RigHalf.frz (h : RigHalf w base rb mb cap G F tv m st lg N L killed) (k : Nat) : w.frozen? ⟨rb, k, none⟩ = false := frozen_of_row w rb k _ _ h.row
theorem RigHalf.field (h : RigHalf w base rb mb cap G F tv m st lg N L killed) (hV : VolX (RX base rb mb G N) F' w s' V') (hg : F'.g = F.g) : RigAt (w.setCell ⟨rb, 1, none⟩ (.pointer (some ⟨F'.v, 0, none⟩))) base rb mb cap G F' tv m st lg N s' V' L killed := by
 have hoth : ∀ b, b ≠ rb → (w.setCell ⟨rb, 1, none⟩ (.pointer (some ⟨F'.v, 0, none⟩))).heap[b]? = w.heap[b]? := fun b hb => heap_setCell_other w ⟨rb, 1, none⟩ b _ hb
 have hsz : (w.setCell ⟨rb, 1, none⟩ (.pointer (some ⟨F'.v, 0, none⟩))).heap.size = w.heap.size := by simp [World.setCell]
 refine ⟨?_, h.may.kept fun b hb => hoth b fun e => h.rbne (e ▸ hb), hV.other (Nat.le_of_eq hsz.symm) fun b _ hn => hoth b fun e => hn (.inr (.inl e)), h.rbne, h.low, h.ncap⟩
 have := heap_setCell_same w rb 1 _ _ (Value.pointer (some ⟨F'.v, 0, none⟩)) h.row
 rw [this]
 unfold rigR
 rw [hg]
 rfl
theorem RigUp.room {Y : Sup} {q : Nat × Nat} (h : RigUp s Y N L killed q) : Room 100 s := by
 obtain ⟨U, D, ha, _⟩ := h.st.cons
 exact ha.room
theorem RigOk.room {q : Nat × Nat} (h : RigOk s V N L killed q) : Room 100 s := by
 rcases h.st with ⟨U, M, D, B, O, hl, _⟩ | hd
 ·exact hl.arr.room
 ·obtain ⟨M, a, _⟩ := hd.crash; exact a.room
set_option maxHeartbeats 16000000 in
theorem crash_on (h : RigAt w base rb mb cap G F tv m st lg N s V L killed) (ho : RigOk s V N L killed (m, st)) (hlen : ∀ b, b < N → (L b).length ≤ 1000) (hN : N ≤ 1000) (KA : Option Addr) (kn kc : Nat) (keep : List (List Int)) (hKL : KeepL w base KA keep) (hkn : keep.length = kn) (stop : Int) :
  Calls Tryz.prog 14 #[.pointer (some ⟨rb, 0, none⟩), .slice KA kn kc, .int .i64 stop] w (CrashPost w base rb mb cap tv m st lg N 1 killed) := by
 have hcr := lx_crash h.vol.shelf KA kn kc keep hKL (fun b hb => .inl hb) hkn
 have hup := Lib.hid (ho.crash keep)
 have r0 := h.half.c0
 have hrlt := h.rlt
 have hH := Lib.hid h.half
 have hbz := h.bsz
 have hstp : (s.crash keep).stops = false := rfl
 generalize V.sup = Y at *
 generalize s.crash keep = s1 at *
 replace hstp := Lib.hid hstp
 replace hKL := Lib.hid hKL
 replace hkn := Lib.hid hkn
 replace hlen := Lib.hid hlen
 clear h ho
 by_cases hs : 0 ≤ stop
 ·go_enter Tryz.func14, Tryz.ntmps14
  go_wp2_with fail
  with_reducible refine hcr.mono ?_
  rintro e w1 ⟨rfl, hS1, hK1⟩
  have hH1 := hH.out.keep hK1
  have hB1 : Below base w w1 := hK1.below fun b hb => .inl hb
  have hsp := lx_stop hS1 stop
  have hup2 := hup.out.powr (s' := s1.stop stop) (by unfold ShM.stop; split <;> exact ⟨rfl, rfl⟩)
  generalize s1.stop stop = s2 at *
  have r0 := hH1.c0
  have hrlt := hH1.rlt
  replace hH1 := Lib.hid hH1
  replace hB1 := Lib.hid hB1
  replace hup2 := Lib.hid hup2
  clear hcr hS1 hK1 hH hup hstp
  go_wp2_with fail
  with_reducible refine hsp.mono ?_
  rintro e w2 ⟨rfl, hS2, hK2⟩
  have hH2 := hH1.out.keep hK2
  have hB2 := RigAt.kbelow hB1.out hK2
  have hop := ra_open hS2 (hup2.out.room.mono (by omega))
  obtain ⟨ho1, _, ho3, _⟩ := hup2.out.opened
  generalize volOpen s2 = r at *
  obtain ⟨er, s3, V3⟩ := r
  dsimp only at hop ho1 ho3
  have r0 := hH2.c0
  have hrlt := hH2.rlt
  replace hH2 := Lib.hid hH2
  replace hB2 := Lib.hid hB2
  replace ho3 := Lib.hid ho3
  clear hsp hS2 hK2 hH1 hB1 hup2
  go_wp2_with fail
  with_reducible refine hop.mono ?_
  rintro e w3 ⟨hm0, hm1, hK3⟩
  have hH3 := hH2.out.keep hK3
  have hB3 := RigAt.kbelow hB2.out hK3
  have hKw := hKL.out.below hB3 hbz
  have r0 := hH3.c0
  have hrlt := hH3.rlt
  have hbz3 : base ≤ w3.heap.size := Nat.le_trans hH3.low (Nat.le_of_lt hrlt)
  obtain ⟨YA, hupA⟩ := ho3.out keep
  clear hop hH2 hB2 hK3 ho3
  rcases ho1 with e0 | ⟨e0, _⟩
  ·subst e0
   obtain ⟨F3, rfl, hg3, hV3⟩ := hm0 rfl
   have hcr := lx_crash (hg3 ▸ hV3.shelf) KA kn kc keep hKw (fun b hb => .inl hb) hkn.out
   dsimp only at hcr
   have hstA : (s3.crash keep).stops = false := rfl
   generalize s3.crash keep = sA at *
   replace hH3 := Lib.hid hH3
   replace hB3 := Lib.hid hB3
   replace hupA := Lib.hid hupA
   replace hstA := Lib.hid hstA
   clear hm0 hm1 hV3 hKw hg3
   go_wp2_with fail
   with_reducible refine hcr.mono ?_
   rintro e wA ⟨rfl, hSA, hKA⟩
   have hHA := hH3.out.keep hKA
   have hBA := RigAt.kbelow hB3.out hKA
   replace hupA := hupA.out
   replace hstA := hstA.out
   clear hcr hKA hH3 hB3
   have hup5 := hupA.opened
   have hop := ra_open hSA (hupA.room.mono (by omega))
   obtain ⟨ho1, ho2, _, ho4⟩ := hup5
   have hst5 : (volOpen sA).2.1.stops = false := ho2.trans hstA
   have hof5 : (volOpen sA).2.1.off = false := on_off hst5
   have he5 : (volOpen sA).1 = 0 := by
    rcases ho1 with h | ⟨_, h⟩
    ·exact h
    ·rw [hof5] at h; cases h
   obtain ⟨hq5, hsz5, U5, M5, D5, B5, O5, hl5, hin5, hal5, hdl5⟩ := ho4 he5
   generalize volOpen sA = r5 at *
   obtain ⟨er5, s5, V5⟩ := r5
   dsimp only at he5 hl5 hin5 hal5 hdl5 hsz5 hq5 hst5 hof5 hop
   subst he5
   clear ho1 ho2 ho4 hupA hSA hstA
   have r0 := hHA.c0
   have hrlA := hHA.rlt
   replace hHA := Lib.hid hHA
   replace hBA := Lib.hid hBA
   go_wp2_with fail
   with_reducible refine hop.mono ?_
   rintro e w5 ⟨hm5, _, hK5⟩
   obtain ⟨F', rfl, hg5, hV5⟩ := hm5 rfl
   dsimp only at hV5
   have hH5 := hHA.out.keep hK5
   have hB5 := RigAt.kbelow hBA.out hK5
   have hrl5 := hH5.rlt
   have r1 := hH5.c1
   have f1 := hH5.frz 1
   have hR6 := hH5.field hV5 hg5
   have hB6 : Below base w (w5.setCell ⟨rb, 1, none⟩ (.pointer (some ⟨F'.v, 0, none⟩))) := hB5.setCell (p := ⟨rb, 1, none⟩) hH5.low _
   have hst := settle_any hR6 hl5 hof5 hsz5 hin5 hlen.out hN
   clear hop hm5 hK5 hHA hBA hH5 hB5 hV5 hg5 r0 hrlA
   replace hR6 := Lib.hid hR6
   go_wp2_with fail
   with_reducible refine hst.mono ?_
   rintro e w7 ⟨rfl, G7, s7, L7, hR7, hT7, hL7, hB7⟩
   have hfin : CrashPost w base rb mb cap tv m st lg N 1 killed (.returned (.bool true)) w7 :=
    ⟨rfl, G7, F', s7, V5, L7, hR7, rig_settled (hl5.ticked hT7) hq5 hsz5 (fun hk i => by rw [hT7.disk]; exact hal5 hk i) hdl5 hL7, fun b hb => by rw [hL7 b hb]; simp, hB6.trans hB7, hT7.off.trans hof5⟩
   replace hfin := Lib.hid hfin
   clear hst hR7 hT7 hL7 hB7 hR6 hB6 hl5
   go_wp2_with fail
   go_ret
   exact hfin.out
  ·subst e0
   obtain ⟨rfl, hS3⟩ := hm1 (by dsimp only; omega)
   have hcr := lx_crash hS3 KA kn kc keep hKw (fun b hb => .inl hb) hkn.out
   dsimp only at hcr
   have hstA : (s3.crash keep).stops = false := rfl
   generalize s3.crash keep = sA at *
   replace hH3 := Lib.hid hH3
   replace hB3 := Lib.hid hB3
   replace hupA := Lib.hid hupA
   replace hstA := Lib.hid hstA
   clear hm0 hm1 hS3 hKw
   go_wp2_with fail
   with_reducible refine hcr.mono ?_
   rintro e wA ⟨rfl, hSA, hKA⟩
   have hHA := hH3.out.keep hKA
   have hBA := RigAt.kbelow hB3.out hKA
   replace hupA := hupA.out
   replace hstA := hstA.out
   clear hcr hKA hH3 hB3
   have hup5 := hupA.opened
   have hop := ra_open hSA (hupA.room.mono (by omega))
   obtain ⟨ho1, ho2, _, ho4⟩ := hup5
   have hst5 : (volOpen sA).2.1.stops = false := ho2.trans hstA
   have hof5 : (volOpen sA).2.1.off = false := on_off hst5
   have he5 : (volOpen sA).1 = 0 := by
    rcases ho1 with h | ⟨_, h⟩
    ·exact h
    ·rw [hof5] at h; cases h
   obtain ⟨hq5, hsz5, U5, M5, D5, B5, O5, hl5, hin5, hal5, hdl5⟩ := ho4 he5
   generalize volOpen sA = r5 at *
   obtain ⟨er5, s5, V5⟩ := r5
   dsimp only at he5 hl5 hin5 hal5 hdl5 hsz5 hq5 hst5 hof5 hop
   subst he5
   clear ho1 ho2 ho4 hupA hSA hstA
   have r0 := hHA.c0
   have hrlA := hHA.rlt
   replace hHA := Lib.hid hHA
   replace hBA := Lib.hid hBA
   go_wp2_with fail
   with_reducible refine hop.mono ?_
   rintro e w5 ⟨hm5, _, hK5⟩
   obtain ⟨F', rfl, hg5, hV5⟩ := hm5 rfl
   dsimp only at hV5
   have hH5 := hHA.out.keep hK5
   have hB5 := RigAt.kbelow hBA.out hK5
   have hrl5 := hH5.rlt
   have r1 := hH5.c1
   have f1 := hH5.frz 1
   have hR6 := hH5.field hV5 hg5
   have hB6 : Below base w (w5.setCell ⟨rb, 1, none⟩ (.pointer (some ⟨F'.v, 0, none⟩))) := hB5.setCell (p := ⟨rb, 1, none⟩) hH5.low _
   have hst := settle_any hR6 hl5 hof5 hsz5 hin5 hlen.out hN
   clear hop hm5 hK5 hHA hBA hH5 hB5 hV5 hg5 r0 hrlA
   replace hR6 := Lib.hid hR6
   go_wp2_with fail
   with_reducible refine hst.mono ?_
   rintro e w7 ⟨rfl, G7, s7, L7, hR7, hT7, hL7, hB7⟩
   have hfin : CrashPost w base rb mb cap tv m st lg N 1 killed (.returned (.bool true)) w7 :=
    ⟨rfl, G7, F', s7, V5, L7, hR7, rig_settled (hl5.ticked hT7) hq5 hsz5 (fun hk i => by rw [hT7.disk]; exact hal5 hk i) hdl5 hL7, fun b hb => by rw [hL7 b hb]; simp, hB6.trans hB7, hT7.off.trans hof5⟩
   replace hfin := Lib.hid hfin
   clear hst hR7 hT7 hL7 hB7 hR6 hB6 hl5
   go_wp2_with fail
   go_ret
   exact hfin.out
 ·have hs' : stop < 0 := by omega
  go_enter Tryz.func14, Tryz.ntmps14
  go_wp2_with fail
  with_reducible refine hcr.mono ?_
  rintro e wA ⟨rfl, hSA, hKA⟩
  have hHA := hH.out.keep hKA
  have hBA : Below base w wA := hKA.below fun b hb => .inl hb
  have hupA := hup.out
  have hstA := hstp.out
  generalize s1 = sA at *
  clear hcr hKA hH hup hstp
  have hup5 := hupA.opened
  have hop := ra_open hSA (hupA.room.mono (by omega))
  obtain ⟨ho1, ho2, _, ho4⟩ := hup5
  have hst5 : (volOpen sA).2.1.stops = false := ho2.trans hstA
  have hof5 : (volOpen sA).2.1.off = false := on_off hst5
  have he5 : (volOpen sA).1 = 0 := by
   rcases ho1 with h | ⟨_, h⟩
   ·exact h
   ·rw [hof5] at h; cases h
  obtain ⟨hq5, hsz5, U5, M5, D5, B5, O5, hl5, hin5, hal5, hdl5⟩ := ho4 he5
  generalize volOpen sA = r5 at *
  obtain ⟨er5, s5, V5⟩ := r5
  dsimp only at he5 hl5 hin5 hal5 hdl5 hsz5 hq5 hst5 hof5 hop
  subst he5
  clear ho1 ho2 ho4 hupA hSA hstA
  have r0 := hHA.c0
  have hrlA := hHA.rlt
  replace hHA := Lib.hid hHA
  replace hBA := Lib.hid hBA
  go_wp2_with fail
  with_reducible refine hop.mono ?_
  rintro e w5 ⟨hm5, _, hK5⟩
  obtain ⟨F', rfl, hg5, hV5⟩ := hm5 rfl
  dsimp only at hV5
  have hH5 := hHA.out.keep hK5
  have hB5 := RigAt.kbelow hBA.out hK5
  have hrl5 := hH5.rlt
  have r1 := hH5.c1
  have f1 := hH5.frz 1
  have hR6 := hH5.field hV5 hg5
  have hB6 : Below base w (w5.setCell ⟨rb, 1, none⟩ (.pointer (some ⟨F'.v, 0, none⟩))) := hB5.setCell (p := ⟨rb, 1, none⟩) hH5.low _
  have hst := settle_any hR6 hl5 hof5 hsz5 hin5 hlen.out hN
  clear hop hm5 hK5 hHA hBA hH5 hB5 hV5 hg5 r0 hrlA
  replace hR6 := Lib.hid hR6
  go_wp2_with fail
  with_reducible refine hst.mono ?_
  rintro e w7 ⟨rfl, G7, s7, L7, hR7, hT7, hL7, hB7⟩
  have hfin : CrashPost w base rb mb cap tv m st lg N 1 killed (.returned (.bool true)) w7 :=
   ⟨rfl, G7, F', s7, V5, L7, hR7, rig_settled (hl5.ticked hT7) hq5 hsz5 (fun hk i => by rw [hT7.disk]; exact hal5 hk i) hdl5 hL7, fun b hb => by rw [hL7 b hb]; simp, hB6.trans hB7, hT7.off.trans hof5⟩
  replace hfin := Lib.hid hfin
  clear hst hR7 hT7 hL7 hB7 hR6 hB6 hl5
  go_wp2_with fail
  go_ret
  exact hfin.out
theorem crash_any (h : RigAt w base rb mb cap G F tv m st lg N s V L killed) (ho : RigOk s V N L killed (m, st)) (hlen : ∀ b, b < N → (L b).length ≤ 1000) (hN : N ≤ 1000) (KA : Option Addr) (kn kc : Nat) (keep : List (List Int)) (hKL : KeepL w base KA keep) (hkn : keep.length = kn) (stop : Int) :
  Calls Tryz.prog 14 #[.pointer (some ⟨rb, 0, none⟩), .slice KA kn kc, .int .i64 stop] w (DoPost w base rb mb cap tv m st lg N 1 killed) :=
 (crash_on h ho hlen hN KA kn kc keep hKL hkn stop).mono fun _ _ ⟨e, G, F, s, V, L, a, b, c, d, _⟩ => ⟨e, G, F, s, V, L, a, b, c, d⟩
end
end
section
open Go.RowKit
section
variable {X Y : Nat → Prop} {base rb mb cap N m st lg xb : Nat} {G : Nat → Nat × Nat × Nat} {F F' : VolF} {tv : Value} {w w' : World} {s s' : ShM} {V V' : VolM} {L : Nat → List Bytes} {killed : Bool}
theorem VolX.turn (h : VolX X F w s V) (hs : w.heap.size ≤ w'.heap.size) (hsame : ∀ b, b < w.heap.size → ¬ X b → w'.heap[b]? = w.heap[b]?) (hY : ∀ b, Y b → b < w'.heap.size ∧ (X b ∨ w.heap.size ≤ b)) : VolX Y F w' s V := by
 refine h.rows (h.sh.more hs (fun b hb hx => hsame b hb fun hx2 => hx (.inl hx2)) fun b hb => ?_) (fun b hb hy => ?_) (fun b hb => hsame b (h.olt b hb) (h.out b hb)) h.ok
 ·rcases hb with hb | hb
  ·exact ⟨(hY b hb).1, (hY b hb).2.imp (fun h => .inl h) id⟩
  ·exact ⟨Nat.lt_of_lt_of_le (h.olt b hb) hs, .inl (.inr hb)⟩
 ·rcases (hY b hy).2 with h1 | h1
  ·exact h.out b hb h1
  ·have := h.olt b hb; omega
theorem But.from {g : Nat} {w W w' : World} (hb : Below w.heap.size w W) (h : But g W w') : But g w w' :=
 ⟨h.os.trans hb.os, h.tape.trans hb.tape, h.output.trans hb.output, Nat.le_trans hb.size h.size, fun k hk hne => (h.block k (Nat.lt_of_lt_of_le hk hb.size) hne).trans (hb.block k hk)⟩
theorem rig_poke (h : RigAt w base rb mb cap G F tv m st lg N s V L killed) (hV : VolX (fun b => RX base rb mb G N b ∨ b = xb) F w s V) (hx : ¬ RX base rb mb G N xb) (k : Nat) (v : Value) : RigAt (w.setCell ⟨xb, k, none⟩ v) base rb mb cap G F tv m st lg N s V L killed := by
 have hoth : ∀ b, b ≠ xb → (w.setCell ⟨xb, k, none⟩ v).heap[b]? = w.heap[b]? := fun b hb => heap_setCell_other w ⟨xb, k, none⟩ b _ hb
 have hsz : (w.setCell ⟨xb, k, none⟩ v).heap.size = w.heap.size := by simp [World.setCell]
 refine ⟨(hoth rb fun e => hx (e ▸ .inr (.inl rfl))).trans h.row, h.may.kept fun b hb => hoth b fun e => hx (e ▸ .inr (.inr hb)), ?_, h.rbne, h.low, h.ncap⟩
 exact (hV.other (Nat.le_of_eq hsz.symm) fun b _ hn => hoth b fun e => hn (.inr e)).mono fun b hb => .inl hb
theorem Tryz.infoStr1 : (Tryz.prog.info? 9).map (fun i => (i.zero, i.size, i.bytes)) = some (some (.string ⟨#[]⟩), 1, 16) := by kernel_rfl
set_option maxRecDepth 100000 in
set_option maxHeartbeats 16000000 in
theorem rig_write (h : RigAt w base rb mb cap G F tv m st lg N s V L killed) (ho : RigOk s V N L killed (m, st)) {K : Nat} (hlen : ∀ b, b < N → (L b).length ≤ K) (hK : K ≤ 900) (hN : N ≤ 1000) (n : Int) (x : UInt8) :
  Calls Tryz.prog 30 #[.pointer (some ⟨rb, 0, none⟩), .int .i64 n, .int .u8 (x.toNat : Int)] w (DoPost w base rb mb cap tv m st lg N (K + 1) killed) := by
 have hsec := sector_any x w
 have hsl := secOf_len x
 generalize secOf x = sb at *
 replace hsl := Lib.hid hsl
 have h0 := Lib.hid h
 have ho0 := Lib.hid ho
 have hbz := h.bsz
 replace hlen := Lib.hid hlen
 clear h ho
 go_enter Tryz.func30, Tryz.ntmps30
 go_wp2_with fail
 with_reducible refine hsec.mono ?_
 rintro e w1 ⟨A1, c1, rfl, ho1, hb1⟩
 obtain ⟨hh, xb, rfl, hxg, hxl⟩ := ho1.some_ (i := 0) (by rw [hsl.out]; omega)
 clear hh
 have hR1 := h0.out.below hb1
 have hB1 : Below base w w1 := hb1.mono hbz
 have hxRX : ¬ RX base rb mb G N xb := fun hx => by
  have := h0.out.vol.lt xb hx
  omega
 have hV1 : VolX (fun b => RX base rb mb G N b ∨ b = xb) F w1 s V := h0.out.vol.more hb1 fun b hb => by
  rcases hb with hb | rfl
  ·exact ⟨Nat.lt_of_lt_of_le (h0.out.vol.lt b hb) hb1.size, .inl hb⟩
  ·exact ⟨hxl, .inr hxg⟩
 have hrd1 := ho1.rd
 obtain ⟨c3, hc3⟩ : ∃ c3, (sb[3]?.map (·.toNat)) = some c3 := by
  rw [List.getElem?_eq_getElem (by rw [hsl.out]; omega)]; exact ⟨_, rfl⟩
 have hx3 : w1.cell? ⟨xb, 3, none⟩ = some (.int .u8 (c3 : Nat)) := by
  have := hrd1.cell 3 (by rw [hsl.out]; omega)
  rw [add_none, Nat.zero_add] at this
  rw [this]
  rw [List.getElem?_eq_getElem (by rw [hsl.out]; omega)] at hc3
  injection hc3 with hc3
  rw [← hc3]
 have hxf : w1.frozen? ⟨xb, 3, none⟩ = false := by
  have ho1' : Own w1 5 w.heap.size (.slice (some ⟨xb, 0, none⟩) sb.length c1) sb := by rw [hsl.out]; exact ho1
  exact ho1'.frozenG 3
 have hxge : base ≤ xb := Nat.le_trans hbz hxg
 have hof := lx_off hR1.vol.shelf
 have r0 := hR1.half.c0
 have r1 := hR1.half.c1
 have r5 := hR1.c 5
 have hrl := hR1.rlt
 simp only [rigR] at r5
 replace hxRX := Lib.hid hxRX
 replace hrd1 := Lib.hid hrd1
 replace hV1 := Lib.hid hV1
 replace hB1 := Lib.hid hB1
 clear hsec ho1 hb1 hc3
 by_cases hright : 0 ≤ n ∧ n < (N : Int)
 ·obtain ⟨n, rfl⟩ := Int.eq_ofNat_of_zero_le hright.1
  have hn : n < N := by omega
  cases hoff : s.off with
  | true =>
   have hw := (ho0.out.write hn hsl.out).2 hoff
   have hct := ra_write hV1.out (ho0.out.room.mono (by omega)) n (by rw [← ho0.out.size]; exact hn) (some ⟨xb, 0, none⟩) c1 sb hrd1.out hsl.out (fun ad e => by injection e with e; subst e; exact .inr rfl)
   rw [hw] at hct
   rw [hoff] at hof
   have hRz := Lib.hid hR1
   have hBz := hB1
   have hxlz := hxl
   have hn0 : (0 : Int) ≤ (n : Int) := by omega
   clear hR1 hV1 hw
   go_wp2_with fail
   with_reducible refine hof.mono ?_
   rintro e wx ⟨rfl, rfl⟩
   clear hof
   go_wp2_with fail
   with_reducible refine hct.mono ?_
   rintro e w8 ⟨rfl, hV8, hK8⟩
   dsimp only at hV8
   have hR8 := hRz.out.keep (hV8.mono fun b hb => .inl hb) (hK8.mono fun b hb => .inl hb)
   have hB8 := RigAt.kbelow hBz.out (hK8.mono fun b hb => .inl hb)
   have hx8 : w8.cell? ⟨xb, 3, none⟩ = some (.int .u8 (c3 : Nat)) := (World.cell?_of_block (hK8.block xb (.inr rfl))).trans hx3
   have hf8 : w8.frozen? ⟨xb, 3, none⟩ = false := (World.frozen?_of_block (hK8.block xb (.inr rfl))).trans hxf
   have hxl8 : xb < w8.heap.size := Nat.lt_of_lt_of_le hxlz hK8.size
   have hR9 := fun v => rig_poke hR8 hV8 hxRX.out 3 v
   have hB9 := fun v => hB8.setCell (p := ⟨xb, 3, none⟩) hxge v
   have hofc := fun v => lx_off (hR9 v).vol.shelf
   have r09 := fun v => (hR9 v).half.c0
   have hrl9 := fun v => (hR9 v).rlt
   have hfin : ∀ v, DoPost w base rb mb cap tv m st lg N (K + 1) killed (.returned (.bool true)) (w8.setCell ⟨xb, 3, none⟩ v) := fun v => ⟨rfl, G, F, s, V, L, hR9 v, ho0.out, fun b hb => by have := hlen.out b hb; omega, hB9 v⟩
   rw [hoff] at hofc
   replace hfin := Lib.hid hfin
   replace hofc := Lib.hid hofc
   replace r09 := Lib.hid r09
   replace hrl9 := Lib.hid hrl9
   clear hct hRz hBz hK8 hV8 hx3 hxf hxlz hR8 hB8 hR9 hB9 r0 r1 r5
   go_upto_region 8 with (fail)
   generalize Value.int IntKind.u8 (((c3 : Int) + 1) % 256) = vv
   replace hofc := hofc.out vv
   replace r09 := r09.out vv
   replace hrl9 := hrl9.out vv
   replace hfin := Lib.hid (hfin.out vv)
   generalize w8.setCell ⟨xb, 3, none⟩ vv = w9 at *
   go_wp2_with fail
   with_reducible refine hofc.mono ?_
   rintro e wx ⟨rfl, rfl⟩
   clear hofc
   go_wp2_with fail
   go_ret
   exact hfin.out
  | false =>
   have hM1 := hR1.may
   have hh1 := hM1.head hn
   have hv1 := (hM1.el n hn).1
   have hgm := (hM1.el n hn).2
   have hg1 := hv1.lt
   have hmb1 := hM1.mblt
   have hbsz := hM1.low
   have hln := hlen.out n hn
   have hoG : xb ≠ (G n).1 := fun e => hxRX.out (e ▸ .inr (.inr (.inr ⟨n, hn, rfl⟩)))
   have hxmb : xb ≠ mb := fun e => hxRX.out (e ▸ .inr (.inr (.inl rfl)))
   have hrbm : rb ≠ mb := fun e => hR1.rbne (.inl e)
   have hrbG : rb ≠ (G n).1 := fun e => hR1.rbne (.inr ⟨n, hn, e⟩)
   have hcv : Hid (∀ W, W.heap[xb]? = w1.heap[xb]? → (convert 45 9 (.slice (some ⟨xb, 0, none⟩) 128 c1)).run Tryz.prog W = .ok (.string ⟨sb.toArray⟩) W) := Lib.hid fun W hW =>
    run_string_rd (P := Tryz.prog) W 45 9 5 Tryz.underlying45 Tryz.underlying5 Tryz.underlying9 _ 128 c1 sb (hrd1.out.blk (fun ad e => by injection e with e; subst e; exact hW)) hsl.out
   have hbel9 : Below w1.heap.size w1 (w1.alloc (.cells #[.string ⟨sb.toArray⟩] 9)).drew := ((Below.refl _ _).alloc (Nat.le_refl _) _).drew
   have hS0 : w1.cell? ⟨rb, 5, none⟩ = some (.slice (some ⟨mb, 0, none⟩) N cap) ∧ w1.cell? ⟨mb, n, none⟩ = some (.slice (some ⟨(G n).1, (G n).2.1, none⟩) (L n).length (G n).2.2) ∧ (convert 45 9 (.slice (some ⟨xb, 0, none⟩) 128 c1)).run Tryz.prog w1.drew = .ok (.string ⟨sb.toArray⟩) w1.drew := ⟨r5, hh1, hcv.out _ rfl⟩
   have hS8 : (w1.alloc (.cells #[.string ⟨sb.toArray⟩] 9)).drew.cell? ⟨rb, 5, none⟩ = some (.slice (some ⟨mb, 0, none⟩) N cap) ∧ (w1.alloc (.cells #[.string ⟨sb.toArray⟩] 9)).drew.cell? ⟨mb, n, none⟩ = some (.slice (some ⟨(G n).1, (G n).2.1, none⟩) (L n).length (G n).2.2) ∧ (convert 45 9 (.slice (some ⟨xb, 0, none⟩) 128 c1)).run Tryz.prog (w1.alloc (.cells #[.string ⟨sb.toArray⟩] 9)).drew = .ok (.string ⟨sb.toArray⟩) (w1.alloc (.cells #[.string ⟨sb.toArray⟩] 9)).drew :=
    ⟨(World.cell?_alloc_lt _ _ _ hrl).trans r5, (World.cell?_alloc_lt _ _ _ hmb1).trans hh1, hcv.out _ (heap_alloc_old w1 _ hxl)⟩
   have hv8 : VlAt (w1.alloc (.cells #[.string ⟨sb.toArray⟩] 9)).drew 9 base (G n).1 (G n).2.1 (G n).2.2 ((L n).map strV) := hv1.kept (heap_alloc_old w1 _ hg1)
   have hx8 : (w1.alloc (.cells #[.string ⟨sb.toArray⟩] 9)).drew.cell? ⟨w1.heap.size, 0, none⟩ = some (.string ⟨sb.toArray⟩) := (cell_of_row _ _ 0 _ _ _ (heap_alloc_new w1 _)).trans rfl
   have hn0 : (0 : Int) ≤ (n : Int) := by omega
   have h9s : (w1.alloc (.cells #[.string ⟨sb.toArray⟩] 9)).drew.heap.size = w1.heap.size + 1 := World.size_alloc _ _
   have hbz1 : base ≤ (w1.alloc (.cells #[.string ⟨sb.toArray⟩] 9)).drew.heap.size := by rw [h9s]; have := hR1.bsz; omega
   rw [hoff] at hof
   have hR1h := Lib.hid hR1
   clear r1
   go_wp2_with fail
   with_reducible refine hof.mono ?_
   rintro e wx ⟨rfl, rfl⟩
   clear hof
   go_wp2_with fail
   refine wp_region_held_tail (S := (fun W => W.cell? ⟨rb, 5, none⟩ = some (.slice (some ⟨mb, 0, none⟩) N cap) ∧ W.cell? ⟨mb, n, none⟩ = some (.slice (some ⟨(G n).1, (G n).2.1, none⟩) (L n).length (G n).2.2) ∧ (convert 45 9 (.slice (some ⟨xb, 0, none⟩) 128 c1)).run Tryz.prog W = .ok (.string ⟨sb.toArray⟩) W)) 16 (by kernel_rfl) (by decide) ?_ (fun hHeld => ?_)
   ·(try dsimp only)
    exact hS0
   refine tkT 0 ?_
   refine tkT 1 ?_
   refine tkT 2 ?_
   refine tkT 3 ?_
   refine tkT 4 ?_
   refine tkT 5 ?_
   refine tkT 6 ?_
   refine tkT 7 ?_
   refine tkT 8 ?_
   refine tkT 9 ?_
   refine tkT 10 ?_
   refine tkT 11 ?_
   refine tkT 12 ?_
   refine tkT 13 ?_
   refine rkT 14 (fun K hK => ?_)
   go_simp
   refine hK.out _ _ ?_ (fun hHeld2 => ?_)
   ·(try dsimp only)
    (first | exact hHeld | exact hS8 | exact hS9)
   clear hK K
   replace hHeld := hHeld2
   clear hHeld2
   (try simp only [pA, pN, pB, pC, pD])
   refine rkT 15 (fun K hK => ?_)
   refine step_append_vl (by rfl) _ _ 58 rfl base 9 (.string ⟨#[]⟩) 16 Tryz.underlying58 Tryz.infoStr1 rfl (G n).1 (G n).2.1 (L n).length (G n).2.2 ((L n).map strV) hv8 (by simp) rfl (by omega) (by omega) ⟨w1.heap.size, 0, none⟩ 1 (.string ⟨sb.toArray⟩) rfl hx8 rfl hbz1 ?_
   intro g9 o9 p9 w9 hV9 hBt9 hg9
   have hBa9 := But.from hbel9 hBt9
   have hS9 : w9.cell? ⟨rb, 5, none⟩ = some (.slice (some ⟨mb, 0, none⟩) N cap) ∧ w9.cell? ⟨mb, n, none⟩ = some (.slice (some ⟨(G n).1, (G n).2.1, none⟩) (L n).length (G n).2.2) ∧ (convert 45 9 (.slice (some ⟨xb, 0, none⟩) 128 c1)).run Tryz.prog w9 = .ok (.string ⟨sb.toArray⟩) w9 := ⟨(World.cell?_of_block (hBa9.block rb hrl hrbG)).trans r5, (World.cell?_of_block (hBa9.block mb hmb1 (fun e => hgm e.symm))).trans hh1, hcv.out _ (hBa9.block xb hxl hoG)⟩
   refine hK.out _ _ ?_ (fun hHeld2 => ?_)
   ·(try dsimp only)
    (first | exact hHeld | exact hS8 | exact hS9)
   clear hK K
   replace hHeld := hHeld2
   clear hHeld2
   (try simp only [pA, pN, pB, pC, pD])
   refine wt_tail (by kernel_rfl) ?_
   simp only [List.drop_succ_cons, List.drop_zero]
   obtain ⟨_, hc9, _⟩ := hHeld
   have hf9 : w9.frozen? ⟨mb, n, none⟩ = false := (World.frozen?_of_block (hBa9.block mb hmb1 (fun e => hgm e.symm))).trans (hM1.room (k := n) (by have := hR1h.out.ncap; omega)).2
   have hg9' : g9 = (G n).1 ∨ w1.heap.size ≤ g9 := hg9.imp id fun h => Nat.le_trans (by rw [h9s]; omega) h
   obtain ⟨hR9, hBk⟩ := hR1h.out.put hn hBa9 (l := L n ++ [sb]) (n := (L n).length + 1) (by simp) (by rw [List.map_append]; exact hV9) hg9'
   have hsz10 : (w9.setCell ⟨mb, n, none⟩ (.slice (some ⟨g9, o9, none⟩) ((L n).length + 1) p9)).heap.size = w9.heap.size := by simp [World.setCell]
   have hV10 : VolX (fun b => RX base rb mb (updM G n (g9, o9, p9)) N b ∨ b = xb) F (w9.setCell ⟨mb, n, none⟩ (.slice (some ⟨g9, o9, none⟩) ((L n).length + 1) p9)) s V := by
    refine hV1.out.turn (by rw [hsz10]; exact hBa9.size) (fun b hb hx => ?_) fun b hb => ?_
    ·rw [heap_setCell_other _ ⟨mb, n, none⟩ b _ (fun e => hx (.inl (.inr (.inr (.inl e)))))]
     exact hBa9.block b hb fun e => hx (.inl (.inr (.inr (.inr ⟨n, hn, e⟩))))
    ·have hlt := hR9.vol.lt
     rcases hb with hb | rfl
     ·refine ⟨hlt b hb, ?_⟩
      rcases hb with hb | rfl | rfl | ⟨j, hj, rfl⟩
      ·exact .inl (.inl (.inl hb))
      ·exact .inl (.inl (.inr (.inl rfl)))
      ·exact .inl (.inl (.inr (.inr (.inl rfl))))
      ·by_cases e : j = n
       ·subst e
        rw [updM_same]
        exact hg9'.imp (fun e => .inl (.inr (.inr (.inr ⟨j, hj, e⟩)))) id
       ·rw [updM_ne _ _ e]
        exact .inl (.inl (.inr (.inr (.inr ⟨j, hj, rfl⟩))))
     ·exact ⟨by rw [hsz10]; exact Nat.lt_of_lt_of_le hxl hBa9.size, .inl (.inr rfl)⟩
   have hxx : (w9.setCell ⟨mb, n, none⟩ (.slice (some ⟨g9, o9, none⟩) ((L n).length + 1) p9)).heap[xb]? = w1.heap[xb]? := by
    rw [heap_setCell_other _ ⟨mb, n, none⟩ xb _ hxmb]
    exact hBa9.block xb hxl hoG
   have hxRX9 : ¬ RX base rb mb (updM G n (g9, o9, p9)) N xb := fun hx => by
    rcases hx with hx | hx | hx | ⟨j, hj, hx⟩
    ·omega
    ·exact hxRX.out (hx ▸ .inr (.inl rfl))
    ·exact hxmb hx
    ·by_cases e : j = n
     ·subst e
      rw [updM_same] at hx
      have hx : xb = g9 := hx
      rcases hg9' with h | h
      ·exact hoG (hx.trans h)
      ·omega
     ·rw [updM_ne _ _ e] at hx
      exact hxRX.out (.inr (.inr (.inr ⟨j, hj, hx⟩)))
   have hB10 := hBk w hB1.out
   have hrd10 : Rd (w9.setCell ⟨mb, n, none⟩ (.slice (some ⟨g9, o9, none⟩) ((L n).length + 1) p9)) (some ⟨xb, 0, none⟩) sb := hrd1.out.blk fun ad e => by injection e with e; subst e; exact hxx
   have hx3' : (w9.setCell ⟨mb, n, none⟩ (.slice (some ⟨g9, o9, none⟩) ((L n).length + 1) p9)).cell? ⟨xb, 3, none⟩ = some (.int .u8 (c3 : Nat)) := (World.cell?_of_block hxx).trans hx3
   have hxf' : (w9.setCell ⟨mb, n, none⟩ (.slice (some ⟨g9, o9, none⟩) ((L n).length + 1) p9)).frozen? ⟨xb, 3, none⟩ = false := (World.frozen?_of_block hxx).trans hxf
   have hxlz : xb < (w9.setCell ⟨mb, n, none⟩ (.slice (some ⟨g9, o9, none⟩) ((L n).length + 1) p9)).heap.size := by rw [hsz10]; exact Nat.lt_of_lt_of_le hxl hBa9.size
   have hlen9 : Hid (∀ b, b < N → (updM L n (L n ++ [sb]) b).length ≤ K + 1) := Lib.hid fun b hb => by
    by_cases e : b = n
    ·rw [e, updM_same, List.length_append, List.length_singleton]; omega
    ·rw [updM_ne _ _ e]; have := hlen.out b hb; omega
   clear hS0 hS8 hv8 hx8 h9s hv1 hh1 hV9 hg9 hg9' hM1 hR1 hV1 hrd1 hxx hx3 hxf hBk hbel9 hBt9 hBa9 hsz10 hR1h
   clear r0 r5 hrl
   have r0 := hR9.half.c0
   have r1 := hR9.half.c1
   have hrl := hR9.rlt
   go_wp2_with fail
   generalize w9.setCell ⟨mb, n, none⟩ (.slice (some ⟨g9, o9, none⟩) ((L n).length + 1) p9) = wz at *
   have hpl := (ho0.out.write hn hsl.out).1 hoff
   have hct := ra_write hV10 (ho0.out.room.mono (by omega)) n (by rw [← ho0.out.size]; exact hn) (some ⟨xb, 0, none⟩) c1 sb hrd10 hsl.out (fun ad e => by injection e with e; subst e; exact .inr rfl)
   generalize volWrite s V (n : Int) sb = r at *
   obtain ⟨er, s8, V8⟩ := r
   dsimp only at hpl hct
   obtain ⟨hpl1, hpl2⟩ := hpl
   have hRz := Lib.hid hR9
   have hBz := Lib.hid hB10
   replace hpl1 := Lib.hid hpl1
   replace hpl2 := Lib.hid hpl2
   clear hR9 hB10 hV10 hrd10 hc9 hf9
   with_reducible refine hct.mono ?_
   rintro e w8 ⟨rfl, hV8, hK8⟩
   dsimp only at hV8
   have hR8 := hRz.out.keep (hV8.mono fun b hb => .inl hb) (hK8.mono fun b hb => .inl hb)
   have hB8 := RigAt.kbelow hBz.out (hK8.mono fun b hb => .inl hb)
   have hx8 : w8.cell? ⟨xb, 3, none⟩ = some (.int .u8 (c3 : Nat)) := (World.cell?_of_block (hK8.block xb (.inr rfl))).trans hx3'
   have hf8 : w8.frozen? ⟨xb, 3, none⟩ = false := (World.frozen?_of_block (hK8.block xb (.inr rfl))).trans hxf'
   have hxl8 : xb < w8.heap.size := Nat.lt_of_lt_of_le hxlz hK8.size
   have hR9 := fun v => rig_poke hR8 hV8 hxRX9 3 v
   have hB9 := fun v => hB8.setCell (p := ⟨xb, 3, none⟩) hxge v
   have hofc := fun v => lx_off (hR9 v).vol.shelf
   have r09 := fun v => (hR9 v).half.c0
   have hrl9 := fun v => (hR9 v).rlt
   have hfin : ∀ v, DoPost w base rb mb cap tv m st lg N (K + 1) killed (.returned (.bool true)) (w8.setCell ⟨xb, 3, none⟩ v) := fun v => ⟨rfl, _, F, s8, V8, _, hR9 v, hpl2.out, hlen9.out, hB9 v⟩
   replace hfin := Lib.hid hfin
   replace hofc := Lib.hid hofc
   replace r09 := Lib.hid r09
   replace hrl9 := Lib.hid hrl9
   clear hct hRz hBz hK8 hV8 hx3' hxf' hxlz hR8 hB8 hR9 hB9 r0 r1 hlen9
   rcases hpl1.out with h0e | ⟨h3e, h3o⟩
   ·subst h0e
    clear hpl1
    go_upto_region 8 with (fail)
    generalize Value.int IntKind.u8 (((c3 : Int) + 1) % 256) = vv
    replace r09 := r09.out vv
    replace hrl9 := hrl9.out vv
    replace hfin := Lib.hid (hfin.out vv)
    generalize w8.setCell ⟨xb, 3, none⟩ vv = w9 at *
    clear hofc
    go_wp2_with fail
    go_ret
    exact hfin.out
   ·subst h3e
    clear hpl1
    rw [h3o] at hofc
    go_upto_region 8 with (fail)
    generalize Value.int IntKind.u8 (((c3 : Int) + 1) % 256) = vv
    replace hofc := hofc.out vv
    replace r09 := r09.out vv
    replace hrl9 := hrl9.out vv
    replace hfin := Lib.hid (hfin.out vv)
    generalize w8.setCell ⟨xb, 3, none⟩ vv = w9 at *
    go_wp2_with fail
    with_reducible refine hofc.mono ?_
    rintro e wx ⟨rfl, rfl⟩
    clear hofc
    go_wp2_with fail
    go_ret
    exact hfin.out
 ·have hwb : volWrite s V n sb = (1, s, V) := by
   unfold volWrite
   rw [if_neg]
   rw [← ho0.out.size]
   exact hright
  have hct := ra_write_bad hV1.out n (by rw [← ho0.out.size]; exact hright) (.slice (some ⟨xb, 0, none⟩) 128 c1) sb
  rw [hwb] at hct
  have hfin : ∀ (w8 : World) (v : Value), VolX (fun b => RX base rb mb G N b ∨ b = xb) F w8 s V → Kept (fun b => RX base rb mb G N b ∨ b = xb) w1 w8 → DoPost w base rb mb cap tv m st lg N (K + 1) killed (.returned (.bool true)) (w8.setCell ⟨xb, 3, none⟩ v) := fun w8 v hV8 hK8 =>
   ⟨rfl, G, F, s, V, L, rig_poke (hR1.keep (hV8.mono fun b hb => .inl hb) (hK8.mono fun b hb => .inl hb)) hV8 hxRX.out 3 v, ho0.out, fun b hb => by have := hlen.out b hb; omega, (RigAt.kbelow hB1.out (hK8.mono fun b hb => .inl hb)).setCell (p := ⟨xb, 3, none⟩) hxge v⟩
  replace hfin := Lib.hid hfin
  generalize s.off = off at *
  clear hwb hR1 hV1
  have hcase : (n < 0) ∨ (0 ≤ n ∧ (N : Int) ≤ n) := by omega
  clear hright
  rcases hcase with hn | ⟨hn, hn2⟩
  all_goals
   have hnot : decide (0 ≤ n) = decide (0 ≤ n) := rfl
   go_wp2_with fail
   with_reducible refine hof.mono ?_
   rintro e wx ⟨rfl, rfl⟩
   clear hof
   go_wp2_with fail
   with_reducible refine hct.mono ?_
   rintro e w8 ⟨rfl, hV8, hK8⟩
   dsimp only at hV8
   have hx8 : w8.cell? ⟨xb, 3, none⟩ = some (.int .u8 (c3 : Nat)) := (World.cell?_of_block (hK8.block xb (.inr rfl))).trans hx3
   have hf8 : w8.frozen? ⟨xb, 3, none⟩ = false := (World.frozen?_of_block (hK8.block xb (.inr rfl))).trans hxf
   have hxl8 : xb < w8.heap.size := Nat.lt_of_lt_of_le hxl hK8.size
   replace hfin := Lib.hid fun v => hfin.out w8 v hV8 hK8
   clear hct hK8 hV8 hx3 hxf
   go_wp2_with fail
   go_ret
   exact hfin.out _
end
end
section
open Go.RowKit
theorem mod08 (a n : Int) (w : World) (hn : 0 < n) (hn2 : n ≤ 1000000) (h0 : -9223372036854775808 ≤ a) (h1 : a ≤ 9223372036854775807) : Calls Tryz.prog 21 #[.int .i64 a, .int .i64 n] w fun e w' => e = .returned (.int .i64 (a % n)) ∧ w = w' := by
 have t1 := Int.tmod_lt_of_pos a hn
 have t2 := Int.lt_tmod_of_pos a hn
 have hem := Int.emod_eq_of_lt (a := a.tmod n) (b := n)
 have hde : a % n = if a.tmod n < 0 then a.tmod n + n else a.tmod n := by
  have e : a = n * a.tdiv n + a.tmod n := (Int.mul_tdiv_add_tmod a n).symm
  have e2 : a % n = a.tmod n % n := by
   conv => lhs; rw [e]
   rw [Int.add_comm, Int.add_mul_emod_self_left]
  rw [e2]
  split
  ·have : (a.tmod n + n) % n = a.tmod n % n := by simp
   rw [← this]
   exact Int.emod_eq_of_lt (by omega) (by omega)
  ·exact Int.emod_eq_of_lt (by omega) (by omega)
 have hw1 : IntKind.i64.wrap (a.tmod n) = a.tmod n := IntWalk.i64_in _ (by omega)
 have hnz : (n = 0) = False := eq_false (by omega)
 clear hem
 by_cases hneg : a.tmod n < 0
 ·rw [if_pos hneg] at hde
  have hw2 : IntKind.i64.wrap (a.tmod n + n) = a.tmod n + n := IntWalk.i64_in _ (by omega)
  rw [hde]
  clear hde
  go_enter Tryz.func21, Tryz.ntmps21
  go_wp2_with fail
  go_ret
  exact ⟨rfl, rfl⟩
 ·rw [if_neg hneg] at hde
  rw [hde]
  clear hde
  go_enter Tryz.func21, Tryz.ntmps21
  go_wp2_with fail
  go_ret
  exact ⟨rfl, rfl⟩
end
section
open Go.RowKit
section
variable {base rb mb cap N m st lg K : Nat} {G : Nat → Nat × Nat × Nat} {F F' : VolF} {tv : Value} {w w' : World} {s s' : ShM} {V V' : VolM} {L : Nat → List Bytes} {killed : Bool}
theorem DoPost.mono {K' : Nat} {e : Ending} (h : DoPost w base rb mb cap tv m st lg N K killed e w') (hK : K ≤ K') : DoPost w base rb mb cap tv m st lg N K' killed e w' := by
 obtain ⟨a, G, F, s, V, L, b, c, d, f⟩ := h
 exact ⟨a, G, F, s, V, L, b, c, fun q hq => Nat.le_trans (d q hq) hK, f⟩
theorem DoPost.from {w0 : World} {e : Ending} (hB : Below base w0 w) (h : DoPost w base rb mb cap tv m st lg N K killed e w') : DoPost w0 base rb mb cap tv m st lg N K killed e w' := by
 obtain ⟨a, G, F, s, V, L, b, c, d, f⟩ := h
 exact ⟨a, G, F, s, V, L, b, c, d, hB.trans f⟩
def DoAny (w : World) (base rb mb cap : Nat) (tv : Value) (m st lg N K : Nat) (e : Ending) (w' : World) : Prop := ∃ killed, DoPost w base rb mb cap tv m st lg N K killed e w'
set_option maxHeartbeats 8000000 in
theorem rig_do2 (h : RigAt w base rb mb cap G F tv m st lg N s V L killed) (ho : RigOk s V N L killed (m, st)) (hlen : ∀ b, b < N → (L b).length ≤ K) (hK : K ≤ 900) (hN : N ≤ 1000) (n d : Int) (x : UInt8) (kv : Value) :
  Calls Tryz.prog 13 #[.pointer (some ⟨rb, 0, none⟩), .agg #[.int .i64 2, .int .i64 n, .int .i64 d, .int .u8 (x.toNat : Int), kv]] w (DoPost w base rb mb cap tv m st lg N (K + 1) killed) := by
 have hb := below_made' w (.cells #[.int .i64 2, .int .i64 n, .int .i64 d, .int .u8 (x.toNat : Int), kv] 31)
 have hbx := heap_alloc_new w (.cells #[.int .i64 2, .int .i64 n, .int .i64 d, .int .u8 (x.toNat : Int), kv] 31)
 have h1 := h.below hb
 have hB := hb.mono h.bsz
 have d0 := cell_of_row _ w.heap.size 0 _ _ _ hbx
 have d1 := cell_of_row _ w.heap.size 1 _ _ _ hbx
 have d3 := cell_of_row _ w.heap.size 3 _ _ _ hbx
 have hwr := rig_write h1 ho hlen hK hN n x
 have hblt := lt_of_row hbx
 replace hB := Lib.hid hB
 clear h hb hbx h1 ho hlen
 go_enter Tryz.func13, Tryz.ntmps13
 go_wp2_with fail
 with_reducible refine hwr.mono ?_
 rintro e w2 hp
 have hfin := Lib.hid (hp.from hB.out)
 obtain ⟨rfl, _⟩ := hp
 clear hwr hB
 go_wp2_with fail
 go_ret
 exact hfin.out
set_option maxHeartbeats 8000000 in
theorem rig_do5 (h : RigAt w base rb mb cap G F tv m st lg N s V L killed) (ho : RigOk s V N L killed (m, st)) (hlen : ∀ b, b < N → (L b).length ≤ K) (hK : K ≤ 900) (hN : N ≤ 1000) (n d : Int) (xv : Value) (KA : Option Addr) (kn kc : Nat) (keep : List (List Int)) (hKL : KeepL w base KA keep) (hkn : keep.length = kn) :
  Calls Tryz.prog 13 #[.pointer (some ⟨rb, 0, none⟩), .agg #[.int .i64 5, .int .i64 n, .int .i64 d, xv, .slice KA kn kc]] w (DoPost w base rb mb cap tv m st lg N (K + 1) killed) := by
 have hb := below_made' w (.cells #[.int .i64 5, .int .i64 n, .int .i64 d, xv, .slice KA kn kc] 31)
 have hbx := heap_alloc_new w (.cells #[.int .i64 5, .int .i64 n, .int .i64 d, xv, .slice KA kn kc] 31)
 have h1 := h.below hb
 have hB := hb.mono h.bsz
 have d0 := cell_of_row _ w.heap.size 0 _ _ _ hbx
 have d4 := cell_of_row _ w.heap.size 4 _ _ _ hbx
 have hcr := crash_any h1 ho (fun b hb => by have := hlen b hb; omega) hN KA kn kc keep (hKL.below hB h.bsz) hkn (-1)
 have hblt := lt_of_row hbx
 replace hB := Lib.hid hB
 clear h hb hbx h1 ho hlen hKL hkn
 go_enter Tryz.func13, Tryz.ntmps13
 go_wp2_with fail
 with_reducible refine hcr.mono ?_
 rintro e w2 hp
 have hfin := Lib.hid ((hp.from hB.out).mono (K' := K + 1) (by omega))
 obtain ⟨rfl, _⟩ := hp
 clear hcr hB
 go_wp2_with fail
 go_ret
 exact hfin.out
set_option maxHeartbeats 8000000 in
theorem rig_do8 (h : RigAt w base rb mb cap G F tv m st lg N s V L killed) (ho : RigOk s V N L killed (m, st)) (hlen : ∀ b, b < N → (L b).length ≤ K) (hK : K ≤ 900) (hN : N ≤ 1000) (n d : Int) (xv : Value) (KA : Option Addr) (kn kc : Nat) (keep : List (List Int)) (hKL : KeepL w base KA keep) (hkn : keep.length = kn) (hd0 : -9223372036854775808 ≤ d) (hd1 : d ≤ 9223372036854775807) :
  Calls Tryz.prog 13 #[.pointer (some ⟨rb, 0, none⟩), .agg #[.int .i64 8, .int .i64 n, .int .i64 d, xv, .slice KA kn kc]] w (DoPost w base rb mb cap tv m st lg N (K + 1) killed) := by
 have hb := below_made' w (.cells #[.int .i64 8, .int .i64 n, .int .i64 d, xv, .slice KA kn kc] 31)
 have hbx := heap_alloc_new w (.cells #[.int .i64 8, .int .i64 n, .int .i64 d, xv, .slice KA kn kc] 31)
 have h1 := h.below hb
 have hB := hb.mono h.bsz
 have d0 := cell_of_row _ w.heap.size 0 _ _ _ hbx
 have d2 := cell_of_row _ w.heap.size 2 _ _ _ hbx
 have d4 := cell_of_row _ w.heap.size 4 _ _ _ hbx
 have hcr := fun W (hb2 : Below (w.alloc (.cells #[.int .i64 8, .int .i64 n, .int .i64 d, xv, .slice KA kn kc] 31)).heap.size (w.alloc (.cells #[.int .i64 8, .int .i64 n, .int .i64 d, xv, .slice KA kn kc] 31)) W) (k : Int) =>
  crash_any (h1.below hb2) ho (fun b hb => by have := hlen b hb; omega) hN KA kn kc keep ((hKL.below hB h.bsz).below (hb2.mono h1.bsz) h1.bsz) hkn k
 have hBk := fun W (hb2 : Below (w.alloc (.cells #[.int .i64 8, .int .i64 n, .int .i64 d, xv, .slice KA kn kc] 31)).heap.size (w.alloc (.cells #[.int .i64 8, .int .i64 n, .int .i64 d, xv, .slice KA kn kc] 31)) W) => hB.trans (hb2.mono h1.bsz)
 have hblt := lt_of_row hbx
 have hmd := fun W => mod08 d 200 W (by omega) (by omega) hd0 hd1
 replace hcr := Lib.hid hcr
 replace hBk := Lib.hid hBk
 replace hmd := Lib.hid hmd
 clear h hb hbx h1 ho hlen hKL hkn hB
 go_enter Tryz.func13, Tryz.ntmps13
 go_wp2_with fail
 refine wp_region_held_tail (S := (fun W => W.cell? ⟨w.heap.size, 2, none⟩ = some (.int .i64 d) ∧ W.cell? ⟨w.heap.size, 4, none⟩ = some (.slice KA kn kc))) 6 (by kernel_rfl) (by decide) ?_ (fun hHeld => ?_)
 ·(try dsimp only)
  exact ⟨d2, d4⟩
 refine tkT 0 ?_
 refine tkT 1 ?_
 refine tkT 2 ?_
 refine tkT 3 ?_
 refine tkT 4 ?_
 refine rkT 5 (fun K hK => ?_)
 go_simp
 with_reducible refine (hmd.out _).mono ?_
 rintro e wx ⟨rfl, rfl⟩
 (try go_wp2_with fail)
 refine hK.out _ _ ?_ (fun hHeld2 => ?_)
 ·(try dsimp only)
  exact hHeld
 clear hK K
 replace hHeld := hHeld2
 clear hHeld2
 (try simp only [pA, pN, pB, pC, pD])
 refine wt_tail (by kernel_rfl) ?_
 simp only [List.drop_succ_cons, List.drop_zero]
 have hcr2 := hcr.out _ (Below.refl _ _).drew (d % 200)
 have hBd := hBk.out _ (Below.refl _ _).drew
 replace hBd := Lib.hid hBd
 clear hcr hBk hmd
 go_wp2_with fail
 with_reducible refine hcr2.mono ?_
 rintro e w2 hp
 have hfin := Lib.hid ((hp.from hBd.out).mono (K' := K + 1) (by omega))
 obtain ⟨rfl, _⟩ := hp
 clear hcr2 hBd
 go_wp2_with fail
 go_ret
 exact hfin.out
theorem VolX.boxed (h : RigAt w base rb mb cap G F tv m st lg N s V L killed) (hb : Below w.heap.size w w') (hlt : w.heap.size < w'.heap.size) : VolX (fun b => RX base rb mb G N b ∨ b = w.heap.size) F w' s V := h.vol.more hb fun b hx => by
 rcases hx with hx | rfl
 ·exact ⟨Nat.lt_of_lt_of_le (h.vol.lt b hx) hb.size, .inl hx⟩
 ·exact ⟨hlt, .inr (Nat.le_refl _)⟩
theorem VolX.shelved {X : Nat → Prop} (h : VolX X F w s V) (hS : ShX (fun b => X b ∨ b ∈ F.own) F.g w' s') (hK : Kept (fun b => X b ∨ b ∈ F.own) w w') (h1 : s'.disks.length = s.disks.length) (h2 : s'.sectors = s.sectors) : VolX X F w' s' V :=
 h.rows hS h.out (fun b hb => hK.block b (.inr hb)) (h.ok.same h1 h2)
set_option maxHeartbeats 8000000 in
theorem rig_do4 (h : RigAt w base rb mb cap G F tv m st lg N s V L killed) (ho : RigOk s V N L killed (m, st)) (hlen : ∀ b, b < N → (L b).length ≤ K) (n d : Int) (xv kv : Value) :
  Calls Tryz.prog 13 #[.pointer (some ⟨rb, 0, none⟩), .agg #[.int .i64 4, .int .i64 n, .int .i64 d, xv, kv]] w (DoPost w base rb mb cap tv m st lg N (K + 1) killed) := by
 have hb := below_made' w (.cells #[.int .i64 4, .int .i64 n, .int .i64 d, xv, kv] 31)
 have hbx := heap_alloc_new w (.cells #[.int .i64 4, .int .i64 n, .int .i64 d, xv, kv] 31)
 have h1 := (h.below hb).below (Below.refl _ _).drew
 have hB : Below base w (w.alloc (.cells #[.int .i64 4, .int .i64 n, .int .i64 d, xv, kv] 31)).drew := (hb.mono h.bsz).drew
 have d0 := cell_of_row _ w.heap.size 0 _ _ _ hbx
 have d1 := cell_of_row _ w.heap.size 1 _ _ _ hbx
 have hsp := lx_stop h1.vol.sh n
 have r0 := (h.below hb).half.c0
 have hrl := (h.below hb).rlt
 have hblt := lt_of_row hbx
 have hst := ho.stops n
 have hlst : (s.stop n).disks.length = s.disks.length ∧ (s.stop n).sectors = s.sectors := by unfold ShM.stop; split <;> exact ⟨rfl, rfl⟩
 have hfin : ∀ w2, ShX (fun b => RX base rb mb G N b ∨ b ∈ F.own) F.g w2 (s.stop n) → Kept (fun b => RX base rb mb G N b ∨ b ∈ F.own) (w.alloc (.cells #[.int .i64 4, .int .i64 n, .int .i64 d, xv, kv] 31)).drew w2 → DoPost w base rb mb cap tv m st lg N (K + 1) killed (.returned (.bool true)) w2 := fun w2 hS hK2 =>
  ⟨rfl, G, F, _, V, L, h1.keep (h1.vol.shelved hS hK2 hlst.1 hlst.2) (hK2.mono fun b hb => .inl hb), hst, fun b hb => by have := hlen b hb; omega, hB.trans (hK2.below fun b hb => .inl (.inl hb))⟩
 replace hfin := Lib.hid hfin
 clear h hb hbx h1 ho hlen hB hst hlst
 go_enter Tryz.func13, Tryz.ntmps13
 go_wp2_with fail
 refine wp_region_held_tail (S := (fun W => W.cell? ⟨w.heap.size, 1, none⟩ = some (.int .i64 n) ∧ W.cell? ⟨rb, 0, none⟩ = some (.pointer (some ⟨F.g, 0, none⟩)))) 6 (by kernel_rfl) (by decide) ?_ (fun hHeld => ?_)
 ·(try dsimp only)
  exact ⟨d1, r0⟩
 refine tkT 0 ?_
 refine tkT 1 ?_
 refine tkT 2 ?_
 refine tkT 3 ?_
 refine tkT 4 ?_
 refine tkT 5 ?_
 refine wt_tail (by kernel_rfl) ?_
 simp only [List.drop_succ_cons, List.drop_zero]
 go_wp2_with fail
 with_reducible refine hsp.mono ?_
 rintro e w2 ⟨rfl, hS2, hK2⟩
 replace hfin := Lib.hid (hfin.out w2 hS2 hK2)
 clear hsp hS2 hK2
 go_wp2_with fail
 go_ret
 exact hfin.out
theorem killR_kept (s : ShM) (d : Int) : (s.killR d).2.disks.length = s.disks.length ∧ (s.killR d).2.sectors = s.sectors := by
 unfold ShM.killR
 split
 ·exact ⟨by simp [ShM.setDisk], rfl⟩
 ·exact ⟨rfl, rfl⟩
set_option maxHeartbeats 8000000 in
theorem rig_do6 (h : RigAt w base rb mb cap G F tv m st lg N s V L killed) (ho : RigOk s V N L killed (m, st)) (hlen : ∀ b, b < N → (L b).length ≤ K) (hm16 : m ≤ 16) (n d : Int) (xv kv : Value) (hd0 : -9223372036854775808 ≤ d) (hd1 : d ≤ 9223372036854775807) :
  Calls Tryz.prog 13 #[.pointer (some ⟨rb, 0, none⟩), .agg #[.int .i64 6, .int .i64 n, .int .i64 d, xv, kv]] w (DoAny w base rb mb cap tv m st lg N (K + 1)) := by
 have hb := below_made' w (.cells #[.int .i64 6, .int .i64 n, .int .i64 d, xv, kv] 31)
 have hbx := heap_alloc_new w (.cells #[.int .i64 6, .int .i64 n, .int .i64 d, xv, kv] 31)
 have h1 := h.below hb
 have hV1 := VolX.boxed h hb (lt_of_row hbx)
 have hB := hb.mono h.bsz
 have d0 := cell_of_row _ w.heap.size 0 _ _ _ hbx
 have d2 := cell_of_row _ w.heap.size 2 _ _ _ hbx
 have r0 := h1.half.c0
 have r2 := h1.c 2
 have r6 := h1.c 6
 have r8 := h1.c 8
 have hrl := h1.rlt
 simp only [rigR] at r2 r6 r8
 have hblt := lt_of_row hbx
 cases killed with
 | true =>
  have hfin : DoAny w base rb mb cap tv m st lg N (K + 1) (.returned (.bool true)) (w.alloc (.cells #[.int .i64 6, .int .i64 n, .int .i64 d, xv, kv] 31)) :=
   ⟨true, rfl, G, F, _, V, L, h1, ho, fun b hb => by have := hlen b hb; omega, hB⟩
  replace hfin := Lib.hid hfin
  clear h hb hbx h1 ho hlen hB hV1
  go_enter Tryz.func13, Tryz.ntmps13
  go_wp2_with fail
  go_ret
  exact hfin.out
 | false =>
  have hmd := fun W => mod08 d ((m : Int) + 1) W (by omega) (by omega) hd0 hd1
  have hwm : IntKind.i64.wrap ((m : Int) + 1) = (m : Int) + 1 := IntWalk.i64_in _ (by omega)
  have hdk : 0 ≤ d % ((m : Int) + 1) ∧ d % ((m : Int) + 1) < (m : Int) + 1 := ⟨Int.emod_nonneg _ (by omega), Int.emod_lt_of_pos _ (by omega)⟩
  obtain ⟨dk, hdkk⟩ := Int.eq_ofNat_of_zero_le hdk.1
  have hdl : dk < s.disks.length := by rw [ho.slen, ho.dl, ho.q.1]; show dk < m + 1; omega
  obtain ⟨k0, hok2⟩ := ho.kill hdl
  have hkl := fun W (hb2 : Below (w.alloc (.cells #[.int .i64 6, .int .i64 n, .int .i64 d, xv, kv] 31)).heap.size (w.alloc (.cells #[.int .i64 6, .int .i64 n, .int .i64 d, xv, kv] 31)) W) => lx_kill (hV1.below hb2).sh (dk : Int)
  obtain ⟨q1, q2⟩ := killR_kept s (dk : Int)
  rw [k0] at hkl
  rw [hdkk] at hmd
  have hSk : ∀ W, Kept (fun b => (RX base rb mb G N b ∨ b = w.heap.size) ∨ b ∈ F.own) (w.alloc (.cells #[.int .i64 6, .int .i64 n, .int .i64 d, xv, kv] 31)).drew W → W.cell? ⟨w.heap.size, 2, none⟩ = some (.int .i64 d) ∧ W.cell? ⟨rb, 0, none⟩ = some (.pointer (some ⟨F.g, 0, none⟩)) ∧ W.cell? ⟨rb, 2, none⟩ = some (.int .i64 (m : Int)) := fun W hk =>
   ⟨(World.cell?_of_block (hk.block _ (.inl (.inr rfl)))).trans d2, (World.cell?_of_block (hk.block _ (.inl (.inl (.inr (.inl rfl)))))).trans r0, (World.cell?_of_block (hk.block _ (.inl (.inl (.inr (.inl rfl)))))).trans r2⟩
  have hfin : ∀ W, ShX (fun b => (RX base rb mb G N b ∨ b = w.heap.size) ∨ b ∈ F.own) F.g W (s.killR (dk : Int)).2 → Kept (fun b => (RX base rb mb G N b ∨ b = w.heap.size) ∨ b ∈ F.own) (w.alloc (.cells #[.int .i64 6, .int .i64 n, .int .i64 d, xv, kv] 31)).drew W → W.frozen? ⟨rb, 6, none⟩ = false ∧ W.cell? ⟨rb, 6, none⟩ = some (.bool false) ∧ rb < W.heap.size ∧ DoAny w base rb mb cap tv m st lg N (K + 1) (.returned (.bool true)) (W.setCell ⟨rb, 6, none⟩ (.bool true)) := fun W hS hK2 => by
   have hVd := hV1.below (Below.refl _ _).drew
   have hVW := hVd.shelved hS hK2 q1 q2
   have h2 := (h1.below (Below.refl _ _).drew).keep (hVW.mono fun b hb => .inl hb) (hK2.mono fun b hb => .inl (.inl hb))
   have hBW : Below base w W := (hB.drew).trans (hK2.below fun b hb => .inl (.inl (.inl hb)))
   exact ⟨h2.half.frz 6, h2.c 6, h2.rlt, true, rfl, G, F, _, V, L, h2.field 6 (.bool true) h2.vol rfl, hok2, fun b hb => by have := hlen b hb; omega, hBW.setCell (p := ⟨rb, 6, none⟩) h2.low _⟩
  replace hfin := Lib.hid hfin
  replace hSk := Lib.hid hSk
  replace hkl := Lib.hid hkl
  replace hmd := Lib.hid hmd
  replace hdkk := Lib.hid hdkk
  clear h hb hbx h1 ho hlen hB hV1 hdk hdl k0 hok2 q1 q2
  go_enter Tryz.func13, Tryz.ntmps13
  go_wp2_with fail
  refine wp_region_held_tail (S := (fun W => W.cell? ⟨w.heap.size, 2, none⟩ = some (.int .i64 d) ∧ W.cell? ⟨rb, 0, none⟩ = some (.pointer (some ⟨F.g, 0, none⟩)) ∧ W.cell? ⟨rb, 2, none⟩ = some (.int .i64 (m : Int)))) 17 (by kernel_rfl) (by decide) ?_ (fun hHeld => ?_)
  ·(try dsimp only)
   exact ⟨d2, r0, r2⟩
  refine tkT 0 ?_
  refine tkT 1 ?_
  refine tkT 2 ?_
  refine tkT 3 ?_
  refine tkT 4 ?_
  refine tkT 5 ?_
  refine tkT 6 ?_
  refine tkT 7 ?_
  refine tkT 8 ?_
  refine tkT 9 ?_
  refine tkT 10 ?_
  refine tkT 11 ?_
  refine rkT 12 (fun K hK => ?_)
  go_simp
  with_reducible refine (hmd.out _).mono ?_
  rintro e wx ⟨rfl, rfl⟩
  (try go_wp2_with fail)
  refine hK.out _ _ ?_ (fun hHeld2 => ?_)
  ·(try dsimp only)
   (first | exact hHeld | exact hS7)
  clear hK K
  replace hHeld := hHeld2
  clear hHeld2
  (try simp only [pA, pN, pB, pC, pD])
  refine rkT 13 (fun K hK => ?_)
  go_simp
  with_reducible refine (hkl.out _ (Below.refl _ _).drew).mono ?_
  rintro e w7 ⟨rfl, hS2, hK2⟩
  have hS7 := hSk.out w7 hK2
  obtain ⟨f1, f2, f3, f4⟩ := hfin.out w7 hS2 hK2
  (try go_wp2_with fail)
  refine hK.out _ _ ?_ (fun hHeld2 => ?_)
  ·(try dsimp only)
   (first | exact hHeld | exact hS7)
  clear hK K
  replace hHeld := hHeld2
  clear hHeld2
  (try simp only [pA, pN, pB, pC, pD])
  refine tkT 14 ?_
  refine tkT 15 ?_
  refine tkT 16 ?_
  refine wt_tail (by kernel_rfl) ?_
  simp only [List.drop_succ_cons, List.drop_zero]
  replace hfin := Lib.hid f4
  go_wp2_with fail
  go_ret
  exact hfin.out
end
end
section
open Go.RowKit
section
variable {base rb mb cap N m st lg K : Nat} {G : Nat → Nat × Nat × Nat} {F F' : VolF} {tv : Value} {w w' : World} {s s' : ShM} {V V' : VolM} {L : Nat → List Bytes} {killed : Bool}
set_option maxRecDepth 100000 in
set_option maxHeartbeats 8000000 in
theorem rig_last (h : RigAt w base rb mb cap G F tv m st lg N s V L killed) (hN : N ≤ 1000) (n : Nat) (hn : n < N) (x : Bytes) (hx : (L n).getLast? = some x) (hlen : (L n).length ≤ 1000) :
  Calls Tryz.prog 18 #[.pointer (some ⟨rb, 0, none⟩), .int .i64 (n : Int)] w fun e w' => e = .returned (.string ⟨x.toArray⟩) ∧ ∃ k, w' = w.drewN k := by
 have hne : L n ≠ [] := by intro e; rw [e] at hx; cases hx
 obtain ⟨q, hq⟩ : ∃ q, (L n).length = q + 1 := ⟨(L n).length - 1, by have := List.length_pos_iff.2 hne; omega⟩
 have hlq : (L n)[q]'(by omega) = x := by
  rw [List.getLast?_eq_getElem?, hq, Nat.add_sub_cancel, List.getElem?_eq_getElem (by omega)] at hx
  injection hx
 have r5 := h.c 5
 have hrl := h.rlt
 simp only [rigR] at r5
 have hh := h.may.head hn
 have hs := h.may.str hn (i := q) (by omega)
 rw [hlq] at hs
 rw [hq] at hh
 have hs' : w.cell? ⟨(G n).1, (G n).2.1 + q, none⟩ = some (.string ⟨x.toArray⟩) := hs
 have hmb := h.may.mblt
 have hgl := (h.may.el n hn).1.lt
 have hwq : IntKind.i64.wrap (q : Int) = (q : Int) := IntWalk.i64_in _ (by omega)
 have hqq : (q : Int) < (q : Int) + 1 := by omega
 have hn1 : (n : Int) < (N : Int) := by omega
 clear h hx hlen hne hlq hs hq
 go_enter Tryz.func18, Tryz.ntmps18
 go_wp2_with fail
 go_quiet (fail)
 go_wp2_with fail
 go_ret
 exact ⟨rfl, _, rfl⟩
set_option maxRecDepth 100000 in
set_option maxHeartbeats 16000000 in
theorem rig_do3 (h : RigAt w base rb mb cap G F tv m st lg N s V L killed) (ho : RigOk s V N L killed (m, st)) (hlen : ∀ b, b < N → (L b).length ≤ K) (hK : K ≤ 900) (hN : N ≤ 1000) (n d : Int) (xv kv : Value) :
  Calls Tryz.prog 13 #[.pointer (some ⟨rb, 0, none⟩), .agg #[.int .i64 3, .int .i64 n, .int .i64 d, xv, kv]] w (DoPost w base rb mb cap tv m st lg N (K + 1) killed) := by
 have hb := below_made' w (.cells #[.int .i64 3, .int .i64 n, .int .i64 d, xv, kv] 31)
 have hbx := heap_alloc_new w (.cells #[.int .i64 3, .int .i64 n, .int .i64 d, xv, kv] 31)
 have h1 := h.below hb
 have hB := hb.mono h.bsz
 have d0 := cell_of_row _ w.heap.size 0 _ _ _ hbx
 have r1 := h1.half.c1
 have hrl := h1.rlt
 have hblt := lt_of_row hbx
 have hfl := ra_flush h1.vol (ho.room.mono (by omega))
 have hpl := ho.flush
 generalize volFlush s V = r at *
 obtain ⟨er, s2, V2⟩ := r
 dsimp only at hpl hfl
 have hne := Lib.hid ho.ne
 replace h1 := Lib.hid h1
 replace hB := Lib.hid hB
 replace hpl := Lib.hid hpl
 replace hlen := Lib.hid hlen
 clear h hb hbx ho
 go_enter Tryz.func13, Tryz.ntmps13
 go_wp2_with fail
 with_reducible refine hfl.mono ?_
 rintro e w2 ⟨rfl, hV2, hK2⟩
 dsimp only at hV2
 have h2 := h1.out.keep hV2 hK2
 have hB2 := RigAt.kbelow hB.out hK2
 clear hfl hV2 hK2 h1 hB r1 hrl
 rcases hpl.out with ⟨e0, hok⟩ | ⟨e3, hoff, hok⟩
 ·subst e0
  have hR0 := Lib.hid h2
  have hB0 := Lib.hid hB2
  replace hok := Lib.hid hok
  clear hpl h2 hB2
  go_wp2_with fail
  go_loopw [8] (fun q wr => ∃ (k : Nat) (G : Nat → Nat × Nat × Nat) (L' : Nat → List Bytes), q = .int .i64 k ∧ k ≤ N ∧ Hid (∀ j, L' j = if j < k then lastsL L j else L j) ∧ Hid (RigAt wr base rb mb cap G F tv m st lg N s2 V2 L' killed) ∧ Hid (Below base w wr))
   (fun q _ => N - (intOf q).toNat)
  case atStart => exact ⟨0, G, L, by go_num, by omega, Lib.hid (fun j => by simp), hR0, hB0⟩
  case round =>
   clear hR0 hB0
   obtain ⟨k, G, L', rfl, hk, hL', hR, hB⟩ := hrel
   have r5 := hR.out.c 5
   have hrl := hR.out.rlt
   simp only [rigR] at r5
   by_cases hkN : k < N
   ·have hhd := hR.out.may.head hkN
    have hfz := (hR.out.may.room (k := k) (by have := hR.out.ncap; omega)).2
    have hLk : L' k = L k := by rw [hL'.out k, if_neg (by omega)]
    have hf1 : 0 < (L' k).length := by rw [hLk]; exact List.length_pos_iff.2 (hne.out k hkN)
    have hl1 : (L' k).length ≤ 1000 := by rw [hLk]; have := hlen.out k hkN; omega
    have hv := (hR.out.may.el k hkN).1
    have hvc := hv.2.1
    rw [List.length_map] at hvc
    have hvm := hv.2.2.1
    simp only [maxLen] at hvm
    obtain ⟨q, hq⟩ : ∃ q, (L' k).length = q + 1 := ⟨(L' k).length - 1, by omega⟩
    have hput := hR.out.put hkN (w' := wr.drew) (But.of_below (Below.refl _ _).drew) (l := (L' k).drop q) (n := 1) (by rw [List.length_drop]; omega) (by rw [List.map_drop]; exact hv.drop q (by rw [List.length_map]; omega)) (.inl rfl)
    obtain ⟨hR', hBk⟩ := hput
    have hB' := Lib.hid (hBk w hB.out)
    have hmbl := hR.out.may.mblt
    have hL2 : Hid (∀ j, updM L' k ((L' k).drop q) j = if j < k + 1 then lastsL L j else L j) := Lib.hid fun j => by
     unfold updM
     by_cases e : j = k
     ·subst e
      rw [if_pos rfl, if_pos (by omega), hLk]
      rw [hLk] at hq
      unfold lastsL
      rw [hq]
      rfl
     ·rw [if_neg e, hL'.out j]
      by_cases e2 : j < k
      ·rw [if_pos e2, if_pos (by omega)]
      ·rw [if_neg e2, if_neg (by omega)]
    rw [hq] at hhd hvc
    replace hR' := Lib.hid hR'
    replace hq := Lib.hid hq
    clear hLk hf1 hl1 hv hBk hL' hR hB
    go_wp2_with fail
    have hn0 : (0 : Int) ≤ (k : Int) := by omega
    have hwq : IntKind.i64.wrap (q : Int) = (q : Int) := IntWalk.i64_in _ (by omega)
    have hqq : (0 : Int) ≤ (q : Int) ∧ (q : Int) ≤ (q : Int) + 1 := by omega
    have hqn : ((G k).2.2 = q) = False := by simp; omega
    refine wp_region_held_tail (S := (fun W => W.cell? ⟨rb, 5, none⟩ = some (.slice (some ⟨mb, 0, none⟩) N cap) ∧ W.cell? ⟨mb, k, none⟩ = some (.slice (some ⟨(G k).1, (G k).2.1, none⟩) (q + 1) (G k).2.2))) 22 (by kernel_rfl) (by decide) ?_ (fun hHeld => ?_)
    ·(try dsimp only)
     exact ⟨r5, hhd⟩
    refine tkT 0 ?_
    refine tkT 1 ?_
    refine tkT 2 ?_
    refine tkT 3 ?_
    refine tkT 4 ?_
    refine tkT 5 ?_
    refine tkT 6 ?_
    refine tkT 7 ?_
    refine tkT 8 ?_
    refine tkT 9 ?_
    refine tkT 10 ?_
    refine tkT 11 ?_
    refine tkT 12 ?_
    refine tkT 13 ?_
    refine tkT 14 ?_
    refine tkT 15 ?_
    refine tkT 16 ?_
    refine tkT 17 ?_
    refine tkT 18 ?_
    refine tkT 19 ?_
    refine tkT 20 ?_
    refine tkT 21 ?_
    refine wt_tail (by kernel_rfl) ?_
    simp only [List.drop_succ_cons, List.drop_zero]
    have hhd' : wr.drew.cell? ⟨mb, k, none⟩ = _ := hhd
    have hfz' : wr.drew.frozen? ⟨mb, k, none⟩ = false := hfz
    go_wp2
    go_roundw
    case rel => exact ⟨k + 1, _, _, by go_num, by omega, hL2, hR', hB'⟩
    case measure => simp [intOf]; omega
   ·obtain rfl : k = N := by omega
    have hLe : L' = fun b => if b < k then lastsL L b else L b := funext fun j => hL'.out j
    have hfin : DoPost w base rb mb cap tv m st lg k (K + 1) killed (.returned (.bool true)) wr := ⟨rfl, G, F, s2, V2, L', hR.out, by rw [hLe]; exact hok.out, fun b hb => by
     rw [hL'.out b, if_pos hb]
     unfold lastsL
     rw [List.length_drop]
     have := hlen.out b hb
     omega, hB.out⟩
    replace hfin := Lib.hid hfin
    clear hL' hR hB hLe hok
    go_wp2_with fail
    go_ret
    exact hfin.out
 ·subst e3
  have hof := lx_off h2.vol.shelf
  rw [hoff] at hof
  have r0 := h2.half.c0
  have hrl := h2.rlt
  have hfin : DoPost w base rb mb cap tv m st lg N (K + 1) killed (.returned (.bool true)) w2 := ⟨rfl, G, F, s2, V2, L, h2, hok, fun b hb => by have := hlen.out b hb; omega, hB2⟩
  replace hfin := Lib.hid hfin
  clear h2 hok hB2 hpl
  go_wp2_with fail
  with_reducible refine hof.mono ?_
  rintro e wx ⟨rfl, rfl⟩
  clear hof
  go_wp2_with fail
  go_ret
  exact hfin.out
end
end
section
open Go.RowKit
section
variable {base rb mb cap N m st lg K : Nat} {G : Nat → Nat × Nat × Nat} {F F' : VolF} {tv : Value} {w w' : World} {s s' : ShM} {V V' : VolM} {L : Nat → List Bytes} {killed : Bool}
set_option maxRecDepth 100000 in
set_option maxHeartbeats 16000000 in
theorem rig_do1_bad (h : RigAt w base rb mb cap G F tv m st lg N s V L killed) (ho : RigOk s V N L killed (m, st)) (hlen : ∀ b, b < N → (L b).length ≤ K) (n d : Int) (hn : ¬ (0 ≤ n ∧ n < (N : Int))) (xv kv : Value) :
  Calls Tryz.prog 13 #[.pointer (some ⟨rb, 0, none⟩), .agg #[.int .i64 1, .int .i64 n, .int .i64 d, xv, kv]] w (DoPost w base rb mb cap tv m st lg N (K + 1) killed) := by
 have hb := below_made' w (.cells #[.int .i64 1, .int .i64 n, .int .i64 d, xv, kv] 31)
 have hbx := heap_alloc_new w (.cells #[.int .i64 1, .int .i64 n, .int .i64 d, xv, kv] 31)
 have h1 := (h.below hb).below (Below.refl _ _).drew
 have hV1 := (VolX.boxed h hb (lt_of_row hbx)).below (Below.refl _ _).drew
 have hB : Below base w (w.alloc (.cells #[.int .i64 1, .int .i64 n, .int .i64 d, xv, kv] 31)).drew := (hb.mono h.bsz).drew
 have d0 := cell_of_row _ w.heap.size 0 _ _ _ hbx
 have d1 := cell_of_row _ w.heap.size 1 _ _ _ hbx
 have r1 := (h.below hb).half.c1
 have r5 := (h.below hb).c 5
 have hrl := (h.below hb).rlt
 simp only [rigR] at r5
 have hblt := lt_of_row hbx
 have hv : volRead s V n = ([], 1, s, V) := by unfold volRead; rw [if_neg (by rw [← ho.size]; exact hn)]
 have hrd := ra_read_bad hV1 n (by rw [← ho.size]; exact hn)
 rw [hv] at hrd
 unfold BytesPost at hrd
 dsimp only [List.length_nil] at hrd
 have hSk : ∀ W, Kept (fun b => RX base rb mb G N b ∨ b = w.heap.size) (w.alloc (.cells #[.int .i64 1, .int .i64 n, .int .i64 d, xv, kv] 31)).drew W → (W.cell? ⟨w.heap.size, 1, none⟩ = some (.int .i64 n) ∧ W.cell? ⟨rb, 1, none⟩ = some (.pointer (some ⟨F.v, 0, none⟩))) ∧ W.cell? ⟨rb, 5, none⟩ = some (.slice (some ⟨mb, 0, none⟩) N cap) := fun W hk =>
  ⟨⟨(World.cell?_of_block (hk.block _ (.inr rfl))).trans d1, (World.cell?_of_block (hk.block _ (.inl (.inr (.inl rfl))))).trans r1⟩, (World.cell?_of_block (hk.block _ (.inl (.inr (.inl rfl))))).trans r5⟩
 have hfin : ∀ W, VolX (fun b => RX base rb mb G N b ∨ b = w.heap.size) F W s V → Kept (fun b => RX base rb mb G N b ∨ b = w.heap.size) (w.alloc (.cells #[.int .i64 1, .int .i64 n, .int .i64 d, xv, kv] 31)).drew W → rb < W.heap.size ∧ w.heap.size < W.heap.size ∧ ∀ k, DoPost w base rb mb cap tv m st lg N (K + 1) killed (.returned (.bool true)) (W.drewN k) := fun W hVW hk => by
  have h2 := h1.keep (hVW.mono fun b hb => .inl hb) (hk.mono fun b hb => .inl hb)
  have hBW : Below base w W := hB.trans (hk.below fun b hb => .inl (.inl hb))
  exact ⟨h2.rlt, hVW.lt _ (.inr rfl), fun k => ⟨rfl, G, F, s, V, L, h2.below (below_drewN (Below.refl _ _) k), ho, fun b hb => by have := hlen b hb; omega, below_drewN hBW k⟩⟩
 replace hfin := Lib.hid hfin
 replace hSk := Lib.hid hSk
 clear h hb hbx h1 ho hlen hB hV1 hv
 have hcase : n < 0 ∨ (¬ n < 0 ∧ (N : Int) ≤ n) := by omega
 clear hn
 rcases hcase with hn | ⟨hn, hn2⟩
 ·have k1 : decide (n < 0) = true := decide_eq_true hn
  go_enter Tryz.func13, Tryz.ntmps13
  go_wp2_with fail
  refine wp_region_held_drew (S := (fun W => W.cell? ⟨w.heap.size, 1, none⟩ = some (.int .i64 n) ∧ W.cell? ⟨rb, 1, none⟩ = some (.pointer (some ⟨F.v, 0, none⟩)))) (by kernel_rfl) ?_ (fun hHeld => ?_)
  ·(try dsimp only)
   exact ⟨d1, r1⟩
  refine tkA 0 ?_
  refine tkA 1 ?_
  refine tkA 2 ?_
  refine tkA 3 ?_
  refine tkA 4 ?_
  refine tkA 5 ?_
  refine rkA 6 (fun K hK => ?_)
  go_simp
  with_reducible refine hrd.mono ?_
  rintro e w4 ⟨A4, c4, rfl, hR4, hc4, hA4, hV4, hK4⟩
  have hS4 := hSk.out w4 hK4
  obtain ⟨f1, f2, f3⟩ := hfin.out w4 (hV4.mono fun b hb => .inl hb) hK4
  (try go_wp2_with fail)
  refine hK.out _ _ ?_ (fun hHeld2 => ?_)
  ·(try dsimp only)
   (first | exact hHeld | exact hS4.1)
  clear hK K
  replace hHeld := hHeld2
  clear hHeld2
  (try simp only [pA, pN, pB, pC, pD])
  refine tkA 7 ?_
  refine tkA 8 ?_
  refine tkA 9 ?_
  refine tkA 10 ?_
  refine tkA 11 ?_
  refine wpAnyH_done (by kernel_rfl) ?_ _
  obtain ⟨⟨d1', r1'⟩, r5'⟩ := hS4
  clear hHeld hrd hSk hfin hV4 hK4 hR4 hA4 hc4 r1 r5
  replace f3 := Lib.hid f3
  go_wp2_with fail
  go_quiet (fail)
  go_wp2_with fail
  go_ret
  exact f3.out _
 ·have k1 : decide (n < 0) = false := decide_eq_false hn
  have k2 : decide ((N : Int) ≤ n) = true := decide_eq_true hn2
  go_enter Tryz.func13, Tryz.ntmps13
  go_wp2_with fail
  refine wp_region_held_drew (S := (fun W => W.cell? ⟨w.heap.size, 1, none⟩ = some (.int .i64 n) ∧ W.cell? ⟨rb, 1, none⟩ = some (.pointer (some ⟨F.v, 0, none⟩)))) (by kernel_rfl) ?_ (fun hHeld => ?_)
  ·(try dsimp only)
   exact ⟨d1, r1⟩
  refine tkA 0 ?_
  refine tkA 1 ?_
  refine tkA 2 ?_
  refine tkA 3 ?_
  refine tkA 4 ?_
  refine tkA 5 ?_
  refine rkA 6 (fun K hK => ?_)
  go_simp
  with_reducible refine hrd.mono ?_
  rintro e w4 ⟨A4, c4, rfl, hR4, hc4, hA4, hV4, hK4⟩
  have hS4 := hSk.out w4 hK4
  obtain ⟨f1, f2, f3⟩ := hfin.out w4 (hV4.mono fun b hb => .inl hb) hK4
  (try go_wp2_with fail)
  refine hK.out _ _ ?_ (fun hHeld2 => ?_)
  ·(try dsimp only)
   (first | exact hHeld | exact hS4.1)
  clear hK K
  replace hHeld := hHeld2
  clear hHeld2
  (try simp only [pA, pN, pB, pC, pD])
  refine tkA 7 ?_
  refine tkA 8 ?_
  refine tkA 9 ?_
  refine tkA 10 ?_
  refine tkA 11 ?_
  refine wpAnyH_done (by kernel_rfl) ?_ _
  obtain ⟨⟨d1', r1'⟩, r5'⟩ := hS4
  clear hHeld hrd hSk hfin hV4 hK4 hR4 hA4 hc4 r1 r5
  replace f3 := Lib.hid f3
  go_wp2_with fail
  go_quiet (fail)
  go_wp2_with fail
  go_ret
  exact f3.out _
set_option maxRecDepth 100000 in
set_option maxHeartbeats 16000000 in
theorem rig_do1 (h : RigAt w base rb mb cap G F tv m st lg N s V L killed) (ho : RigOk s V N L killed (m, st)) (hlen : ∀ b, b < N → (L b).length ≤ K) (hK : K ≤ 900) (hN : N ≤ 1000) (n : Nat) (d : Int) (hn : n < N) (xv kv : Value) :
  Calls Tryz.prog 13 #[.pointer (some ⟨rb, 0, none⟩), .agg #[.int .i64 1, .int .i64 (n : Int), .int .i64 d, xv, kv]] w (DoPost w base rb mb cap tv m st lg N (K + 1) killed) := by
 have hb := below_made' w (.cells #[.int .i64 1, .int .i64 (n : Int), .int .i64 d, xv, kv] 31)
 have hbx := heap_alloc_new w (.cells #[.int .i64 1, .int .i64 (n : Int), .int .i64 d, xv, kv] 31)
 have h1 := (h.below hb).below (Below.refl _ _).drew
 have hV1 := (VolX.boxed h hb (lt_of_row hbx)).below (Below.refl _ _).drew
 have hB : Below base w (w.alloc (.cells #[.int .i64 1, .int .i64 (n : Int), .int .i64 d, xv, kv] 31)).drew := (hb.mono h.bsz).drew
 have d0 := cell_of_row _ w.heap.size 0 _ _ _ hbx
 have d1 := cell_of_row _ w.heap.size 1 _ _ _ hbx
 have r1 := (h.below hb).half.c1
 have r5 := (h.below hb).c 5
 have hrl := (h.below hb).rlt
 simp only [rigR] at r5
 have hblt := lt_of_row hbx
 have hrd := ra_read hV1 (ho.room.mono (by omega)) n (by rw [← ho.size]; exact hn)
 obtain ⟨hT, hVe, hout⟩ := ho.reads hn
 have hok2 := ho.ticked hT
 generalize volRead s V (n : Int) = r at *
 obtain ⟨bs, er, s2, V2⟩ := r
 dsimp only at hT hVe hout hok2 hrd
 subst hVe
 unfold BytesPost at hrd
 dsimp only at hrd
 have hSk : ∀ W, Kept (fun b => RX base rb mb G N b ∨ b = w.heap.size) (w.alloc (.cells #[.int .i64 1, .int .i64 (n : Int), .int .i64 d, xv, kv] 31)).drew W → (W.cell? ⟨w.heap.size, 1, none⟩ = some (.int .i64 (n : Int)) ∧ W.cell? ⟨rb, 1, none⟩ = some (.pointer (some ⟨F.v, 0, none⟩))) ∧ W.cell? ⟨rb, 5, none⟩ = some (.slice (some ⟨mb, 0, none⟩) N cap) := fun W hk =>
  ⟨⟨(World.cell?_of_block (hk.block _ (.inr rfl))).trans d1, (World.cell?_of_block (hk.block _ (.inl (.inr (.inl rfl))))).trans r1⟩, (World.cell?_of_block (hk.block _ (.inl (.inr (.inl rfl))))).trans r5⟩
 have hfin : ∀ W, VolX (fun b => RX base rb mb G N b ∨ b = w.heap.size) F W s2 V2 → Kept (fun b => RX base rb mb G N b ∨ b = w.heap.size) (w.alloc (.cells #[.int .i64 1, .int .i64 (n : Int), .int .i64 d, xv, kv] 31)).drew W → (rb < W.heap.size ∧ w.heap.size < W.heap.size) ∧ RigAt W base rb mb cap G F tv m st lg N s2 V2 L killed ∧ ∀ k, DoPost w base rb mb cap tv m st lg N (K + 1) killed (.returned (.bool true)) (W.drewN k) := fun W hVW hk => by
  have h2 := h1.keep (hVW.mono fun b hb => .inl hb) (hk.mono fun b hb => .inl hb)
  have hBW : Below base w W := hB.trans (hk.below fun b hb => .inl (.inl hb))
  exact ⟨⟨h2.rlt, hVW.lt _ (.inr rfl)⟩, h2, fun k => ⟨rfl, G, F, s2, V2, L, h2.below (below_drewN (Below.refl _ _) k), hok2, fun b hb => by have := hlen b hb; omega, below_drewN hBW k⟩⟩
 have hln := hlen n hn
 replace hfin := Lib.hid hfin
 replace hSk := Lib.hid hSk
 have hsoff := Lib.hid hT.off
 clear h hb hbx h1 hlen hB hV1 hT hok2 ho
 have k1 : ¬ (n : Int) < 0 := by omega
 have k2 : decide (N ≤ n) = false := decide_eq_false (by omega)
 rcases hout with ⟨e0, hlast⟩ | ⟨hoff, e3, e⟩
 ·subst e0
  replace hlast := Lib.hid hlast
  go_enter Tryz.func13, Tryz.ntmps13
  go_wp2_with fail
  refine wp_region_held_drew (S := (fun W => W.cell? ⟨w.heap.size, 1, none⟩ = some (.int .i64 (n : Int)) ∧ W.cell? ⟨rb, 1, none⟩ = some (.pointer (some ⟨F.v, 0, none⟩)))) (by kernel_rfl) ?_ (fun hHeld => ?_)
  ·(try dsimp only)
   exact ⟨d1, r1⟩
  refine tkA 0 ?_
  refine tkA 1 ?_
  refine tkA 2 ?_
  refine tkA 3 ?_
  refine tkA 4 ?_
  refine tkA 5 ?_
  refine rkA 6 (fun K hK => ?_)
  go_simp
  with_reducible refine hrd.mono ?_
  rintro e w4 ⟨A4, c4, rfl, hR4, hc4, hA4, hV4, hK4⟩
  have hS4 := hSk.out w4 hK4
  obtain ⟨⟨f1, f2⟩, f4, f3⟩ := hfin.out w4 (hV4.mono fun b hb => .inl hb) hK4
  (try go_wp2_with fail)
  refine hK.out _ _ ?_ (fun hHeld2 => ?_)
  ·(try dsimp only)
   (first | exact hHeld | exact hS4.1)
  clear hK K
  replace hHeld := hHeld2
  clear hHeld2
  (try simp only [pA, pN, pB, pC, pD])
  refine tkA 7 ?_
  refine tkA 8 ?_
  refine tkA 9 ?_
  refine tkA 10 ?_
  refine tkA 11 ?_
  refine wpAnyH_done (by kernel_rfl) ?_ _
  obtain ⟨⟨d1', r1'⟩, r5'⟩ := hS4
  have hcs : Hid (∀ W, Below w4.heap.size w4 W → (convert 45 9 (.slice A4 bs.length c4)).run Tryz.prog W = .ok (.string ⟨bs.toArray⟩) W) := Lib.hid fun W hW =>
   run_string_rd (P := Tryz.prog) W 45 9 5 Tryz.underlying45 Tryz.underlying5 Tryz.underlying9 A4 bs.length c4 bs (hR4.below hW) rfl
  have hla := Lib.hid fun W (hW : Below w4.heap.size w4 W) => rig_last (f4.below hW) hN n hn bs hlast.out (by omega)
  clear hHeld hrd hSk hfin hV4 hK4 hR4 hA4 hc4 r1 r5 f4
  replace f3 := Lib.hid f3
  go_wp2_with fail
  go_quiet (fail)
  have hb5 := below_drewN (Below.refl w4.heap.size w4) nq
  have d1'' : (w4.drewN nq).cell? ⟨w.heap.size, 1, none⟩ = _ := d1'
  have f5 : Hid (∀ k, DoPost w base rb mb cap tv m st lg N (K + 1) killed (.returned (.bool true)) ((w4.drewN nq).drewN k)) := Lib.hid fun k => by rw [World.drewN_drewN]; exact f3.out _
  have hcs5 : Hid (∀ W, Below (w4.drewN nq).heap.size (w4.drewN nq) W → (convert 45 9 (.slice A4 bs.length c4)).run Tryz.prog W = .ok (.string ⟨bs.toArray⟩) W) := Lib.hid fun W hW => hcs.out W (hb5.trans hW)
  have hla5 := Lib.hid fun W (hW : Below (w4.drewN nq).heap.size (w4.drewN nq) W) => hla.out W (hb5.trans hW)
  have f2' : w.heap.size < (w4.drewN nq).heap.size := f2
  have f1' : rb < (w4.drewN nq).heap.size := f1
  clear hcs hla f3 d1' r1' r5' f1 f2 hb5
  generalize w4.drewN nq = w5 at *
  go_wp2_with fail
  refine wp_region_held_drew (S := (fun W => W.cell? ⟨w.heap.size, 1, none⟩ = some (.int .i64 (n : Int)) ∧ (convert 45 9 (.slice A4 bs.length c4)).run Tryz.prog W = .ok (.string ⟨bs.toArray⟩) W)) (by kernel_rfl) ?_ (fun hHeld => ?_)
  ·(try dsimp only)
   exact ⟨d1'', hcs5.out _ (Below.refl _ _).drew⟩
  refine tkA 0 ?_
  refine tkA 1 ?_
  refine tkA 2 ?_
  refine tkA 3 ?_
  refine tkA 4 ?_
  refine tkA 5 ?_
  refine tkA 6 ?_
  refine tkA 7 ?_
  refine rkA 8 (fun K hK => ?_)
  go_simp
  with_reducible refine (hla5.out _ (Below.refl _ _).drew).mono ?_
  rintro e wx ⟨rfl, kk, rfl⟩
  (try go_wp2_with fail)
  refine hK.out _ _ ?_ (fun hHeld2 => ?_)
  ·(try dsimp only)
   (first | exact hHeld | exact ⟨d1'', hcs5.out _ (below_drewN (Below.refl _ _) _)⟩)
  clear hK K
  replace hHeld := hHeld2
  clear hHeld2
  (try simp only [pA, pN, pB, pC, pD])
  refine tkA 9 ?_
  refine tkA 10 ?_
  refine tkA 11 ?_
  refine wpAnyH_done (by kernel_rfl) ?_ _
  go_wp2_with fail
  go_ret
  exact f5.out _
 ·subst e3
  subst e
  dsimp only [List.length_nil] at hrd
  go_enter Tryz.func13, Tryz.ntmps13
  go_wp2_with fail
  refine wp_region_held_drew (S := (fun W => W.cell? ⟨w.heap.size, 1, none⟩ = some (.int .i64 (n : Int)) ∧ W.cell? ⟨rb, 1, none⟩ = some (.pointer (some ⟨F.v, 0, none⟩)))) (by kernel_rfl) ?_ (fun hHeld => ?_)
  ·(try dsimp only)
   exact ⟨d1, r1⟩
  refine tkA 0 ?_
  refine tkA 1 ?_
  refine tkA 2 ?_
  refine tkA 3 ?_
  refine tkA 4 ?_
  refine tkA 5 ?_
  refine rkA 6 (fun K hK => ?_)
  go_simp
  with_reducible refine hrd.mono ?_
  rintro e w4 ⟨A4, c4, rfl, hR4, hc4, hA4, hV4, hK4⟩
  have hS4 := hSk.out w4 hK4
  obtain ⟨⟨f1, f2⟩, f4, f3⟩ := hfin.out w4 (hV4.mono fun b hb => .inl hb) hK4
  (try go_wp2_with fail)
  refine hK.out _ _ ?_ (fun hHeld2 => ?_)
  ·(try dsimp only)
   (first | exact hHeld | exact hS4.1)
  clear hK K
  replace hHeld := hHeld2
  clear hHeld2
  (try simp only [pA, pN, pB, pC, pD])
  refine tkA 7 ?_
  refine tkA 8 ?_
  refine tkA 9 ?_
  refine tkA 10 ?_
  refine tkA 11 ?_
  refine wpAnyH_done (by kernel_rfl) ?_ _
  obtain ⟨⟨d1', r1'⟩, r5'⟩ := hS4
  have hofc := fun k => lx_off (f4.below (below_drewN (Below.refl _ w4) k)).vol.shelf
  rw [hsoff.out, hoff] at hofc
  have r0 := f4.half.c0
  clear hHeld hrd hSk hfin hV4 hK4 hR4 hA4 hc4 r1 r5 f4
  replace f3 := Lib.hid f3
  go_wp2_with fail
  go_quiet (fail)
  replace hofc := hofc nq
  have r0' : (w4.drewN nq).cell? ⟨rb, 0, none⟩ = _ := r0
  have f1' : rb < (w4.drewN nq).heap.size := f1
  replace f3 := Lib.hid (f3.out nq)
  clear r0 d1' r1' r5' f1 f2
  generalize w4.drewN nq = w5 at *
  go_wp2_with fail
  with_reducible refine hofc.mono ?_
  rintro e wx ⟨rfl, rfl⟩
  clear hofc
  go_wp2_with fail
  go_ret
  exact f3.out
end
end
section
open Go.RowKit
section
variable {base rb m st lg k : Nat} {G : Nat → Nat × Nat × Nat} {F : VolF} {tv v v' : Value} {w w' w5 W3 : World} {s : ShM} {V : VolM} {zs : Bytes}
def headV (G : Nat → Nat × Nat × Nat) (j : Nat) : Value := .slice (some ⟨(G j).1, (G j).2.1, none⟩) 1 (G j).2.2
def BX (base rb : Nat) (G : Nat → Nat × Nat × Nat) (k : Nat) (v : Value) (b : Nat) : Prop := b < base ∨ b = rb ∨ v.ownBlock = some b ∨ ∃ j, j < k ∧ b = (G j).1
def begR (F : VolF) (v : Value) (m st lg : Nat) (tv : Value) : Array Value := #[.pointer (some ⟨F.g, 0, none⟩), .pointer (some ⟨F.v, 0, none⟩), .int .i64 (m : Int), .int .i64 (st : Int), .int .i64 (lg : Int), v, .bool false, tv, .bool false]
structure BegAt (w : World) (base rb : Nat) (G : Nat → Nat × Nat × Nat) (k : Nat) (v : Value) (F : VolF) (tv : Value) (m st lg : Nat) (zs : Bytes) (s : ShM) (V : VolM) : Prop where
 row : w.heap[rb]? = some (.cells (begR F v m st lg tv) 39)
 own : w.ownsRow base 58 1 v k ((List.range k).map (headV G))
 el : ∀ j, j < k → VlAt w 9 base (G j).1 (G j).2.1 (G j).2.2 [strV zs] ∧ v.ownBlock ≠ some (G j).1 ∧ (G j).1 ≠ rb
 ne : ∀ i j, i < k → j < k → i ≠ j → (G i).1 ≠ (G j).1
 vrb : v.ownBlock ≠ some rb
 low : base ≤ rb
 vol : VolX (BX base rb G k v) F w s V
theorem headV_congr {G' : Nat → Nat × Nat × Nat} (h : ∀ j, j < k → G' j = G j) : (List.range k).map (headV G') = (List.range k).map (headV G) :=
 List.map_congr_left fun j hj => by unfold headV; rw [h j (List.mem_range.1 hj)]
theorem BegAt.step (h : BegAt w base rb G k v F tv m st lg zs s V) {ib : Nat} (hb : Below w.heap.size w W3) (hib : w.heap.size ≤ ib) (hv : VlAt W3 9 base ib 0 1 [strV zs]) (hrow : w5.ownsRow base 58 1 v' (k + 1) ((List.range k).map (headV G) ++ [.slice (some ⟨ib, 0, none⟩) 1 1])) (hg : W3.grownBy w5 v.ownBlock) (hw : v'.ownBlock = v.ownBlock ∨ v'.ownBlock = some W3.heap.size) :
  BegAt (w5.setCell ⟨rb, 5, none⟩ v') base rb (updM G k (ib, 0, 1)) (k + 1) v' F tv m st lg zs s V ∧ ∀ w0, Below base w0 w → Below base w0 (w5.setCell ⟨rb, 5, none⟩ v') := by
 have hsz : (w5.setCell ⟨rb, 5, none⟩ v').heap.size = w5.heap.size := by simp [World.setCell]
 have hvo := ownsRow_lt h.own
 have hs3 := hb.size
 have hs5 := hg.size
 have hrl := lt_of_row h.row
 have hibl := hv.lt
 have hsame : ∀ b, b < w.heap.size → v.ownBlock ≠ some b → b ≠ rb → (w5.setCell ⟨rb, 5, none⟩ v').heap[b]? = w.heap[b]? := fun b hb2 hne hr => by
  rw [heap_setCell_other _ ⟨rb, 5, none⟩ b _ hr]
  exact (hg.block b (by omega) (fun e => hne e.symm)).trans (hb.block b hb2)
 have hrow5 : w5.heap[rb]? = w.heap[rb]? := (hg.block rb (by omega) (fun e => h.vrb e.symm)).trans (hb.block rb hrl)
 have hv'rb : v'.ownBlock ≠ some rb := fun e => by
  rcases hw with hw | hw
  ·exact h.vrb (hw ▸ e)
  ·rw [hw] at e; injection e with e; omega
 have hibv : v'.ownBlock ≠ some ib := fun e => by
  rcases hw with hw | hw
  ·have := (hvo ib (hw ▸ e)).2; omega
  ·rw [hw] at e; injection e with e; omega
 have hibrb : ib ≠ rb := by omega
 have hibk : (w5.setCell ⟨rb, 5, none⟩ v').heap[ib]? = W3.heap[ib]? := by
  rw [heap_setCell_other _ ⟨rb, 5, none⟩ ib _ hibrb]
  exact hg.block ib hibl fun e => by have := (hvo ib e.symm).2; omega
 have hlt := h.vol.lt
 refine ⟨⟨?_, ?_, fun j hj => ?_, fun i j hi hj hij => ?_, hv'rb, h.low, ?_⟩, fun w0 hB => (hB.trans ⟨hg.os.trans hb.os, hg.tape.trans hb.tape, hg.output.trans hb.output, Nat.le_trans hb.size hg.size, fun b hb2 => ?_⟩).setCell (p := ⟨rb, 5, none⟩) h.low _⟩
 ·exact (heap_setCell_same w5 rb 5 _ _ v' (hrow5.trans h.row)).trans rfl
 ·rw [List.range_succ, List.map_append, headV_congr (G := G) (G' := updM G k (ib, 0, 1)) (fun j hj => updM_ne _ _ (by omega))]
  have : [k].map (headV (updM G k (ib, 0, 1))) = [.slice (some ⟨ib, 0, none⟩) 1 1] := by simp [headV, updM_same]
  rw [this]
  exact ownsRow_blk hrow fun b hb2 => heap_setCell_other _ ⟨rb, 5, none⟩ b _ fun e => hv'rb (by rw [hb2, e])
 ·by_cases e : j = k
  ·subst e
   rw [updM_same]
   exact ⟨hv.kept hibk, hibv, hibrb⟩
  ·obtain ⟨e1, e2, e3⟩ := h.el j (by omega)
   rw [updM_ne _ _ e]
   have hjl := e1.lt
   refine ⟨e1.kept (hsame _ hjl e2 e3), fun e4 => ?_, e3⟩
   rcases hw with hw | hw
   ·exact e2 (hw ▸ e4)
   ·rw [hw] at e4; injection e4 with e4; omega
 ·by_cases e1 : i = k
  ·subst e1
   rw [updM_same, updM_ne _ _ (fun x => hij x.symm)]
   have := (h.el j (by omega)).1.lt
   show ib ≠ (G j).1
   omega
  ·by_cases e2 : j = k
   ·subst e2
    rw [updM_same, updM_ne _ _ e1]
    have := (h.el i (by omega)).1.lt
    show (G i).1 ≠ ib
    omega
   ·rw [updM_ne _ _ e1, updM_ne _ _ e2]
    exact h.ne i j (by omega) (by omega) hij
 ·refine h.vol.turn (by rw [hsz]; omega) (fun b hb2 hx => hsame b hb2 (fun e => hx (.inr (.inr (.inl e)))) (fun e => hx (.inr (.inl e)))) fun b hb2 => ?_
  rw [hsz]
  rcases hb2 with hb2 | rfl | hb2 | ⟨j, hj, rfl⟩
  ·exact ⟨by have := h.low; omega, .inl (.inl hb2)⟩
  ·exact ⟨by omega, .inl (.inr (.inl rfl))⟩
  ·refine ⟨(ownsRow_lt hrow b hb2).2, ?_⟩
   rcases hw with hw | hw
   ·exact .inl (.inr (.inr (.inl (hw ▸ hb2))))
   ·rw [hw] at hb2; injection hb2 with hb2; exact .inr (by omega)
  ·by_cases e : j = k
   ·subst e
    rw [updM_same]
    exact ⟨by show ib < _; omega, .inr hib⟩
   ·rw [updM_ne _ _ e]
    exact ⟨by have := (h.el j (by omega)).1.lt; omega, .inl (.inr (.inr (.inr ⟨j, by omega, rfl⟩)))⟩
 ·have h1 := h.low
  refine (hg.block b (by omega) fun e => ?_).trans (hb.block b (by omega))
  have := (hvo b e.symm).1
  omega
theorem BegAt.done (h : BegAt w base rb G k v F tv m st lg zs s V) (hk : 0 < k) : ∃ mb cap, RigAt w base rb mb cap G F tv m st lg k s V (fun _ => [zs]) false := by
 obtain ⟨hl, hown⟩ := h.own
 rcases hown with ⟨_, h0⟩ | ⟨g, cap, cur, rfl, hbg, hg, hnc, hcm, hcs, htk⟩
 ·omega
 ·refine ⟨g, cap, h.row, ⟨⟨cur, hg, by rw [hcs, Nat.mul_one], fun j hj => ?_⟩, fun j hj => ?_, h.ne, hbg⟩, ?_, fun hx => ?_, h.low, hnc⟩
  ·rw [Nat.mul_one] at htk
   have h1 : (cur.toList.take k)[j]? = some (headV G j) := by
    rw [htk, List.getElem?_map, List.getElem?_range hj]
    rfl
   rw [List.getElem?_take_of_lt hj, Array.getElem?_toList] at h1
   exact h1
  ·obtain ⟨e1, e2, _⟩ := h.el j hj
   exact ⟨e1, fun e => e2 (by simp [Value.ownBlock, e])⟩
  ·refine h.vol.mono fun b hb => ?_
   rcases hb with hb | hb | hb | hb
   ·exact .inl hb
   ·exact .inr (.inl hb)
   ·exact .inr (.inr (.inl (by simp [Value.ownBlock, hb])))
   ·exact .inr (.inr (.inr hb))
  ·rcases hx with hx | ⟨j, hj, hx⟩
   ·exact h.vrb (by simp [Value.ownBlock, hx])
   ·exact (h.el j hj).2.2 hx.symm
end
end
section
open Go.RowKit
section
variable {w w' : World}
def BeginPost (w : World) (e : Ending) (w' : World) : Prop :=
 ∃ rb mb cap G F tv m st lg N s V, e = .returned (.pointer (some ⟨rb, 0, none⟩)) ∧ RigAt w' w.heap.size rb mb cap G F tv m st lg N s V (fun _ => [zeroSec]) false ∧ RigOk s V N (fun _ => [zeroSec]) false (m, st) ∧ N ≤ 1000 ∧ m ≤ 16 ∧ Below w.heap.size w w'
theorem Tryz.infoBool : (Tryz.prog.info? 4).map (fun i => (i.zero, i.size, i.bytes)) = some (some (.bool false), 1, 1) := by kernel_rfl
theorem Tryz.infoStrs : (Tryz.prog.info? 58).map (fun i => (i.zero, i.size, i.bytes)) = some (some (.slice none 0 0), 1, 24) := by kernel_rfl
theorem made_bools (n : Nat) (hn : n ≤ 100) : ∃ cur : Array Value, ∀ W : World, (Instr.makeSlice 37 (.int .i64 (n : Int)) (.int .i64 (n : Int))).run Tryz.prog W = .ok (.slice (some ⟨W.heap.size, 0, none⟩) n n) (W.alloc (.cells cur 4)) := by
 obtain ⟨i0, hi0, hz0, hz1, hz2⟩ := info_parts Tryz.infoBool
 refine ⟨madeCells (Value.bool false).cells (n * 1), fun W => ?_⟩
 have h := run_make (P := Tryz.prog) (w := W) 37 4 i0 (.bool false) Tryz.underlying37 hi0 hz0 .i64 .i64 (n : Int) (n : Int) (by omega) (Int.le_refl _) (by rw [hz2]; omega) (by omega)
 simp only [hz1, Int.toNat_natCast] at h
 exact h
set_option maxRecDepth 100000 in
set_option maxHeartbeats 16000000 in
theorem begin_any (me stp lo : Int) (hm0 : -9223372036854775808 ≤ me) (hm1 : me ≤ 9223372036854775807) (hs0 : -9223372036854775808 ≤ stp) (hs1 : stp ≤ 9223372036854775807) (hl0 : -9223372036854775808 ≤ lo) (hl1 : lo ≤ 9223372036854775807) :
  Calls Tryz.prog 11 #[.int .i64 me, .int .i64 stp, .int .i64 lo] w (BeginPost w) := by
 obtain ⟨a, ha⟩ := Int.eq_ofNat_of_zero_le (Int.emod_nonneg me (show (14 : Int) ≠ 0 by omega))
 obtain ⟨b, hb⟩ := Int.eq_ofNat_of_zero_le (Int.emod_nonneg stp (show (6 : Int) ≠ 0 by omega))
 obtain ⟨c, hc⟩ := Int.eq_ofNat_of_zero_le (Int.emod_nonneg lo (show (8 : Int) ≠ 0 by omega))
 have ha14 : a < 14 := by have := Int.emod_lt_of_pos me (show (0 : Int) < 14 by omega); omega
 have hb6 : b < 6 := by have := Int.emod_lt_of_pos stp (show (0 : Int) < 6 by omega); omega
 have hc8 : c < 8 := by have := Int.emod_lt_of_pos lo (show (0 : Int) < 8 by omega); omega
 have hmda := mod08 me 14 w (by omega) (by omega) hm0 hm1
 have hmdb := mod08 stp 6 w (by omega) (by omega) hs0 hs1
 have hmdc := mod08 lo 8 w (by omega) (by omega) hl0 hl1
 rw [ha] at hmda
 rw [hb] at hmdb
 rw [hc] at hmdc
 clear ha hb hc
 obtain ⟨m, hm⟩ : ∃ m, m = a + 3 := ⟨_, rfl⟩
 obtain ⟨st, hst⟩ : ∃ st, st = b + 1 := ⟨_, rfl⟩
 obtain ⟨lg, hlg⟩ : ∃ lg, lg = c + 1 := ⟨_, rfl⟩
 obtain ⟨d, hd⟩ : ∃ d, d = m + 1 := ⟨_, rfl⟩
 have hw1 : IntKind.i64.wrap (3 + (a : Int)) = (m : Int) := by rw [IntWalk.i64_in _ (by omega)]; omega
 have hw2 : IntKind.i64.wrap (1 + (b : Int)) = (st : Int) := by rw [IntWalk.i64_in _ (by omega)]; omega
 have hw3 : IntKind.i64.wrap (1 + (c : Int)) = (lg : Int) := by rw [IntWalk.i64_in _ (by omega)]; omega
 have hw4 : IntKind.i64.wrap ((m : Int) + 1) = (d : Int) := by rw [IntWalk.i64_in _ (by omega)]; omega
 have hmb : 3 ≤ m ∧ m ≤ 16 := by omega
 have hsb : 1 ≤ st ∧ st ≤ 6 := by omega
 have hlb : 1 ≤ lg ∧ lg ≤ 8 := by omega
 replace hd := Lib.hid hd
 clear hm hst hlg ha14 hb6 hc8
 have hbW := below_made' w (.cells #[.pointer none, .pointer none, .int .i64 (m : Int), .int .i64 (st : Int), .int .i64 (lg : Int), .slice none 0 0, .bool false, .slice none 0 0, .bool false] 39)
 have hbx := heap_alloc_new w (.cells #[.pointer none, .pointer none, .int .i64 (m : Int), .int .i64 (st : Int), .int .i64 (lg : Int), .slice none 0 0, .bool false, .slice none 0 0, .bool false] 39)
 have r2 := cell_of_row _ w.heap.size 2 _ _ _ hbx
 have hrl := lt_of_row hbx
 have hnew := lx_new (X := fun b => b < w.heap.size ∨ b = w.heap.size) (w := w.alloc (.cells #[.pointer none, .pointer none, .int .i64 (m : Int), .int .i64 (st : Int), .int .i64 (lg : Int), .slice none 0 0, .bool false, .slice none 0 0, .bool false] 39)) (fun b hb => by rcases hb with h | rfl <;> omega) d 40 (by have := hd.out; omega) (by have := hd.out; omega) (by omega) (by omega)
 rw [show ((40 : Nat) : Int) = 40 from rfl] at hnew
 replace hbW := Lib.hid hbW
 replace hbx := Lib.hid hbx
 go_enter Tryz.func11, Tryz.ntmps11
 go_wp2_with fail
 with_reducible refine hmda.mono ?_
 rintro e wx ⟨rfl, rfl⟩
 clear hmda
 go_wp2_with fail
 with_reducible refine hmdb.mono ?_
 rintro e wx ⟨rfl, rfl⟩
 clear hmdb
 go_wp2_with fail
 with_reducible refine hmdc.mono ?_
 rintro e wx ⟨rfl, rfl⟩
 clear hmdc
 go_wp2_with fail
 with_reducible refine hnew.mono ?_
 rintro e w1 ⟨g, rfl, hS1, hB1⟩
 clear hnew hw1 hw2 hw3 hw4
 have hbW1 := Lib.hid (below_to hbW.out hB1)
 have hbx1 := hrow_keep hbx.out hB1
 have hbo : buildOk (freshSh d 40) (newSup m st lg) = true := by
  have hdl : (freshSh d 40).disks.length = d := by simp [freshSh]
  have hbk : blocksI ((freshSh d 40).sectors : Nat) = 37 := by show blocksI ((40 : Nat) : Int) = 37; decide
  unfold buildOk
  rw [hdl, hbk]
  unfold newSup
  dsimp only
  have := hd.out
  exact decide_eq_true (by omega)
 have hrm : Room 999999900000 (freshSh d 40) := (room_fresh d 40).mono (by omega)
 have hcr := ra_create hS1.drew hrm m st lg hbo
 have hd' := hd.out
 subst hd'
 have hmf := (make_fresh (m + 1) (by omega) (by omega) m st lg hbo).1
 have hbl := Lib.hid fun hok => begin_live m st lg hmb.1 hmb.2 hsb.1 hsb.2 hlb.1 hlb.2 hbo hok
 generalize volMake (freshSh (m + 1) 40) (volBuild (freshSh (m + 1) 40) (newSup m st lg)) = r at *
 obtain ⟨er, s2, V⟩ := r
 dsimp only at hmf hbl hcr
 subst hmf
 have r2 := cell_of_row w1 w.heap.size 2 _ _ _ hbx1
 have r3 := cell_of_row w1 w.heap.size 3 _ _ _ hbx1
 have r4 := cell_of_row w1 w.heap.size 4 _ _ _ hbx1
 have hrl := lt_of_row hbx1
 have hSk : ∀ W, Kept (fun b => b < w.heap.size ∨ b = w.heap.size) w1.drew W → W.cell? ⟨w.heap.size, 2, none⟩ = some (.int .i64 (m : Int)) ∧ W.cell? ⟨w.heap.size, 3, none⟩ = some (.int .i64 (st : Int)) ∧ W.cell? ⟨w.heap.size, 4, none⟩ = some (.int .i64 (lg : Int)) := fun W hk =>
  ⟨(World.cell?_of_block (hk.block _ (.inr rfl))).trans r2, (World.cell?_of_block (hk.block _ (.inr rfl))).trans r3, (World.cell?_of_block (hk.block _ (.inr rfl))).trans r4⟩
 replace hSk := Lib.hid hSk
 replace hbx1 := Lib.hid hbx1
 clear hbo hrm hd hS1 hB1 hbW hbx
 go_wp2_with fail
 refine wp_region_held_drew (S := (fun W => W.cell? ⟨w.heap.size, 2, none⟩ = some (.int .i64 (m : Int)) ∧ W.cell? ⟨w.heap.size, 3, none⟩ = some (.int .i64 (st : Int)) ∧ W.cell? ⟨w.heap.size, 4, none⟩ = some (.int .i64 (lg : Int)))) (by kernel_rfl) ?_ (fun hHeld => ?_)
 ·(try dsimp only)
  exact ⟨r2, r3, r4⟩
 refine tkA 0 ?_
 refine tkA 1 ?_
 refine tkA 2 ?_
 refine tkA 3 ?_
 refine tkA 4 ?_
 refine tkA 5 ?_
 refine tkA 6 ?_
 refine tkA 7 ?_
 refine tkA 8 ?_
 refine tkA 9 ?_
 refine tkA 10 ?_
 refine tkA 11 ?_
 refine tkA 12 ?_
 refine rkA 13 (fun K hK => ?_)
 go_simp
 with_reducible refine hcr.mono ?_
 rintro e w4 ⟨hm4, _, hK4⟩
 obtain ⟨F, rfl, rfl, hV4⟩ := hm4 rfl
 have hS4 := hSk.out w4 hK4
 (try go_wp2_with fail)
 refine hK.out _ _ ?_ (fun hHeld2 => ?_)
 ·(try dsimp only)
  (first | exact hHeld | exact hS4)
 clear hK K
 replace hHeld := hHeld2
 clear hHeld2
 (try simp only [pA, pN, pB, pC, pD])
 refine tkA 14 ?_
 refine tkA 15 ?_
 refine tkA 16 ?_
 refine tkA 17 ?_
 refine tkA 18 ?_
 refine wpAnyH_done (by kernel_rfl) ?_ _
 obtain ⟨hrig, _, hvs, hvm, hvst⟩ := hbl.out hV4.ok
 obtain ⟨q, hq⟩ : ∃ q, m = q + 1 := ⟨m - 1, by omega⟩
 subst hq
 obtain ⟨N, hNe⟩ : ∃ N, N = st * q := ⟨_, rfl⟩
 have hNb : N ≤ 6 * 15 := by rw [hNe]; exact Nat.mul_le_mul hsb.2 (by omega)
 have hN0 : 0 < N := by rw [hNe]; exact Nat.mul_pos (by omega) (by omega)
 simp only [Nat.add_sub_cancel] at hrig hvs
 rw [← hNe] at hrig hvs
 have hw6 : IntKind.i64.wrap ((st : Int) * (q : Int)) = (N : Int) := by rw [← Int.natCast_mul, ← hNe, IntWalk.i64_in _ (by omega)]
 have hbx4 := (hK4.block w.heap.size (.inr rfl)).trans hbx1.out
 have hbW4 := Lib.hid (hbW1.out.trans ((Below.refl _ _).drew.trans (hK4.below (base := w.heap.size) fun b hb => .inl hb)))
 obtain ⟨r2, r3, r4⟩ := hS4
 have hszc := fun n => ra_size (hV4.below (below_drewN (Below.refl _ w4) n))
 simp only [hvs] at hszc
 have hrl := lt_of_row hbx4
 replace hV4 := Lib.hid hV4
 replace hbx4 := Lib.hid hbx4
 replace hrig := Lib.hid hrig
 clear hHeld hcr hSk hbl hm4 hK4 hbx1 hbW1 hNe hvs hvm hvst
 go_wp2_with fail
 go_quiet (first | with_reducible exact Calls.quiet_of (hszc _))
 have hb5 := below_drewN (Below.refl w4.heap.size w4) nq
 have hV5 := hV4.out.below hb5
 have hbx5 : (w4.drewN nq).heap[w.heap.size]? = _ := hbx4.out
 have hbW5 : Below w.heap.size w (w4.drewN nq) := below_drewN hbW4.out nq
 clear hszc r2 r3 r4 hrl hV4 hbx4 hbW4 hb5
 generalize w4.drewN nq = w5 at *
 have c0 := cell_of_row w5 w.heap.size 0 _ _ _ hbx5
 have c1 := cell_of_row w5 w.heap.size 1 _ _ _ hbx5
 have c3 := cell_of_row w5 w.heap.size 3 _ _ _ hbx5
 have c7 := cell_of_row w5 w.heap.size 7 _ _ _ hbx5
 have cf := fun j => frozen_of_row w5 w.heap.size j _ _ hbx5
 have hrl := lt_of_row hbx5
 obtain ⟨cur, hmk⟩ := made_bools st (by omega)
 replace hV5 := Lib.hid hV5
 replace hbx5 := Lib.hid hbx5
 replace hbW5 := Lib.hid hbW5
 have hl1 := heap_setCell_same w5 w.heap.size 0 _ _ (Value.pointer (some ⟨F.g, 0, none⟩)) hbx5.out
 have hl2 := heap_setCell_same _ w.heap.size 1 _ _ (Value.pointer (some ⟨F.v, 0, none⟩)) hl1
 have hl3 := heap_setCell_same _ w.heap.size 7 _ _ (Value.slice (some ⟨w5.heap.size, 0, none⟩) st st) hl2
 obtain ⟨zs, hzs⟩ : ∃ zs, zs = zeroSec := ⟨_, rfl⟩
 have hBeg0 : BegAt ((((w5.setCell ⟨w.heap.size, 0, none⟩ (.pointer (some ⟨F.g, 0, none⟩))).setCell ⟨w.heap.size, 1, none⟩ (.pointer (some ⟨F.v, 0, none⟩))).setCell ⟨w.heap.size, 7, none⟩ (.slice (some ⟨w5.heap.size, 0, none⟩) st st)).alloc (.cells cur 4)) w.heap.size w.heap.size (fun _ => (0, 0, 0)) 0 (.slice none 0 0) F (.slice (some ⟨w5.heap.size, 0, none⟩) st st) (q + 1) st lg zs s2 V := by
  refine ⟨(heap_alloc_old _ _ (lt_of_row hl3)).trans (hl3.trans rfl), World.ownsRow_nil _ _ _ _, (fun j hj => absurd hj (by omega)), (fun i j hi => absurd hi (by omega)), (fun e => by cases e), Nat.le_refl _, ?_⟩
  have hsz : (((w5.setCell ⟨w.heap.size, 0, none⟩ (.pointer (some ⟨F.g, 0, none⟩))).setCell ⟨w.heap.size, 1, none⟩ (.pointer (some ⟨F.v, 0, none⟩))).setCell ⟨w.heap.size, 7, none⟩ (.slice (some ⟨w5.heap.size, 0, none⟩) st st)).heap.size = w5.heap.size := by simp [World.setCell]
  have h1 := hV5.out.other (w' := (((w5.setCell ⟨w.heap.size, 0, none⟩ (.pointer (some ⟨F.g, 0, none⟩))).setCell ⟨w.heap.size, 1, none⟩ (.pointer (some ⟨F.v, 0, none⟩))).setCell ⟨w.heap.size, 7, none⟩ (.slice (some ⟨w5.heap.size, 0, none⟩) st st))) (Nat.le_of_eq hsz.symm) fun b _ hn => by
   have hne : b ≠ w.heap.size := fun e => hn (.inr e)
   rw [heap_setCell_other _ ⟨w.heap.size, 7, none⟩ b _ hne, heap_setCell_other _ ⟨w.heap.size, 1, none⟩ b _ hne, heap_setCell_other _ ⟨w.heap.size, 0, none⟩ b _ hne]
  exact (h1.alloc _).mono fun b hb => by
   rcases hb with hb | hb | hb | ⟨j, hj, _⟩
   ·exact .inl hb
   ·exact .inr hb
   ·cases hb
   ·omega
 have hBel0 : Below w.heap.size w ((((w5.setCell ⟨w.heap.size, 0, none⟩ (.pointer (some ⟨F.g, 0, none⟩))).setCell ⟨w.heap.size, 1, none⟩ (.pointer (some ⟨F.v, 0, none⟩))).setCell ⟨w.heap.size, 7, none⟩ (.slice (some ⟨w5.heap.size, 0, none⟩) st st)).alloc (.cells cur 4)) :=
  (((hbW5.out.setCell (p := ⟨w.heap.size, 0, none⟩) (Nat.le_refl _) _).setCell (p := ⟨w.heap.size, 1, none⟩) (Nat.le_refl _) _).setCell (p := ⟨w.heap.size, 7, none⟩) (Nat.le_refl _) _).alloc (by simp [World.setCell]; have := hbW5.out.size; omega) _
 have hmz := made_zero
 rw [← hzs] at hmz
 have hzl : zs.length = 128 := by rw [hzs]; simp [zeroSec]
 have hms : Hid (∀ W : World, (convert 45 9 (.slice (some ⟨W.heap.size, 0, none⟩) 128 128)).run Tryz.prog (W.alloc (.cells (bVs zs).toArray 5)).drew = .ok (.string ⟨zs.toArray⟩) (W.alloc (.cells (bVs zs).toArray 5)).drew) := Lib.hid fun W =>
  run_string_rd (P := Tryz.prog) _ 45 9 5 Tryz.underlying45 Tryz.underlying5 Tryz.underlying9 _ 128 128 zs (Rd.lit W 5 zs (by rw [hzl]; omega)) hzl
 replace hBeg0 := Lib.hid hBeg0
 replace hBel0 := Lib.hid hBel0
 replace hzs := Lib.hid hzs
 clear hl1 hl2 hl3 hzl hV5 hbx5 hbW5
 go_wp2_with fail
 generalize ((((w5.setCell ⟨w.heap.size, 0, none⟩ (.pointer (some ⟨F.g, 0, none⟩))).setCell ⟨w.heap.size, 1, none⟩ (.pointer (some ⟨F.v, 0, none⟩))).setCell ⟨w.heap.size, 7, none⟩ (.slice (some ⟨w5.heap.size, 0, none⟩) st st)).alloc (.cells cur 4)) = w6 at *
 generalize Value.slice (some ⟨w5.heap.size, 0, none⟩) st st = tv at *
 clear c0 c1 c3 c7 cf hrl hmk
 go_loopw [11] (fun p wr => ∃ (k : Nat) (v : Value) (G : Nat → Nat × Nat × Nat), p = .int .i64 k ∧ k ≤ N ∧ Hid (BegAt wr w.heap.size w.heap.size G k v F tv (q + 1) st lg zs s2 V) ∧ Hid (Below w.heap.size w wr))
  (fun p _ => N - (intOf p).toNat)
 case atStart => exact ⟨0, _, _, by go_num, by omega, hBeg0, hBel0⟩
 case round =>
  clear hBeg0 hBel0
  obtain ⟨k, v, G, rfl, hk, hBeg, hBel⟩ := hrel
  have hsz := ra_size hBeg.out.vol
  rw [show V.size = N from hrig.out.size.symm] at hsz
  by_cases hkN : k < N
  ·go_wp2_with fail
   with_reducible refine hsz.mono ?_
   rintro e wx ⟨rfl, j, rfl⟩
   have hbj := below_drewN (Below.refl wr.heap.size wr) j
   have hB1 : BegAt (wr.drewN j) w.heap.size w.heap.size G k v F tv (q + 1) st lg zs s2 V := by
    have h := hBeg.out
    exact ⟨h.row, h.own, h.el, h.ne, h.vrb, h.low, h.vol.below hbj⟩
   have hBel1 : Below w.heap.size w (wr.drewN j) := below_drewN hBel.out j
   clear hsz hBeg hBel hbj
   generalize wr.drewN j = W0 at *
   have r5 := cell_of_row W0 w.heap.size 5 _ _ _ hB1.row
   have f5 := frozen_of_row W0 w.heap.size 5 _ _ hB1.row
   have hrl := lt_of_row hB1.row
   simp only [begR] at r5
   have hms0 := hms.out W0
   have hb1 : Below W0.heap.size W0 (W0.alloc (.cells (bVs zs).toArray 5)) := below_made' _ _
   have hb2 : Below W0.heap.size W0 ((W0.alloc (.cells (bVs zs).toArray 5)).alloc (.cells #[.string ⟨zs.toArray⟩] 9)) := hb1.trans ((below_made' _ _).mono (by simp))
   have hb3 : Below W0.heap.size W0 (((W0.alloc (.cells (bVs zs).toArray 5)).alloc (.cells #[.string ⟨zs.toArray⟩] 9)).alloc (.cells #[.slice (some ⟨W0.heap.size + 1, 0, none⟩) 1 1] 58)).drew := (hb2.trans ((below_made' _ _).mono (by simp; omega))).drew
   have hS1 : (W0.alloc (.cells (bVs zs).toArray 5)).drew.cell? ⟨w.heap.size, 5, none⟩ = some v := (hb1.cell hrl).trans r5
   have hS2 : ((W0.alloc (.cells (bVs zs).toArray 5)).alloc (.cells #[.string ⟨zs.toArray⟩] 9)).drew.cell? ⟨w.heap.size, 5, none⟩ = some v := (hb2.cell hrl).trans r5
   have hS3 : (((W0.alloc (.cells (bVs zs).toArray 5)).alloc (.cells #[.string ⟨zs.toArray⟩] 9)).alloc (.cells #[.slice (some ⟨W0.heap.size + 1, 0, none⟩) 1 1] 58)).drew.cell? ⟨w.heap.size, 5, none⟩ = some v := (hb3.cell hrl).trans r5
   have hs1 : (W0.alloc (.cells (bVs zs).toArray 5)).heap.size = W0.heap.size + 1 := World.size_alloc _ _
   have hs2 : ((W0.alloc (.cells (bVs zs).toArray 5)).alloc (.cells #[.string ⟨zs.toArray⟩] 9)).heap.size = W0.heap.size + 2 := by rw [World.size_alloc, hs1]
   have hs3 : (((W0.alloc (.cells (bVs zs).toArray 5)).alloc (.cells #[.string ⟨zs.toArray⟩] 9)).alloc (.cells #[.slice (some ⟨W0.heap.size + 1, 0, none⟩) 1 1] 58)).drew.heap.size = W0.heap.size + 3 := (World.size_alloc _ _).trans (by rw [hs2])
   have hv3 : VlAt (((W0.alloc (.cells (bVs zs).toArray 5)).alloc (.cells #[.string ⟨zs.toArray⟩] 9)).alloc (.cells #[.slice (some ⟨W0.heap.size + 1, 0, none⟩) 1 1] 58)).drew 9 w.heap.size (W0.heap.size + 1) 0 1 [strV zs] := by
    have h := VlAt.lit (W := W0.alloc (.cells (bVs zs).toArray 5)) (E := 9) (base := w.heap.size) (strV zs) (by rw [hs1]; omega)
    rw [hs1] at h
    exact h.kept (heap_alloc_old _ _ (by rw [hs2]; omega))
   have hus : RdV (((W0.alloc (.cells (bVs zs).toArray 5)).alloc (.cells #[.string ⟨zs.toArray⟩] 9)).alloc (.cells #[.slice (some ⟨W0.heap.size + 1, 0, none⟩) 1 1] 58)).drew (some ⟨W0.heap.size + 2, 0, none⟩) [.slice (some ⟨W0.heap.size + 1, 0, none⟩) 1 1] := by
    have h := RdV.lit ((W0.alloc (.cells (bVs zs).toArray 5)).alloc (.cells #[.string ⟨zs.toArray⟩] 9)) 58 [.slice (some ⟨W0.heap.size + 1, 0, none⟩) 1 1] (by simp)
    rw [hs2] at h
    exact h
   have hrow3 := ownsRow_below hB1.own hb3
   have hvrb := hB1.vrb
   replace hv3 := Lib.hid hv3
   replace hus := Lib.hid hus
   replace hrow3 := Lib.hid hrow3
   replace hB1 := Lib.hid hB1
   replace hBel1 := Lib.hid hBel1
   go_wp2_with fail
   refine wp_region_held_tail (S := (fun W => W.cell? ⟨w.heap.size, 5, none⟩ = some v)) 12 (by kernel_rfl) (by decide) ?_ (fun hHeld => ?_)
   ·(try dsimp only)
    exact r5
   refine tkT 0 ?_
   refine tkT 1 ?_
   refine tkT 2 ?_
   refine tkT 3 ?_
   refine tkT 4 ?_
   refine rkT 5 (fun K hK => ?_)
   go_simp
   refine hK.out _ _ ?_ (fun hHeld2 => ?_)
   ·(try dsimp only)
    (first | exact hHeld | exact hS1 | exact hS2 | exact hS3 | exact hS5)
   clear hK K
   replace hHeld := hHeld2
   clear hHeld2
   (try simp only [pA, pN, pB, pC, pD])
   refine rkT 6 (fun K hK => ?_)
   go_simp
   refine hK.out _ _ ?_ (fun hHeld2 => ?_)
   ·(try dsimp only)
    (first | exact hHeld | exact hS1 | exact hS2 | exact hS3 | exact hS5)
   clear hK K
   replace hHeld := hHeld2
   clear hHeld2
   (try simp only [pA, pN, pB, pC, pD])
   refine rkT 7 (fun K hK => ?_)
   go_simp
   refine hK.out _ _ ?_ (fun hHeld2 => ?_)
   ·(try dsimp only)
    (first | exact hHeld | exact hS1 | exact hS2 | exact hS3 | exact hS5)
   clear hK K
   replace hHeld := hHeld2
   clear hHeld2
   (try simp only [pA, pN, pB, pC, pD])
   refine rkT 8 (fun K hK => ?_)
   go_simp
   refine hK.out _ _ ?_ (fun hHeld2 => ?_)
   ·(try dsimp only)
    (first | exact hHeld | exact hS1 | exact hS2 | exact hS3 | exact hS5)
   clear hK K
   replace hHeld := hHeld2
   clear hHeld2
   (try simp only [pA, pN, pB, pC, pD])
   refine rkT 9 (fun K hK => ?_)
   refine step_append_at (by rfl) _ _ 36 rfl w.heap.size 58 _ 1 24 Tryz.underlying36 Tryz.infoStrs rfl (by omega) v k ((List.range k).map (headV G)) [.slice (some ⟨W0.heap.size + 1, 0, none⟩) 1 1] (some ⟨W0.heap.size + 2, 0, none⟩) 1 1 rfl rfl hrow3.out hus.out (by simp [Value.oneCell']) rfl (by simp only [maxLen]; omega) (by omega) (by omega) ?_
   intro v5 w5 hrow5 hg5 hw5
   obtain ⟨A5, c5, rfl, _, _⟩ := ownsRow_form hrow5
   have hS5 : w5.cell? ⟨w.heap.size, 5, none⟩ = some v := (World.cell?_of_block (hg5.block w.heap.size (by omega) (fun e => hvrb e.symm))).trans hS3
   refine hK.out _ _ ?_ (fun hHeld2 => ?_)
   ·(try dsimp only)
    (first | exact hHeld | exact hS1 | exact hS2 | exact hS3 | exact hS5)
   clear hK K
   replace hHeld := hHeld2
   clear hHeld2
   (try simp only [pA, pN, pB, pC, pD])
   refine tkT 10 ?_
   refine tkT 11 ?_
   refine wt_tail (by kernel_rfl) ?_
   simp only [List.drop_succ_cons, List.drop_zero]
   have hr3 : (((W0.alloc (.cells (bVs zs).toArray 5)).alloc (.cells #[.string ⟨zs.toArray⟩] 9)).alloc (.cells #[.slice (some ⟨W0.heap.size + 1, 0, none⟩) 1 1] 58)).drew.heap[w.heap.size]? = W0.heap[w.heap.size]? := hb3.block w.heap.size hrl
   have hr5 : w5.heap[w.heap.size]? = W0.heap[w.heap.size]? := (hg5.block w.heap.size (by omega) (fun e => hvrb e.symm)).trans hr3
   have hf5 : w5.frozen? ⟨w.heap.size, 5, none⟩ = false := (World.frozen?_of_block hr5).trans f5
   have hrl5 : w.heap.size < w5.heap.size := by have := hg5.size; omega
   obtain ⟨hBeg2, hBk⟩ := hB1.out.step hb3 (ib := W0.heap.size + 1) (by omega) hv3.out hrow5 hg5 hw5
   have hBel2 := Lib.hid (hBk w hBel1.out)
   replace hBeg2 := Lib.hid hBeg2
   clear hHeld hms0 hb1 hb2 hb3 hS1 hS2 hS3 hs1 hs2 hs3 hv3 hus hrow3 hB1 hBel1 hrow5 hg5 hw5 hr3 hr5 hBk
   go_wp2
   go_roundw
   case rel =>
    (repeat apply Exists.intro)
    exact ⟨⟨k + 1, _, _, by go_num, by omega, hBeg2, hBel2⟩, rfl⟩
   case measure => simp [intOf]; omega
  ·obtain rfl : k = N := by omega
   have hfin : ∀ j, BeginPost w (.returned (.pointer (some ⟨w.heap.size, 0, none⟩))) (wr.drewN j) := fun j => by
    have hbj := below_drewN (Below.refl wr.heap.size wr) j
    obtain ⟨mb, cap, hR⟩ := hBeg.out.done hN0
    rw [hzs.out] at hR
    exact ⟨w.heap.size, mb, cap, G, F, tv, q + 1, st, lg, k, s2, V, rfl, hR.below hbj, hrig.out, by omega, by omega, below_drewN hBel.out j⟩
   replace hfin := Lib.hid hfin
   clear hBeg hBel hrig
   go_wp2_with fail
   with_reducible refine hsz.mono ?_
   rintro e wx ⟨rfl, j, rfl⟩
   replace hfin := Lib.hid (hfin.out j)
   clear hsz
   go_wp2_with fail
   go_ret
   exact hfin.out
end
end
section
open Go.RowKit
section
variable {base rb mb cap N m st lg K : Nat} {G : Nat → Nat × Nat × Nat} {F F' : VolF} {tv : Value} {w w' : World} {s s' : ShM} {V V' : VolM} {L : Nat → List Bytes} {killed : Bool}
def KindOk (k : Int) : Prop := k = 1 ∨ k = 2 ∨ k = 3 ∨ k = 4 ∨ k = 5 ∨ k = 6 ∨ k = 8
theorem rig_do (h : RigAt w base rb mb cap G F tv m st lg N s V L killed) (ho : RigOk s V N L killed (m, st)) (hlen : ∀ b, b < N → (L b).length ≤ K) (hK : K ≤ 900) (hN : N ≤ 1000) (hm16 : m ≤ 16) (kind n d : Int) (x : UInt8) (KA : Option Addr) (kn kc : Nat) (keep : List (List Int)) (hKL : KeepL w base KA keep) (hkn : keep.length = kn) (hd0 : -9223372036854775808 ≤ d) (hd1 : d ≤ 9223372036854775807) (hk : KindOk kind) :
  Calls Tryz.prog 13 #[.pointer (some ⟨rb, 0, none⟩), .agg #[.int .i64 kind, .int .i64 n, .int .i64 d, .int .u8 (x.toNat : Int), .slice KA kn kc]] w (DoAny w base rb mb cap tv m st lg N (K + 1)) := by
 rcases hk with rfl | rfl | rfl | rfl | rfl | rfl | rfl
 ·by_cases hn : 0 ≤ n ∧ n < (N : Int)
  ·obtain ⟨n, rfl⟩ := Int.eq_ofNat_of_zero_le hn.1
   exact (rig_do1 h ho hlen hK hN n d (by omega) _ _).mono fun _ _ h => ⟨_, h⟩
  ·exact (rig_do1_bad h ho hlen n d hn _ _).mono fun _ _ h => ⟨_, h⟩
 ·exact (rig_do2 h ho hlen hK hN n d x _).mono fun _ _ h => ⟨_, h⟩
 ·exact (rig_do3 h ho hlen hK hN n d _ _).mono fun _ _ h => ⟨_, h⟩
 ·exact (rig_do4 h ho hlen n d _ _).mono fun _ _ h => ⟨_, h⟩
 ·exact (rig_do5 h ho hlen hK hN n d _ KA kn kc keep hKL hkn).mono fun _ _ h => ⟨_, h⟩
 ·exact rig_do6 h ho hlen hm16 n d _ _ hd0 hd1
 ·exact (rig_do8 h ho hlen hK hN n d _ KA kn kc keep hKL hkn hd0 hd1).mono fun _ _ h => ⟨_, h⟩
theorem OpsS.up {w : World} {b1 b2 : Nat} {A : Option Addr} {ops : List OpS} (h : OpsS w b1 A ops) (hb : b1 ≤ b2) : OpsS w b2 A ops :=
 ⟨h.none_, fun ad e h0 => let ⟨b, o, e2, hlt⟩ := h.spot ad e h0; ⟨b, o, e2, Nat.lt_of_lt_of_le hlt hb⟩, h.cell, fun x hx B hB => h.keeps x hx B fun b hb2 => Nat.le_trans hb (hB b hb2)⟩
def intK (k : Int) : Value := .int .i64 k
set_option maxRecDepth 100000 in
set_option maxHeartbeats 16000000 in
theorem play_any (me stp lo : Int) (hm0 : -9223372036854775808 ≤ me) (hm1 : me ≤ 9223372036854775807) (hs0 : -9223372036854775808 ≤ stp) (hs1 : stp ≤ 9223372036854775807) (hl0 : -9223372036854775808 ≤ lo) (hl1 : lo ≤ 9223372036854775807)
  (A : Option Addr) (l c : Nat) (ops : List OpS) (hops : OpsS w w.heap.size A ops) (hl : ops.length = l) (hbd : ∀ o ∈ ops, -9223372036854775808 ≤ o.at_ ∧ o.at_ ≤ 9223372036854775807)
  (KA : Option Addr) (kn kc : Nat) (kinds : List Int) (hkr : RdV w KA (kinds.map intK)) (hkn : kinds.length = kn) (hk8 : kn ≤ 8) (hkk : ∀ k ∈ kinds, KindOk k) :
  Calls Tryz.prog 10 #[.int .i64 me, .int .i64 stp, .int .i64 lo, .slice A l c, .slice KA kn kc] w fun e w' => e = .returned (.bool true) ∧ Below w.heap.size w w' := by
 have hbg := begin_any (w := w) me stp lo hm0 hm1 hs0 hs1 hl0 hl1
 replace hops := Lib.hid hops
 replace hl := Lib.hid hl
 replace hbd := Lib.hid hbd
 replace hkr := Lib.hid hkr
 replace hkn := Lib.hid hkn
 replace hkk := Lib.hid hkk
 clear hm0 hm1 hs0 hs1 hl0 hl1
 go_enter Tryz.func10, Tryz.ntmps10
 go_wp2_with fail
 with_reducible refine hbg.mono ?_
 rintro e w1 ⟨rb, mb, cap, G, F, tv, m, st, lg, N, s, V, rfl, hR, hok, hN, hm16, hB⟩
 have hlv := lives08 w1
 clear hbg
 go_wp2_with fail
 refine hlv.mono ?_
 rintro e w2 ⟨rfl, hb2⟩
 have hR0 := Lib.hid (hR.below hb2)
 have hB0 := Lib.hid (below_to hB hb2)
 have hok0 := Lib.hid hok
 clear hlv hR hok hB hb2
 go_wp2_with fail
 go_loopw [12] (fun p wr => ∃ (i : Nat) (G : Nat → Nat × Nat × Nat) (F : VolF) (s : ShM) (V : VolM) (L : Nat → List Bytes) (killed : Bool), p = .int .i64 i ∧ i ≤ l ∧ i ≤ 150 ∧ Hid (RigAt wr w.heap.size rb mb cap G F tv m st lg N s V L killed) ∧ Hid (RigOk s V N L killed (m, st)) ∧ Hid (∀ b, b < N → (L b).length ≤ i + 1) ∧ Hid (Below w.heap.size w wr))
  (fun p _ => l - (intOf p).toNat)
 case atStart => exact ⟨0, G, F, s, V, _, false, by go_num, by omega, by omega, hR0, hok0, Lib.hid (fun b _ => by simp), hB0⟩
 case round =>
  clear hR0 hok0 hB0
  obtain ⟨i, G, F, s, V, L, killed, rfl, hil, hi150, hR, hok, hLl, hB⟩ := hrel
  by_cases hin : i < l ∧ i < 150
  ·obtain ⟨hin1, hin2⟩ := hin
   have hio : i < ops.length := by rw [hl.out]; exact hin1
   obtain ⟨ob, oo, rfl, hob, q0, q1, q2, q3, q4, hKL⟩ := hops.out.get hio
   obtain ⟨hd0, hd1⟩ := hbd.out _ (List.getElem_mem hio)
   generalize ops[i] = o at *
   obtain ⟨kind, n, d, x, keep, ka, kc4⟩ := o
   dsimp only at q0 q1 q2 q3 q4 hKL hd0 hd1
   have hc0 : ∀ W, Below w.heap.size w W → W.cell? ⟨ob, oo + i * 5, none⟩ = some (.int .i64 kind) := fun W hW => (hW.cell (p := ⟨ob, oo + i * 5, none⟩) hob).trans q0
   replace hc0 := Lib.hid hc0
   have hi1 : (i : Int) < (l : Int) := by omega
   have hi2 : (i : Int) < 150 := by omega
   go_wp2_with fail
   go_loopw [13, 14] (fun p q wq => ∃ (j : Nat) (b : Bool), p = .bool b ∧ q = .int .i64 j ∧ j ≤ kn ∧ Hid (b = (kinds.take j).contains kind) ∧ Hid (Below wr.heap.size wr wq))
    (fun _ q _ => kn - (intOf q).toNat)
   case atStart => exact ⟨0, false, rfl, by go_num, by omega, Lib.hid (by simp), Lib.hid (by first | exact Below.refl _ _ | exact (Below.refl _ _).drew)⟩
   case round =>
    obtain ⟨j, b, rfl, rfl, hj, hbb, hbel⟩ := hrel
    have hBq := below_to hB.out hbel.out
    have hck := hc0.out _ hBq
    by_cases hjk : j < kn
    ·have hjl : j < kinds.length := by rw [hkn.out]; exact hjk
     obtain ⟨kd, rfl⟩ := hkr.out.some_ (i := 0) (by simp; omega)
     have hcj := (hkr.out.below hBq).cell j (by simpa using hjl)
     rw [List.getElem_map] at hcj
     have htk : Hid (kinds.take (j + 1) = kinds.take j ++ [kinds[j]]) := Lib.hid (by rw [List.take_succ, List.getElem?_eq_getElem hjl]; rfl)
     have hbw := Lib.hid hbel.out.drew
     generalize kinds[j] = kj at *
     unfold intK at hcj
     clear hBq hjl q0 q1 q2 q3 q4
     cases b with
     | true =>
      go_wp2_with fail
      refine wp_region_held_drew (S := (fun W => W.cell? (kd.add j) = some (.int .i64 kj) ∧ W.cell? ⟨ob, oo + i * 5, none⟩ = some (.int .i64 kind))) (by kernel_rfl) ?_ (fun hHeld => ?_)
      ·(try dsimp only)
       exact ⟨hcj, hck⟩
      refine tkA 0 ?_
      refine tkA 1 ?_
      refine tuA 2 ?_
      refine tuA 3 ?_
      refine tuA 4 ?_
      refine tuA 5 ?_
      refine tuA 6 ?_
      refine tuA 7 ?_
      refine tuA 8 ?_
      refine tuA 9 ?_
      refine tuA 10 ?_
      refine tuA 11 ?_
      refine tkA 12 ?_
      refine tkA 13 ?_
      refine wpAnyH_done (by kernel_rfl) ?_ _
      go_wp2
      go_roundw
      case rel => exact ⟨j + 1, _, rfl, by go_num, by omega, Lib.hid (by rw [htk.out, List.contains_append, ← hbb.out, List.contains_cons, List.contains_nil, Bool.or_false]; first | rfl | (rw [Bool.false_or]; rfl) | (rw [Bool.true_or]; rfl) | (rw [Bool.false_or, Bool.eq_iff_iff, beq_iff_eq, beq_iff_eq]; exact eq_comm) | (rw [Bool.true_or])), hbw⟩
      case measure => simp [intOf]; omega
     | false =>
      go_wp2_with fail
      refine wp_region_held_drew (S := (fun W => W.cell? (kd.add j) = some (.int .i64 kj) ∧ W.cell? ⟨ob, oo + i * 5, none⟩ = some (.int .i64 kind))) (by kernel_rfl) ?_ (fun hHeld => ?_)
      ·(try dsimp only)
       exact ⟨hcj, hck⟩
      refine tkA 0 ?_
      refine tkA 1 ?_
      refine tkA 2 ?_
      refine tkA 3 ?_
      refine tkA 4 ?_
      refine tkA 5 ?_
      refine tkA 6 ?_
      refine tkA 7 ?_
      refine tkA 8 ?_
      refine tkA 9 ?_
      refine tkA 10 ?_
      refine tkA 11 ?_
      refine tkA 12 ?_
      refine tkA 13 ?_
      refine wpAnyH_done (by kernel_rfl) ?_ _
      go_wp2
      go_roundw
      case rel => exact ⟨j + 1, _, rfl, by go_num, by omega, Lib.hid (by rw [htk.out, List.contains_append, ← hbb.out, List.contains_cons, List.contains_nil, Bool.or_false]; first | rfl | (rw [Bool.false_or]; rfl) | (rw [Bool.true_or]; rfl) | (rw [Bool.false_or, Bool.eq_iff_iff, beq_iff_eq, beq_iff_eq]; exact eq_comm) | (rw [Bool.true_or])), hbw⟩
      case measure => simp [intOf]; omega
    ·obtain rfl : j = kn := by omega
     have hbt : b = kinds.contains kind := by rw [hbb.out, ← hkn.out, List.take_length]
     have hRq := hR.out.below hbel.out
     have hops2 := hops.out.below hBq (Nat.le_refl _)
     have c0 := (hBq.cell (p := ⟨ob, oo + i * 5, none⟩) hob).trans q0
     have c1 := (hBq.cell (p := ⟨ob, oo + i * 5 + 1, none⟩) hob).trans q1
     have c2 := (hBq.cell (p := ⟨ob, oo + i * 5 + 2, none⟩) hob).trans q2
     have c3 := (hBq.cell (p := ⟨ob, oo + i * 5 + 3, none⟩) hob).trans q3
     have c4 := (hBq.cell (p := ⟨ob, oo + i * 5 + 4, none⟩) hob).trans q4
     have hKq := hKL.below hBq (Nat.le_refl _)
     have hLl2 : Hid (∀ b, b < N → (L b).length ≤ i + 1 + 1) := Lib.hid fun b hb => by have := hLl.out b hb; omega
     cases hbv : b with
     | true =>
      have hkind : KindOk kind := hkk.out kind (by
       rw [hbv] at hbt
       exact List.contains_iff_mem.1 hbt.symm)
      have hdo := rig_do hRq hok.out (K := i + 1) hLl.out (by omega) hN hm16 kind n d x ka keep.length kc4 keep hKq rfl hd0 hd1 hkind
      replace hBq := Lib.hid hBq
      clear hbt hRq hops2 hKq hkind hbb hck q0 q1 q2 q3 q4 hKL hR hok hLl hB hbel hc0
      go_wp2_with fail
      with_reducible refine hdo.mono ?_
      rintro e w8 ⟨killed8, rfl, G8, F8, s8, V8, L8, hR8, hok8, hL8, hB8⟩
      have hB9 := Lib.hid (hBq.out.trans hB8)
      replace hR8 := Lib.hid hR8
      replace hok8 := Lib.hid hok8
      replace hL8 := Lib.hid hL8
      clear hdo hB8 hBq
      go_wp2_with fail
      go_roundw
      case rel =>
       first
       | exact ⟨i + 1, G8, F8, s8, V8, L8, killed8, by go_num, by omega, by omega, hR8, hok8, hL8, hB9⟩
       | ((repeat apply Exists.intro); exact ⟨⟨i + 1, G8, F8, s8, V8, L8, killed8, by go_num, by omega, by omega, hR8, hok8, hL8, hB9⟩, rfl⟩)
      case measure => simp [intOf]; omega
     | false =>
      replace hBq := Lib.hid hBq
      replace hRq := Lib.hid hRq
      clear hbt hops2 hKq hbb hck q0 q1 q2 q3 q4 hKL hR hLl hB hbel hc0
      go_wp2_with fail
      go_roundw
      case rel =>
       first
       | exact ⟨i + 1, G, F, s, V, L, killed, by go_num, by omega, by omega, hRq, hok, hLl2, hBq⟩
       | ((repeat apply Exists.intro); exact ⟨⟨i + 1, G, F, s, V, L, killed, by go_num, by omega, by omega, hRq, hok, hLl2, hBq⟩, rfl⟩)
      case measure => simp [intOf]; omega
  ·have hcr := crash_any hR.out hok.out (fun b hb => by have := hLl.out b hb; omega) hN none 0 0 [] (KeepL.nil _ _) rfl (-1)
   have hBr := hB
   clear hR hok hLl hops hbd hkr hkk hB
   have hcase : i = l ∨ (i < l ∧ 150 ≤ i) := by omega
   clear hin
   rcases hcase with hx | ⟨hx, hx2⟩
   ·subst hx
    go_wp2_with fail
    with_reducible refine hcr.mono ?_
    rintro e w8 ⟨rfl, _, _, _, _, _, _, _, _, hB8⟩
    have hfin := Lib.hid (hBr.out.trans hB8)
    clear hcr hB8
    go_wp2_with fail
    go_ret
    exact ⟨rfl, hfin.out⟩
   ·have hi1 : (i : Int) < (l : Int) := by omega
    have hi2 : ¬ (i : Int) < 150 := by omega
    go_wp2_with fail
    with_reducible refine hcr.mono ?_
    rintro e w8 ⟨rfl, _, _, _, _, _, _, _, _, hB8⟩
    have hfin := Lib.hid (hBr.out.trans hB8)
    clear hcr hB8
    go_wp2_with fail
    go_ret
    exact ⟨rfl, hfin.out⟩
end
end
end Go.Proofs.YtajnlhalanhicaaGreat

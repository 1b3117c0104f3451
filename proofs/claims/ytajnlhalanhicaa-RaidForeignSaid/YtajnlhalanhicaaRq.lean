/-
 Several texts of this work in one (merge.py): RcB, RcC, RcD.
-/
import Derived.Test.YtajnlhalanhicaaHeldTail
import Derived.Test.YtajnlhalanhicaaRgD
import Derived.Test.YtajnlhalanhicaaRgE
import Derived.Test.YtajnlhalanhicaaRcA
import Derived.BigQuiet
namespace Go.Proofs.Ytajnlhalanhicaa
set_option linter.all false
set_option maxRecDepth 20000
section
open Go.RowKit
section
variable {X : Nat → Prop} {F : VolF} {g : Nat} {w w' : World} {s s' : ShM} {V : VolM}
theorem volRedo_eq (s : ShM) (V : VolM) (d st pl : Nat) (part : Bytes) (h1 : (st : Int) < V.sup.stripes) (h2 : (pl : Int) < V.sup.members - 1) :
  volRedo s V d ⟨st, pl, part⟩ = (if V.diskOf (parN V.m st) st = d then
   (if (volGet s V ((memL V.m st).getD pl 0) st).2.1 = 0 then
    (if (volGet (volGet s V ((memL V.m st).getD pl 0) st).2.2 V (parN V.m st) st).2.1 = 0 ∧ (volGet (volGet s V ((memL V.m st).getD pl 0) st).2.2 V (parN V.m st) st).1 = xorB part (volGet s V ((memL V.m st).getD pl 0) st).1 then (0, (volGet (volGet s V ((memL V.m st).getD pl 0) st).2.2 V (parN V.m st) st).2.2, V)
     else volPut (volGet (volGet s V ((memL V.m st).getD pl 0) st).2.2 V (parN V.m st) st).2.2 V (parN V.m st) st (xorB part (volGet s V ((memL V.m st).getD pl 0) st).1))
    else if (volGet s V ((memL V.m st).getD pl 0) st).2.1 = 3 then (3, (volGet s V ((memL V.m st).getD pl 0) st).2.2, V) else (0, (volGet s V ((memL V.m st).getD pl 0) st).2.2, V))
   else (0, s, V)) := by
 unfold volRedo
 dsimp only
 rw [if_pos ⟨h1, h2⟩]
 rfl
theorem volRedo_out (s : ShM) (V : VolM) (d st pl : Nat) (part : Bytes) (h : ¬ ((st : Int) < V.sup.stripes ∧ (pl : Int) < V.sup.members - 1)) : volRedo s V d ⟨st, pl, part⟩ = (0, s, V) := by
 unfold volRedo
 dsimp only
 rw [if_neg h]
set_option maxHeartbeats 16000000 in
theorem ra_redo (h : VolX X F w s V) (hroom : Room 999999999980 s) (d : Nat) (hd17 : d ≤ 17) (st pl : Nat) (hst : st < 1024) (hpl : pl < 15) (part : Bytes) (hp128 : part.length = 128) (A : Option Addr) (c : Nat) (hr : Rd w A part) (hA : ∀ ad, A = some ad → X ad.block) :
  Calls Try.prog 94 #[.pointer (some ⟨F.v, 0, none⟩), .int .i64 (d : Int), .agg #[.int .i64 (st : Int), .int .i64 (pl : Int), .slice A 128 c]] w (PutPost_ X F w (volRedo s V d ⟨st, pl, part⟩)) := by
 have hb0 := below_made' w (.cells #[.int .i64 (st : Int), .int .i64 (pl : Int), .slice A 128 c] 150)
 have hbx := heap_alloc_new w (.cells #[.int .i64 (st : Int), .int .i64 (pl : Int), .slice A 128 c] 150)
 have hV0 : VolX (fun b => X b ∨ b = w.heap.size) F (w.alloc (.cells #[.int .i64 (st : Int), .int .i64 (pl : Int), .slice A 128 c] 150)) s V := h.more hb0 fun b hx => by
  rcases hx with hx | rfl
  ·exact ⟨Nat.lt_of_lt_of_le (h.lt b hx) hb0.size, .inl hx⟩
  ·exact ⟨lt_of_row hbx, .inr (Nat.le_refl _)⟩
 have hK0 : Kept X w (w.alloc (.cells #[.int .i64 (st : Int), .int .i64 (pl : Int), .slice A 128 c] 150)) := Kept.of_below hb0 h.lt
 have hr0 := hr.below hb0
 have hm3 := h.ok.m3N
 have hm16 := h.ok.m16N
 have hlt := h.lt
 have c1 := hV0.cM
 have c3 := hV0.c 3
 simp only [volR] at c3
 rw [← h.ok.sN] at c3
 have hmI := h.ok.mN
 have hsI := h.ok.sN
 have hvlt := hV0.vlt
 have hout : ∀ (Z : World), VolX (fun b => X b ∨ b = w.heap.size) F Z s V → Kept X w Z → PutPost_ X F w (0, s, V) (.returned (.int .i64 0)) Z := fun Z hz hk => ⟨rfl, hz.mono fun b hb => .inl hb, hk⟩
 obtain ⟨d0, d1, d2, df⟩ := row3_cells _ _ _ _ _ _ hbx
 have hblt := lt_of_row hbx
 have hwm : IntKind.i64.wrap ((V.m : Int) - 1) = ((V.m - 1 : Nat) : Int) := by rw [IntWalk.i64_in _ (by omega)]; omega
 by_cases g : (st : Int) < V.sup.stripes ∧ (pl : Int) < V.sup.members - 1
 ·have g1 : st < V.stripes := by omega
  have g2 : pl < V.m - 1 := by omega
  rw [volRedo_eq s V d st pl part g.1 g.2]
  have k1 : decide (V.stripes ≤ st) = false := decide_eq_false (by omega)
  have k2 : decide (V.m - 1 ≤ pl) = false := decide_eq_false (by omega)
  obtain ⟨T, hT⟩ : ∃ T, T = (if V.diskOf (parN V.m st) st = d then
   (if (volGet s V ((memL V.m st).getD pl 0) st).2.1 = 0 then
    (if (volGet (volGet s V ((memL V.m st).getD pl 0) st).2.2 V (parN V.m st) st).2.1 = 0 ∧ (volGet (volGet s V ((memL V.m st).getD pl 0) st).2.2 V (parN V.m st) st).1 = xorB part (volGet s V ((memL V.m st).getD pl 0) st).1 then (0, (volGet (volGet s V ((memL V.m st).getD pl 0) st).2.2 V (parN V.m st) st).2.2, V)
     else volPut (volGet (volGet s V ((memL V.m st).getD pl 0) st).2.2 V (parN V.m st) st).2.2 V (parN V.m st) st (xorB part (volGet s V ((memL V.m st).getD pl 0) st).1))
    else if (volGet s V ((memL V.m st).getD pl 0) st).2.1 = 3 then (3, (volGet s V ((memL V.m st).getD pl 0) st).2.2, V) else (0, (volGet s V ((memL V.m st).getD pl 0) st).2.2, V))
   else (0, s, V)) := ⟨_, rfl⟩
  rw [← hT]
  replace hT := Lib.hid hT
  replace hout := Lib.hid hout
  replace hV0 := Lib.hid hV0
  replace hK0 := Lib.hid hK0
  replace hr0 := Lib.hid hr0
  replace hlt := Lib.hid hlt
  replace hA := Lib.hid hA
  replace hp128 := Lib.hid hp128
  have hmem := fun W => lay_members V.m st hm3 hm16 (by omega) W
  replace hmem := Lib.hid hmem
  clear h hr hb0 g g1 hmI hsI
  go_enter Try.func94, Try.ntmps94
  go_wp2_with fail
  go_quiet (fail)
  have hb1 := below_drewN (Below.refl (w.alloc (.cells #[.int .i64 (st : Int), .int .i64 (pl : Int), .slice A 128 c] 150)).heap.size (w.alloc (.cells #[.int .i64 (st : Int), .int .i64 (pl : Int), .slice A 128 c] 150))) nq
  have hV1 := hV0.out.below hb1
  have hK1 := hK0.out.trans (Kept.of_below hb1 fun b hb => hV0.out.lt b (.inl hb))
  have hr1 := hr0.out.below hb1
  have hbox1 := hrow_keep hbx hb1
  clear hb1 hV0 hK0 hr0 hbx c1 c3 d0 d1 d2 df hblt hvlt k1 k2
  generalize (w.alloc (.cells #[.int .i64 (st : Int), .int .i64 (pl : Int), .slice A 128 c] 150)).drewN nq = w1 at *
  have c1 := hV1.cM
  obtain ⟨q, hq⟩ : ∃ q, V.m = q + 1 := ⟨V.m - 1, by omega⟩
  rw [hq] at c1 hm3 hm16
  have hmem := lay_members (q + 1) st hm3 hm16 (by omega) w1.drew
  have hvlt := hV1.vlt
  have hblt := lt_of_row hbox1
  have d0 := cell_of_row w1 w.heap.size 0 _ _ _ hbox1
  have hSk : ∀ W', Below w1.heap.size w1 W' → W'.cell? ⟨F.v, 1, none⟩ = some (.int .i64 ((q + 1 : Nat) : Int)) ∧ W'.cell? ⟨w.heap.size, 0, none⟩ = some (.int .i64 (st : Int)) := fun W' hb => ⟨(hb.cell hvlt).trans c1, (hb.cell hblt).trans d0⟩
  replace hSk := Lib.hid hSk
  replace hV1 := Lib.hid hV1
  replace hK1 := Lib.hid hK1
  replace hr1 := Lib.hid hr1
  replace hbox1 := Lib.hid hbox1
  have hplq : pl < q := by omega
  clear g2
  go_wp2_with fail
  refine wp_region_held_drew (S := (fun W' => W'.cell? ⟨F.v, 1, none⟩ = some (.int .i64 ((q + 1 : Nat) : Int)) ∧ W'.cell? ⟨w.heap.size, 0, none⟩ = some (.int .i64 (st : Int)))) (by kernel_rfl) ?_ (fun hHeld => ?_)
  ·(try dsimp only)
   exact ⟨c1, d0⟩
  refine tkA 0 ?_
  refine tkA 1 ?_
  refine tkA 2 ?_
  refine tkA 3 ?_
  refine tkA 4 ?_
  refine tkA 5 ?_
  refine tkA 6 ?_
  refine rkA 7 (fun K hK => ?_)
  go_simp
  refine hmem.mono ?_
  rintro e w4 ⟨A4, c4, rfl, hO, hb4⟩
  have hS4 := hSk.out w4 ((Below.refl _ _).drew.trans hb4)
  (try go_wp2_with fail)
  refine hK.out _ _ ?_ (fun hHeld2 => ?_)
  ·(try dsimp only)
   exact hS4
  clear hK K
  replace hHeld := hHeld2
  clear hHeld2
  (try simp only [pA, pN, pB, pC, pD])
  refine tkA 8 ?_
  refine tkA 9 ?_
  refine tkA 10 ?_
  refine tkA 11 ?_
  refine tkA 12 ?_
  refine wpAnyH_done (by kernel_rfl) ?_ _
  clear hHeld hS4 hmem c1 d0 hSk hvlt hblt
  obtain ⟨hleft, gb, rfl, hg0, hg1⟩ := hO.some_ (i := 0) (by rw [List.length_map, memL_len]; omega)
  clear hleft
  have hcap := hO.cap
  have hbw4 : Below w1.heap.size w1 w4 := (Below.refl _ _).drew.trans hb4
  have hbox4 := hrow_keep hbox1.out hbw4
  have hlq : (memL (q + 1) st).length = q + 1 := memL_len _ _
  have hlast : w4.cell? ⟨gb, q, none⟩ = some (.int .i64 (parN (q + 1) st : Int)) := by
   have h1 := hO.cellN q (by simp [memL_len])
   rw [h1, List.getElem_map]
   have h2 := memL_last (m := q + 1) (st := st) (by omega)
   simp only [Nat.add_sub_cancel] at h2
   rw [h2]
   rfl
  have hplace : w4.cell? ⟨gb, pl, none⟩ = some (.int .i64 ((memL (q + 1) st).getD pl 0 : Int)) := by
   have h1 := hO.cellN pl (by rw [List.length_map, hlq]; omega)
   rw [h1, List.getElem_map, List.getD_eq_getElem?_getD, List.getElem?_eq_getElem (by omega), Option.getD_some]
   rfl
  have hVg : VolX (fun b => (X b ∨ b = w.heap.size) ∨ b = gb) F w4 s V := hV1.out.more hbw4 fun b hx => by
   rcases hx with hx | rfl
   ·exact ⟨Nat.lt_of_lt_of_le (hV1.out.lt b hx) hbw4.size, .inl hx⟩
   ·exact ⟨hg1, .inr hg0⟩
  have hK4 := hK1.out.trans (Kept.of_below hbw4 fun b hb => hV1.out.lt b (.inl hb))
  have hr4 := hr1.out.below hbw4
  have hmb : (memL (q + 1) st).getD pl 0 < V.m := by
   rw [hq, List.getD_eq_getElem?_getD, List.getElem?_eq_getElem (by omega), Option.getD_some]
   exact memL_lt (List.getElem_mem _)
  have hpV : parN (q + 1) st < V.m := by rw [hq]; exact parN_lt (by omega)
  rw [hq] at hT
  generalize (memL (q + 1) st).getD pl 0 = mb at *
  generalize parN (q + 1) st = p at *
  have hdk := ra_disk hVg p st
  have hdk17 := hVg.ok.diskN hpV st
  have hl17 := hVg.ok.len17
  have hgt := ra_getB hVg.drew (hroom.mono (by omega)) mb st hmb (by omega)
  have hgok := Lib.hid fun h0 => volGet_ok (V := V) (m := mb) (st := st) hVg.sh.ok h0
  have hgroom := Lib.hid (room_get hroom V mb st)
  obtain ⟨e0, e1, e2, ef⟩ := row3_cells w4 _ _ _ _ _ hbox4
  have hblt := lt_of_row hbox4
  clear hO hb4 hlq hV1 hK1 hr1 hbox1 hbw4
  generalize V.diskOf p st = dd at *
  generalize volGet s V mb st = r at *
  obtain ⟨rb, er, s5⟩ := r
  dsimp only at hT hgt hgok hgroom
  have hSk : ∀ W', Kept (fun b => (X b ∨ b = w.heap.size) ∨ b = gb) w4 W' → W'.cell? ⟨w.heap.size, 0, none⟩ = some (.int .i64 (st : Int)) ∧ W'.cell? ⟨w.heap.size, 1, none⟩ = some (.int .i64 (pl : Int)) ∧ W'.cell? ⟨gb, pl, none⟩ = some (.int .i64 (mb : Int)) := fun W' hk =>
   ⟨(World.cell?_of_block (hk.block _ (.inl (.inr rfl)))).trans e0, (World.cell?_of_block (hk.block _ (.inl (.inr rfl)))).trans e1, (World.cell?_of_block (hk.block _ (.inr rfl))).trans hplace⟩
  replace hSk := Lib.hid hSk
  replace hVg := Lib.hid hVg
  replace hK4 := Lib.hid hK4
  replace hr4 := Lib.hid hr4
  replace hbox4 := Lib.hid hbox4
  by_cases hdd : dd = d
  ·replace hT := Lib.hid (hT.out.trans (if_pos hdd))
   have hb1 : ((dd : Int) != (d : Int)) = false := by rw [bne_eq_false_iff_eq]; omega
   replace hdd := Lib.hid hdd
   have hpq1 : (pl : Int) < (q : Int) + 1 := by omega
   have hpq2 : pl < q + 1 := by omega
   go_wp2_with fail
   with_reducible refine hdk.mono ?_
   rintro e wx ⟨rfl, rfl⟩
   clear hdk
   go_wp2_with fail
   refine wp_region_held_drew (S := (fun W' => W'.cell? ⟨w.heap.size, 0, none⟩ = some (.int .i64 (st : Int)) ∧ W'.cell? ⟨w.heap.size, 1, none⟩ = some (.int .i64 (pl : Int)) ∧ W'.cell? ⟨gb, pl, none⟩ = some (.int .i64 (mb : Int)))) (by kernel_rfl) ?_ (fun hHeld => ?_)
   ·(try dsimp only)
    exact ⟨e0, e1, hplace⟩
   refine tkA 0 ?_
   refine tkA 1 ?_
   refine tkA 2 ?_
   refine tkA 3 ?_
   refine tkA 4 ?_
   refine tkA 5 ?_
   refine tkA 6 ?_
   refine tkA 7 ?_
   refine rkA 8 (fun K hK => ?_)
   go_simp
   with_reducible refine hgt.mono ?_
   rintro e w5 ⟨A5, c5, rfl, hR5, hc5, hA5, hV5, hK5⟩
   have hS5 := hSk.out w5 ((Kept.drew _ w4).trans hK5)
   (try go_wp2_with fail)
   refine hK.out _ _ ?_ (fun hHeld2 => ?_)
   ·(try dsimp only)
    exact hS5
   clear hK K
   replace hHeld := hHeld2
   clear hHeld2
   (try simp only [pA, pN, pB, pC, pD])
   refine tkA 9 ?_
   refine tkA 10 ?_
   refine tkA 11 ?_
   refine tkA 12 ?_
   refine tkA 13 ?_
   refine wpAnyH_done (by kernel_rfl) ?_ _
   obtain ⟨e0', e1', _⟩ := hS5
   have hK5' := (Kept.drew (fun b => (X b ∨ b = w.heap.size) ∨ b = gb) w4).trans hK5
   have hr5 : Rd w5 A part := hK5'.rd hr4.out fun ad e => .inl (.inl (hA.out ad e))
   have hbox5 := (hK5'.block w.heap.size (.inl (.inr rfl))).trans hbox4.out
   have hK05 := Lib.hid (hK4.out.trans (hK5'.mono fun b hb => .inl (.inl hb)))
   have e2' := cell_of_row w5 w.heap.size 2 _ _ _ hbox5
   have hblt5 := lt_of_row hbox5
   have hA5' := hA5
   clear hHeld hgt hSk hK5 hK5' hVg hK4 hr4 hbox4 e0 e1 e2 ef hblt hplace hlast hpq1 hpq2 hcap hg0 hg1 hA5
   by_cases h0 : er = 0
   ·subst h0
    replace hT := Lib.hid (hT.out.trans (if_pos rfl))
    have hl1 := hgok.out rfl
    rw [hl1]
    have hx := xor_ok A A5 128 128 c c5 part rb w5 hr5 hR5 hp128.out hl1 rfl (by omega)
    have hxl := Lib.hid (xorB_len hp128.out hl1)
    change Calls _ _ _ _ (fun e w' => ∃ A' c', e = .returned (.tuple #[.slice A' 128 c', .int .i64 0]) ∧ Own w' 5 w5.heap.size (.slice A' 128 c') (xorB part rb) ∧ Below w5.heap.size w5 w') at hx
    generalize xorB part rb = want at *
    replace hV5 := Lib.hid hV5
    replace hbox5 := Lib.hid hbox5
    clear hr5 hR5 hc5 hA5' hl1 hgok
    go_wp2_with fail
    with_reducible refine hx.mono ?_
    rintro e w6 ⟨A6, c6, rfl, ho6, hb6⟩
    have hin6 := ho6.within
    have hV6 := hV5.out.join hb6 hin6
    have hbox6 := hrow_keep hbox5.out hb6
    have hK6 := Lib.hid (hK05.out.trans (Kept.of_below hb6 fun b hb => hV5.out.lt b (.inl (.inl (.inl hb)))))
    have hr6 := ho6.rd
    have hgt := ra_getB hV6 (hgroom.out.mono (by omega)) p st hpV (by omega)
    have hgok := Lib.hid fun h0 => volGet_ok (V := V) (m := p) (st := st) hV6.sh.ok h0
    have hgr7 := Lib.hid (room_get hgroom.out V p st)
    obtain ⟨f0, f1, f2, ff⟩ := row3_cells w6 _ _ _ _ _ hbox6
    have hblt6 := lt_of_row hbox6
    generalize volGet s5 V p st = r7 at *
    obtain ⟨rb7, er7, s7⟩ := r7
    dsimp only at hT hgt hgok hgr7
    replace hbox6 := Lib.hid hbox6
    clear hx hV5 hbox5 hK05 ho6 hb6 hV6 hin6 hgroom e0' e1' e2' hblt5
    go_wp2_with fail
    with_reducible refine hgt.mono ?_
    rintro e w7 ⟨A7, c7, rfl, hR7, hc7, hA7, hV7, hK7⟩
    have hr7 : Rd w7 A6 want := hK7.rd hr6 fun ad e => .inr ⟨ad, e, rfl⟩
    have hbox7 := (hK7.block w.heap.size (.inl (.inl (.inl (.inr rfl))))).trans hbox6.out
    have hK07 := Lib.hid (hK6.out.trans (hK7.mono fun b hb => .inl (.inl (.inl (.inl hb)))))
    obtain ⟨g0, g1, g2, gf⟩ := row3_cells w7 _ _ _ _ _ hbox7
    have hblt7 := lt_of_row hbox7
    have cs6 := run_string_rd (P := Try.prog) w7 32 9 5 Try.underlying32 Try.underlying5 Try.underlying9 A6 128 c6 want hr7 hxl.out
    have hpt := ra_put hV7 (hgr7.out.mono (by omega)) p st hpV (by omega) A6 128 c6 want hr7 hxl.out (fun ad e => .inl (.inr ⟨ad, e, rfl⟩))
    have hfinE : PutPost_ X F w (0, s7, V) (.returned (.int .i64 0)) w7 := ⟨rfl, hV7.mono fun b hb => .inl (.inl (.inl (.inl (.inl hb)))), hK07.out⟩
    dsimp only at hR7 hc7 hV7
    have hfinP : ∀ e w8, PutPost_ (fun b => ((((X b ∨ b = w.heap.size) ∨ b = gb) ∨ ∃ ad, A5 = some ad ∧ ad.block = b) ∨ ∃ ad, A6 = some ad ∧ ad.block = b) ∨ ∃ ad, A7 = some ad ∧ ad.block = b) F w7 (volPut s7 V p st want) e w8 → PutPost_ X F w (volPut s7 V p st want) e w8 := fun e w8 hp => ⟨hp.1, hp.2.1.mono fun b hb => .inl (.inl (.inl (.inl (.inl hb)))), hK07.out.trans (hp.2.2.mono fun b hb => .inl (.inl (.inl (.inl (.inl hb)))))⟩
    replace hfinE := Lib.hid hfinE
    replace hfinP := Lib.hid hfinP
    replace hbox7 := Lib.hid hbox7
    clear hgt hK7 hr6 hbox6 hK6 f0 f1 f2 ff hblt6 hV7 hK07 hr7 hA7
    by_cases h7 : er7 = 0
    ·subst h7
     have hl7 := hgok.out rfl
     rw [hl7]
     have cs7 := run_string_rd (P := Try.prog) w7 32 9 5 Try.underlying32 Try.underlying5 Try.underlying9 A7 128 c7 rb7 hR7 hl7
     clear hR7 hc7 hl7 hgok
     by_cases hw : rb7 = want
     ·have hwb : (rb7 == want) = true := by rw [beq_iff_eq]; exact hw
      replace hT := hT.out.trans (if_pos ⟨rfl, hw⟩)
      rw [← hT] at hfinE
      clear hw hT hfinP hpt
      go_wp2_with fail
      go_ret
      exact hfinE.out
     ·have hwb : (rb7 == want) = false := by rw [beq_eq_false_iff_ne]; exact hw
      replace hT := hT.out.trans (if_neg fun h => hw h.2)
      rw [← hT] at hfinP hpt
      clear hw hT hfinE
      go_wp2_with fail
      with_reducible refine hpt.mono ?_
      rintro e w8 hp8
      have hfin := Lib.hid (hfinP.out e w8 hp8)
      obtain ⟨rfl, _, _⟩ := hp8
      clear hfinP hpt
      go_wp2_with fail
      go_ret
      exact hfin.out
    ·have h7b : (er7 == 0) = false := by rw [beq_eq_false_iff_ne]; exact h7
     replace hT := hT.out.trans (if_neg fun h => h7 h.1)
     rw [← hT] at hfinP hpt
     clear h7 hT hfinE hR7 hc7 hgok
     go_wp2_with fail
     with_reducible refine hpt.mono ?_
     rintro e w8 hp8
     have hfin := Lib.hid (hfinP.out e w8 hp8)
     obtain ⟨rfl, _, _⟩ := hp8
     clear hfinP hpt
     go_wp2_with fail
     go_ret
     exact hfin.out
   ·have h0b : (er != 0) = true := by rw [bne_iff_ne]; exact h0
    replace hT := Lib.hid (hT.out.trans (if_neg h0))
    by_cases h3 : er = 3
    ·subst h3
     replace hT := hT.out.trans (if_pos rfl)
     have hfin : PutPost_ X F w T (.returned (.int .i64 3)) w5 := by
      rw [hT]
      exact ⟨rfl, hV5.mono fun b hb => .inl (.inl (.inl hb)), hK05.out⟩
     replace hfin := Lib.hid hfin
     clear hT hV5 hK05 hR5 hc5 hgok hbox5 hA5' hr5
     go_wp2_with fail
     go_ret
     exact hfin.out
    ·have h3b : (er == 3) = false := by rw [beq_eq_false_iff_ne]; exact h3
     replace hT := hT.out.trans (if_neg h3)
     have hfin : PutPost_ X F w T (.returned (.int .i64 0)) w5 := by
      rw [hT]
      exact ⟨rfl, hV5.mono fun b hb => .inl (.inl (.inl hb)), hK05.out⟩
     replace hfin := Lib.hid hfin
     clear hT hV5 hK05 hR5 hc5 hgok hbox5 hA5' hr5 h0 h3
     go_wp2_with fail
     go_ret
     exact hfin.out
  ·replace hT := hT.out.trans (if_neg hdd)
   have hb1 : ((dd : Int) != (d : Int)) = true := by rw [bne_iff_ne]; omega
   have hfin : PutPost_ X F w T (.returned (.int .i64 0)) w4 := by
    rw [hT]
    exact ⟨rfl, hVg.out.mono fun b hb => .inl (.inl hb), hK4.out⟩
   replace hfin := Lib.hid hfin
   replace hdd := Lib.hid hdd
   clear hT hVg hK4 hgt hgok hgroom
   go_wp2_with fail
   with_reducible refine hdk.mono ?_
   rintro e wx ⟨rfl, rfl⟩
   go_wp2_with fail
   go_ret
   exact hfin.out
 ·rw [volRedo_out s V d st pl part g]
  replace hout := Lib.hid hout
  replace hV0 := Lib.hid hV0
  replace hK0 := Lib.hid hK0
  by_cases g1 : st < V.stripes
  ·have g2 : ¬ pl < V.m - 1 := by omega
   have k1 : decide (V.stripes ≤ st) = false := decide_eq_false (by omega)
   have k2 : decide (V.m - 1 ≤ pl) = true := decide_eq_true (by omega)
   have hfin : Hid (∀ n, PutPost_ X F w (0, s, V) (.returned (.int .i64 0)) ((w.alloc (.cells #[.int .i64 (st : Int), .int .i64 (pl : Int), .slice A 128 c] 150)).drewN n)) := Lib.hid fun n => hout.out _ (hV0.out.below (below_drewN (Below.refl _ _) n)) (hK0.out.trans (Kept.of_below (below_drewN (Below.refl _ _) n) fun b hb => hV0.out.lt b (.inl hb)))
   clear h hr hb0 g g1 hmI hsI hout hV0 hK0
   go_enter Try.func94, Try.ntmps94
   go_wp2_with fail
   go_quiet (fail)
   go_wp2_with fail
   go_ret
   exact hfin.out _
  ·have k1 : decide (V.stripes ≤ st) = true := decide_eq_true (by omega)
   have hfin : Hid (∀ n, PutPost_ X F w (0, s, V) (.returned (.int .i64 0)) ((w.alloc (.cells #[.int .i64 (st : Int), .int .i64 (pl : Int), .slice A 128 c] 150)).drewN n)) := Lib.hid fun n => hout.out _ (hV0.out.below (below_drewN (Below.refl _ _) n)) (hK0.out.trans (Kept.of_below (below_drewN (Below.refl _ _) n) fun b hb => hV0.out.lt b (.inl hb)))
   clear h hr hb0 g g1 hmI hsI hout hV0 hK0
   go_enter Try.func94, Try.ntmps94
   go_wp2_with fail
   go_quiet (fail)
   go_wp2_with fail
   go_ret
   exact hfin.out _
end
end
section
open Go.RowKit
section
variable {X : Nat → Prop} {F : VolF} {g : Nat} {w w' : World} {s s' : ShM} {V : VolM}
theorem setDev_id {V : VolM} {i : Nat} (hi : i < V.devs.length) : V.setDev i (V.dev i) = V := by
 unfold VolM.setDev VolM.dev
 congr 1
 simp [List.getD, hi]
theorem logGet_may {s : ShM} {D : DevM} {slots : Nat} {n : Int} (h : (logGet s D slots n).2.1 = 0) : mayB (logGet s D slots n).1 = true := by
 have hd : ∀ a b, decEP a b = 0 → mayB (decR a b) = true := fun a b h => by
  cases hk : decOKP a b with
  | false => rw [decEP_bad hk] at h; omega
  | true =>
   rw [decR_ok hk]
   unfold decOKP at hk
   simp only [Bool.and_eq_true] at hk
   exact hk.1
 unfold logGet at h ⊢
 by_cases k0 : slotOk slots n = true
 ·rw [if_pos k0] at h ⊢
  dsimp only at h ⊢
  by_cases k1 : (devRead s D (2 + 2 * n)).2.1 = 0
  ·rw [if_pos k1] at h ⊢
   by_cases k2 : (devRead s D (2 + 2 * n)).1 = zeroSec
   ·rw [if_pos k2] at h; exact absurd h (show ¬ (7 : Int) = 0 by decide)
   ·rw [if_neg k2] at h ⊢
    by_cases k3 : (devRead (devRead s D (2 + 2 * n)).2.2 D (2 + 2 * n + 1)).2.1 = 0
    ·rw [if_pos k3] at h ⊢; exact hd _ _ h
    ·rw [if_neg k3] at h; exact absurd h k3
  ·rw [if_neg k1] at h; exact absurd h k1
 ·rw [if_neg k0] at h; exact absurd h (show ¬ (1 : Int) = 0 by decide)
theorem devRead_kept (s : ShM) (D : DevM) (n : Int) : (devRead s D n).2.2.disks.length = s.disks.length ∧ (devRead s D n).2.2.sectors = s.sectors := by
 obtain ⟨h1, h2⟩ := devRead_disks s D n
 exact ⟨by rw [h1], h2⟩
theorem logGet_kept (s : ShM) (D : DevM) (slots : Nat) (n : Int) : (logGet s D slots n).2.2.disks.length = s.disks.length ∧ (logGet s D slots n).2.2.sectors = s.sectors := by
 have a := devRead_kept s D (2 + 2 * n)
 have b := devRead_kept (devRead s D (2 + 2 * n)).2.2 D (2 + 2 * n + 1)
 unfold logGet
 dsimp only
 split
 ·split
  ·split
   ·exact a
   ·split
    ·exact ⟨b.1.trans a.1, b.2.trans a.2⟩
    ·exact ⟨b.1.trans a.1, b.2.trans a.2⟩
  ·exact a
 ·exact ⟨rfl, rfl⟩
def LGetPost (X : Nat → Prop) (F : VolF) (w : World) (V : VolM) (r : Rec × Int × ShM) (e : Ending) (w' : World) : Prop :=
 ∃ A c, e = .returned (.tuple #[.agg #[.int .i64 r.1.stripe, .int .i64 r.1.place, .slice A r.1.part.length c], .int .i64 r.2.1]) ∧ Rd w' A r.1.part ∧ VolX (fun b => X b ∨ ∃ ad, A = some ad ∧ ad.block = b) F w' r.2.2 V ∧ Kept X w w'
theorem ra_lget (h : VolX X F w s V) (hroom : Room 999999999980 s) {i : Nat} (hi : i < V.devs.length) (n : Nat) : Calls Try.prog 93 #[.pointer (some ⟨F.l i, 0, none⟩), .int .i64 (n : Int)] w (LGetPost X F w V (logGet s (V.dev i) V.logs n)) := by
 have hl8 : V.logs ≤ 8 := h.slots8
 have hlin : F.l i ∈ F.own := F.l_in (by rw [h.llen]; exact hi)
 refine (lg_get (h.toDev hi) (h.log i hi) (.inr ⟨hlin, fun e => (h.a_other hi).2.2.2.2.2 i hi e.symm⟩) hl8 hroom n).mono ?_
 rintro e w' ⟨A, c, rfl, hO, hD, hK⟩
 have hk := logGet_kept s (V.dev i) V.logs (n : Int)
 have hin := hO.within
 have := h.ofDev hi (Y := fun b => X b ∨ ∃ ad, A = some ad ∧ ad.block = b) (hD.mono fun b hb => ?_) hK (fun b hb hy => ?_) hk.1 hk.2 rfl rfl
 ·rw [setDev_id hi] at this
  exact ⟨A, c, rfl, hO.rd, this.1, this.2⟩
 ·rcases hb with (hb | hb) | hb
  ·exact .inl (.inl hb)
  ·exact .inr hb
  ·exact .inl (.inr hb)
 ·rcases hy with hy | ⟨ad, e, rfl⟩
  ·exact h.out b hb hy
  ·have h1 := (hin ad e).1
   have h2 := h.olt ad.block hb
   omega
theorem recIn_step (s : ShM) (V : VolM) (i n f : Nat) : recIn s V i n (f + 1) = (if (logGet s (V.dev i) V.logs n).2.1 = 4 ∨ (logGet s (V.dev i) V.logs n).2.1 = 7 then recIn (logGet s (V.dev i) V.logs n).2.2 V i (n + 1) f
  else if (logGet s (V.dev i) V.logs n).2.1 = 3 then (3, (logGet s (V.dev i) V.logs n).2.2, V)
  else if (logGet s (V.dev i) V.logs n).2.1 = 0 then (if (volRedo (logGet s (V.dev i) V.logs n).2.2 V i (logGet s (V.dev i) V.logs n).1).1 = 0 then recIn (volRedo (logGet s (V.dev i) V.logs n).2.2 V i (logGet s (V.dev i) V.logs n).1).2.1 ((volRedo (logGet s (V.dev i) V.logs n).2.2 V i (logGet s (V.dev i) V.logs n).1).2.2.use (i, n)) i (n + 1) f else volRedo (logGet s (V.dev i) V.logs n).2.2 V i (logGet s (V.dev i) V.logs n).1)
  else recIn (logGet s (V.dev i) V.logs n).2.2 (V.use (i, n)) i (n + 1) f) := rfl
theorem recFrom_step (s : ShM) (V : VolM) (i f : Nat) : recFrom s V i (f + 1) = if (recIn s V i 0 V.logs).1 = 0 then recFrom (recIn s V i 0 V.logs).2.1 (recIn s V i 0 V.logs).2.2 (i + 1) f else recIn s V i 0 V.logs := rfl
theorem volRedo_sup (s : ShM) (V : VolM) (d : Nat) (r : Rec) : (volRedo s V d r).2.2.sup = V.sup ∧ (volRedo s V d r).2.2.devs.length = V.devs.length := by
 unfold volRedo
 dsimp only
 split
 ·split
  ·split
   ·split
    ·exact ⟨rfl, rfl⟩
    ·exact ⟨rfl, setDev_len V _ _⟩
   ·split <;> exact ⟨rfl, rfl⟩
  ·exact ⟨rfl, rfl⟩
 ·exact ⟨rfl, rfl⟩
theorem volRedo_room {N : Nat} (h : Room N s) (V : VolM) (d : Nat) (r : Rec) : Room (N + 4) (volRedo s V d r).2.1 := by
 unfold volRedo
 dsimp only
 have h1 : ∀ m st, Room N (volGet s V m st).2.2 := fun m st => room_get h V m st
 split
 ·split
  ·split
   ·split
    ·exact (room_get (h1 _ _) V _ _).mono (by omega)
    ·exact room_vwr (room_get (h1 _ _) V _ _) V _ _ _
   ·split <;> exact (h1 _ _).mono (by omega)
  ·exact h.mono (by omega)
 ·exact h.mono (by omega)
set_option maxHeartbeats 16000000 in
theorem ra_recover (h : VolX X F w s V) (hroom : Room 999999900000 s) : Calls Try.prog 66 #[.pointer (some ⟨F.v, 0, none⟩)] w (PutPost_ X F w (volRecover s V)) := by
 obtain ⟨T, hT⟩ : ∃ T, T = volRecover s V := ⟨_, rfl⟩
 rw [← hT]
 obtain ⟨n, hn⟩ : ∃ n, n = V.devs.length := ⟨_, rfl⟩
 have c10 := h.c 10
 simp only [volR] at c10
 rw [← hn] at c10
 have hl17 := h.ok.len17
 rw [← hn] at hl17
 obtain ⟨L, hL⟩ : ∃ L, L = V.logs := ⟨_, rfl⟩
 have hL8 : L ≤ 8 := by rw [hL]; exact h.slots8
 obtain ⟨C, hC⟩ : ∃ C, C = recFrom s V 0 n := ⟨_, rfl⟩
 have hC0 : Hid (C = recFrom s V 0 (n - 0)) := Lib.hid hC
 have hTs : Hid (T = if C.1 = 0 then volFlush C.2.1 C.2.2 else C) := Lib.hid (by rw [hT, hC, hn]; rfl)
 have hvlt := h.vlt
 have hV := Lib.hid h
 have hK : Hid (Kept X w w) := Lib.hid (Kept.refl X w)
 replace hn := Lib.hid hn
 replace hL := Lib.hid hL
 have hsup0 : Hid (V.sup = V.sup) := Lib.hid rfl
 clear hC hT h
 go_enter Try.func66, Try.ntmps66
 go_wp2_with fail
 go_loopw [14] (fun q wr => ∃ (i : Nat) (s' : ShM) (V' : VolM), q = .int .i64 i ∧ i ≤ n ∧ Hid (n = V'.devs.length) ∧ Hid (L = V'.logs) ∧ Hid (C = recFrom s' V' i (n - i)) ∧ Hid (VolX X F wr s' V') ∧ Hid (Kept X w wr) ∧ Hid (Room (999999900000 + 64 * i) s'))
  (fun q _ => n - (intOf q).toNat)
 case atStart => exact ⟨0, s, V, by go_num, by omega, hn, hL, hC0, hV, hK, Lib.hid (hroom.mono (by omega))⟩
 case round =>
  clear hC0 hV hK hroom c10 hvlt hn hL hsup0
  obtain ⟨i, s', V', rfl, hi, hn, hL, hC, hV, hK, hroom⟩ := hrel
  by_cases hin : i < n
  ·have hil : i < V'.devs.length := by rw [← hn.out]; exact hin
   have hcell := hV.out.cLog hil
   unfold ptrV at hcell
   have hcl := hV.out.cLogs
   rw [← hL.out] at hcl
   have hvlt := hV.out.vlt
   obtain ⟨D, hD⟩ : ∃ D, D = recIn s' V' i 0 L := ⟨_, rfl⟩
   have hstep : Hid (C = _) := Lib.hid (hC.out.trans (by rw [show n - i = (n - (i + 1)) + 1 by omega, recFrom_step, ← hL.out, ← hD]))
   have hD0 : Hid (D = recIn s' V' i 0 (L - 0)) := Lib.hid hD
   obtain ⟨li, hli⟩ : ∃ li, li = F.l i := ⟨_, rfl⟩
   rw [← hli] at hcell
   replace hli := Lib.hid hli
   clear hD hC hil
   go_wp2_with fail
   go_loopw [24] (fun q wr => ∃ (k : Nat) (s' : ShM) (V' : VolM), q = .int .i64 k ∧ k ≤ L ∧ Hid (n = V'.devs.length) ∧ Hid (L = V'.logs) ∧ Hid (D = recIn s' V' i k (L - k)) ∧ Hid (VolX X F wr s' V') ∧ Hid (Kept X w wr) ∧ Hid (Room (999999900000 + 64 * i + 8 * k) s'))
    (fun q _ => L - (intOf q).toNat)
   case atStart => exact ⟨0, s', V', by go_num, by omega, hn, hL, hD0, hV, hK, hroom⟩
   case round =>
    clear hD0 hV hK hroom hcl hcell hvlt hn hL
    obtain ⟨k, s3, V3, rfl, hk, hn, hL, hD, hV, hK, hroom⟩ := hrel
    by_cases hkL : k < L
    ·have hil : i < V3.devs.length := by rw [← hn.out]; exact hin
     have hgt := ra_lget hV.out (hroom.out.mono (by omega)) hil k
     rw [← hli.out] at hgt
     have hstep2 : Hid (D = _) := Lib.hid (hD.out.trans (by rw [show L - k = (L - (k + 1)) + 1 by omega, recIn_step]))
     have hroom1 := Lib.hid (room_lget hroom.out (V3.dev i) V3.logs (k : Int))
     have hmay := Lib.hid fun h0 => logGet_may (s := s3) (D := V3.dev i) (slots := V3.logs) (n := (k : Int)) h0
     generalize logGet s3 (V3.dev i) V3.logs (k : Int) = r at *
     obtain ⟨⟨rst, rpl, part⟩, er, s4⟩ := r
     unfold LGetPost at hgt
     dsimp only at hgt hstep2 hroom1 hmay
     clear hV hroom hD
     go_wp2_with fail
     with_reducible refine hgt.mono ?_
     rintro e w1 ⟨A1, c1, rfl, hR1, hV1, hK1⟩
     have hK01 := hK.out.trans hK1
     clear hgt hK hK1
     have hb2 := below_made' w1 (.cells #[.int .i64 rst, .int .i64 rpl, .slice A1 part.length c1] 150)
     have hV2 := hV1.below hb2
     have hK2 := hK01.trans (Kept.of_below hb2 fun b hb => hV1.lt b (.inl hb))
     have hR2 := hR1.below hb2
     have hbx := heap_alloc_new w1 (.cells #[.int .i64 rst, .int .i64 rpl, .slice A1 part.length c1] 150)
     clear hV1 hK01 hR1 hb2
     by_cases e4 : er = 4
     ·subst e4
      have hD2 := Lib.hid (hstep2.out.trans (if_pos (.inl rfl)))
      have hV3 := Lib.hid (hV2.mono fun b hb => .inl hb : VolX X F _ s4 V3)
      replace hK2 := Lib.hid hK2
      clear hstep2 hV2 hR2 hmay hbx
      go_wp2_with fail
      go_roundw
      case rel => exact ⟨k + 1, s4, V3, by go_num, by omega, hn, hL, hD2, hV3, hK2, Lib.hid (hroom1.out.mono (by omega))⟩
      case measure => simp [intOf]; omega
     ·have b4 : (er == 4) = false := by rw [beq_eq_false_iff_ne]; exact e4
      by_cases e7 : er = 7
      ·subst e7
       have hD2 := Lib.hid (hstep2.out.trans (if_pos (.inr rfl)))
       have hV3 := Lib.hid (hV2.mono fun b hb => .inl hb : VolX X F _ s4 V3)
       replace hK2 := Lib.hid hK2
       clear hstep2 hV2 hR2 hmay hbx b4 e4
       go_wp2_with fail
       go_roundw
       case rel => exact ⟨k + 1, s4, V3, by go_num, by omega, hn, hL, hD2, hV3, hK2, Lib.hid (hroom1.out.mono (by omega))⟩
       case measure => simp [intOf]; omega
      ·have b7 : (er == 7) = false := by rw [beq_eq_false_iff_ne]; exact e7
       replace hstep2 := Lib.hid (hstep2.out.trans (if_neg (by rintro (h | h); exact e4 h; exact e7 h)))
       by_cases e3 : er = 3
       ·subst e3
        have hD2 := hstep2.out.trans (if_pos rfl)
        have hfin : PutPost_ X F w T (.returned (.int .i64 3)) (w1.alloc (.cells #[.int .i64 rst, .int .i64 rpl, .slice A1 part.length c1] 150)) := by
         rw [hTs.out, hstep.out, hD2]
         exact ⟨rfl, hV2.mono fun b hb => .inl hb, hK2⟩
        replace hfin := Lib.hid hfin
        clear hstep2 hV2 hR2 hmay hbx b4 e4 b7 e7 hD2 hTs hstep
        go_wp2_with fail
        go_ret
        exact hfin.out
       ·have b3 : (er == 3) = false := by rw [beq_eq_false_iff_ne]; exact e3
        replace hstep2 := Lib.hid (hstep2.out.trans (if_neg e3))
        by_cases e0 : er = 0
        ·subst e0
         replace hstep2 := Lib.hid (hstep2.out.trans (if_pos rfl))
         obtain ⟨m1, m2, m3, m4, m5⟩ := of_decide_eq_true (hmay.out rfl)
         dsimp only at m1 m2 m3 m4 m5
         obtain ⟨st, rfl⟩ := Int.eq_ofNat_of_zero_le m1
         obtain ⟨pl, rfl⟩ := Int.eq_ofNat_of_zero_le m3
         rw [m5] at hV2 hK2 hR2 hbx ⊢
         obtain ⟨d0, d1, d2, df⟩ := row3_cells _ _ _ _ _ _ hbx
         have hblt := lt_of_row hbx
         have hrd := ra_redo hV2 (hroom1.out.mono (by omega)) i (by omega) st pl (by omega) (by omega) part m5 A1 c1 hR2 (fun ad e => .inr ⟨ad, e, rfl⟩)
         have hrm := Lib.hid (volRedo_room hroom1.out V3 i ⟨st, pl, part⟩)
         obtain ⟨hs9, hl9⟩ := volRedo_sup s4 V3 i ⟨st, pl, part⟩
         generalize volRedo s4 V3 i ⟨st, pl, part⟩ = y at *
         obtain ⟨ey, s9, V9⟩ := y
         dsimp only at hrd hrm hs9 hl9 hstep2
         have hn9 : Hid (n = V9.devs.length) := Lib.hid (hn.out.trans hl9.symm)
         have hL9 : Hid (L = V9.logs) := Lib.hid (by rw [hL.out]; unfold VolM.logs; rw [hs9])
         replace hK2 := Lib.hid hK2
         replace hbx := Lib.hid hbx
         clear hV2 hR2 hmay b4 e4 b7 e7 b3 e3 m1 m2 m3 m4 m5 hs9 hl9 hroom1
         go_wp2_with fail
         with_reducible refine hrd.mono ?_
         rintro e w3 ⟨rfl, hV3, hK3⟩
         dsimp only at hV3
         replace hK3 := hK2.out.trans (hK3.mono fun b hb => .inl hb)
         replace hV3 := hV3.mono (Y := X) fun b hb => .inl hb
         clear hrd hK2 hbx d0 d1 d2 df hblt
         by_cases y0 : ey = 0
         ·subst y0
          have hD2 := Lib.hid (hstep2.out.trans (if_pos rfl))
          obtain ⟨o, hmu, hM⟩ := hV3.used.put Try.setSlot (i, k) ⟨by unfold smallN; omega, by unfold smallN; omega⟩
          unfold slotK unitV at hmu
          dsimp only at hmu
          have c12 := hV3.c 12
          simp only [volR] at c12
          have hvlt3 := hV3.vlt
          obtain ⟨hV5, hK5⟩ := hV3.setUsed hM
          rw [use_eq] at hV5
          have hK05 := Lib.hid (hK3.trans hK5)
          replace hV5 := Lib.hid hV5
          clear hV3 hK3 hM hK5 hstep2
          go_wp2_with fail
          go_roundw
          case rel => exact ⟨k + 1, s9, V9.use (i, k), by go_num, by omega, hn9, hL9, hD2, hV5, hK05, Lib.hid (hrm.out.mono (by omega))⟩
          case measure => simp [intOf]; omega
         ·have by0 : (ey != 0) = true := by rw [bne_iff_ne]; exact y0
          have hD2 := hstep2.out.trans (if_neg y0)
          have hfin : PutPost_ X F w T (.returned (.int .i64 ey)) w3 := by
           rw [hTs.out, hstep.out, hD2, if_neg y0, if_neg y0]
           exact ⟨rfl, hV3, hK3⟩
          replace hfin := Lib.hid hfin
          clear hstep2 hD2 hV3 hK3 hTs hstep y0
          go_wp2_with fail
          go_ret
          exact hfin.out
        ·have b0 : (er == 0) = false := by rw [beq_eq_false_iff_ne]; exact e0
         have hD2 := Lib.hid (hstep2.out.trans (if_neg e0))
         replace hV2 := hV2.mono (Y := X) fun b hb => .inl hb
         obtain ⟨o, hmu, hM⟩ := hV2.used.put Try.setSlot (i, k) ⟨by unfold smallN; omega, by unfold smallN; omega⟩
         unfold slotK unitV at hmu
         dsimp only at hmu
         have c12 := hV2.c 12
         simp only [volR] at c12
         have hvlt3 := hV2.vlt
         obtain ⟨hV5, hK5⟩ := hV2.setUsed hM
         rw [use_eq] at hV5
         have hK05 := Lib.hid (hK2.trans hK5)
         replace hV5 := Lib.hid hV5
         clear hV2 hK2 hM hK5 hstep2 hR2 hmay hbx
         go_wp2_with fail
         go_roundw
         case rel => exact ⟨k + 1, s4, V3.use (i, k), by go_num, by omega, hn, hL, hD2, hV5, hK05, Lib.hid (hroom1.out.mono (by omega))⟩
         case measure => simp [intOf]; omega
    ·obtain rfl : k = L := by omega
     have hD1 : D = (0, s3, V3) := by
      rw [hD.out, Nat.sub_self]
      rfl
     have hC2 : Hid (C = recFrom s3 V3 (i + 1) (n - (i + 1))) := Lib.hid (by rw [hstep.out, hD1]; exact if_pos rfl)
     clear hD hD1 hstep
     go_wp2_with fail
     go_roundw
     case rel => exact ⟨i + 1, s3, V3, by go_num, by omega, hn, hL, hC2, hV, hK, Lib.hid (hroom.out.mono (by omega))⟩
     case measure => simp [intOf]; omega
  ·obtain rfl : i = n := by omega
   have hC1 : C = (0, s', V') := by
    rw [hC.out, Nat.sub_self]
    rfl
   have hfl := ra_flush hV.out (hroom.out.mono (by omega))
   have hT5 : T = volFlush s' V' := by rw [hTs.out, hC1]; exact if_pos rfl
   rw [← hT5] at hfl
   have hfin : Hid (∀ e w8, PutPost_ X F wr T e w8 → PutPost_ X F w T e w8) := Lib.hid fun e w8 hp => ⟨hp.1, hp.2.1, hK.out.trans hp.2.2⟩
   clear hC hC1 hV hK hTs hT5 hroom
   go_wp2_with fail
   with_reducible refine hfl.mono ?_
   rintro e w8 hp8
   have hfin8 := Lib.hid (hfin.out e w8 hp8)
   obtain ⟨rfl, _, _⟩ := hp8
   clear hfin hfl
   go_wp2_with fail
   go_ret
   exact hfin8.out
end
end
section
open Go.RowKit
section
variable {X : Nat → Prop} {F : VolF} {g : Nat} {w w' : World} {s s' : ShM} {V : VolM}
theorem hearIn_step (s : ShM) (d n f : Nat) : hearIn s d n (f + 1) = ((if (heardR s d n).2.1 = 0 then (heardR s d n).1 :: (hearIn (heardR s d n).2.2 d (n + 1) f).1 else (hearIn (heardR s d n).2.2 d (n + 1) f).1), (hearIn (heardR s d n).2.2 d (n + 1) f).2) := rfl
theorem hearFrom_step (s : ShM) (d f : Nat) : hearFrom s d (f + 1) = ((hearIn s d 0 2).1 ++ (hearFrom (hearIn s d 0 2).2 (d + 1) f).1, (hearFrom (hearIn s d 0 2).2 (d + 1) f).2) := rfl
theorem heardR_kept (s : ShM) (d n : Nat) : (heardR s d n).2.2.disks = s.disks ∧ (heardR s d n).2.2.sectors = s.sectors := by
 have h := devRead_disks s ⟨d, (blocksI s.sectors).toNat, -1⟩ n
 unfold heardR
 dsimp only
 split
 ·split
  ·split <;> exact h
  ·exact h
 ·exact h
theorem heardR_room {N : Nat} (h : Room N s) (d n : Nat) : Room N (heardR s d n).2.2 := by
 have h := room_dread h ⟨d, (blocksI s.sectors).toNat, -1⟩ (n : Int)
 unfold heardR
 dsimp only
 split
 ·split
  ·split <;> exact h
  ·exact h
 ·exact h
def FitS (dl : Nat) (x : Sup) : Prop := rightB x = true ∧ ¬ (0 ≤ x.spare ∧ (dl : Int) = x.members)
theorem heardR_fit {s : ShM} {d n : Nat} (h : (heardR s d n).2.1 = 0) : FitS s.disks.length (heardR s d n).1 := by
 unfold heardR at h ⊢
 dsimp only at h ⊢
 by_cases h1 : (devRead s ⟨d, (blocksI s.sectors).toNat, -1⟩ n).2.1 = 0
 ·rw [if_pos h1] at h ⊢
  by_cases h2 : decOK (devRead s ⟨d, (blocksI s.sectors).toNat, -1⟩ n).1 = true
  ·rw [if_pos h2] at h ⊢
   by_cases h3 : hearOk s d n (decS (devRead s ⟨d, (blocksI s.sectors).toNat, -1⟩ n).1) = true
   ·rw [if_pos h3]
    refine ⟨?_, (of_decide_eq_true h3).2.2.2.2⟩
    dsimp only
    rw [decS_ok h2]
    unfold decOK at h2
    simp only [Bool.and_eq_true] at h2
    exact h2.2.1
   ·rw [if_neg h3] at h; exact absurd h (show ¬ (8 : Int) = 0 by decide)
  ·rw [if_neg h2] at h; exact absurd h (show ¬ (8 : Int) = 0 by decide)
 ·rw [if_neg h1] at h; exact absurd h h1
theorem supCells_one (x : Sup) : ∀ u ∈ supCells x, u.oneCell' = true := by
 intro u hu
 simp only [supCells, List.mem_cons, List.not_mem_nil, or_false] at hu
 rcases hu with rfl | rfl | rfl | rfl | rfl | rfl | rfl | rfl <;> rfl
theorem Try.infoSup : (Try.prog.info? 53).map (fun i => (i.zero, i.size, i.bytes)) = some (some (.agg #[.int .i64 0, .int .i64 0, .int .i64 0, .int .i64 0, .int .i64 0, .int .i64 0, .int .i64 0, .int .i64 0]), 8, 64) := by kernel_rfl
theorem cellsS_snoc (cs : List Sup) (x : Sup) : cellsS (cs ++ [x]) = cellsS cs ++ supCells x := by simp [cellsS]
theorem sups_append {w1 W2 w5 : World} {base n : Nat} {v v' : Value} {us vs : List Value} {s : ShM}
  (hrow1 : w1.ownsRow base 53 8 v n us) (hS : ShX (fun b => X b ∨ v.ownBlock = some b) g w1 s) (hxl : ∀ b, X b → b < base)
  (hb12 : Below w1.heap.size w1 W2) (hrow : w5.ownsRow base 53 8 v' (n + 1) vs) (hg : W2.grownBy w5 v.ownBlock) (hw : v'.ownBlock = v.ownBlock ∨ v'.ownBlock = some W2.heap.size) :
  ShX (fun b => X b ∨ v'.ownBlock = some b) g w5 s ∧ Kept X w1 w5 := by
 have hvo := ownsRow_lt hrow1
 have hsz := hb12.size
 have hs5 := hg.size
 have hsame : ∀ b, b < w1.heap.size → v.ownBlock ≠ some b → w5.heap[b]? = w1.heap[b]? := fun b hb hne => (hg.block b (by omega) (fun e => hne e.symm)).trans (hb12.block b hb)
 refine ⟨hS.more (Nat.le_trans hsz hs5) (fun b hb hnx => hsame b hb fun e => hnx (.inr e)) fun b hb => ?_, ?_⟩
 ·rcases hb with hb | hb
  ·exact ⟨Nat.lt_of_lt_of_le (hS.lt b (.inl hb)) (Nat.le_trans hsz hs5), .inl (.inl hb)⟩
  ·refine ⟨(ownsRow_lt hrow b hb).2, ?_⟩
   rcases hw with hw | hw
   ·exact .inl (.inr (hw ▸ hb))
   ·rw [hw] at hb
    injection hb with hb
    exact .inr (by omega)
 ·refine ⟨hg.os.trans hb12.os, hg.tape.trans hb12.tape, hg.output.trans hb12.output, Nat.le_trans hsz hg.size, fun b hb => ?_⟩
  exact hsame b (hS.lt b (.inl hb)) fun e => by
   have h1 := (hvo b e).1
   have h2 := hxl b hb
   omega
theorem tellFrom_step (s : ShM) (V : VolM) (d f : Nat) : tellFrom s V d (f + 1) = (if (heardR s d (V.sup.gen % 2).toNat).2.1 = 4 ∨ ((heardR s d (V.sup.gen % 2).toNat).2.1 = 0 ∧ alikeB (heardR s d (V.sup.gen % 2).toNat).1 V.sup = true) then tellFrom (heardR s d (V.sup.gen % 2).toNat).2.2 V (d + 1) f
  else (if (volSay (heardR s d (V.sup.gen % 2).toNat).2.2 V d V.sup).1 = 0 ∨ (volSay (heardR s d (V.sup.gen % 2).toNat).2.2 V d V.sup).1 = 4 then tellFrom (volSay (heardR s d (V.sup.gen % 2).toNat).2.2 V d V.sup).2.1 (volSay (heardR s d (V.sup.gen % 2).toNat).2.2 V d V.sup).2.2 (d + 1) f else volSay (heardR s d (V.sup.gen % 2).toNat).2.2 V d V.sup)) := rfl
set_option maxHeartbeats 16000000 in
theorem ra_open (h : ShX X g w s) (hroom : Room 999999800000 s) : Calls Try.prog 23 #[.pointer (some ⟨g, 0, none⟩)] w (MakePost X g w (volOpen s)) := by
 obtain ⟨T, hT⟩ : ∃ T, T = volOpen s := ⟨_, rfl⟩
 rw [← hT]
 unfold volOpen at hT
 obtain ⟨H, hH⟩ : ∃ H, H = hearFrom s 0 s.disks.length := ⟨_, rfl⟩
 rw [← hH] at hT
 replace hT := Lib.hid hT
 have hsz := lx_size h
 have hlt := h.lt
 obtain ⟨dl, hdl⟩ : ∃ dl, dl = s.disks.length := ⟨_, rfl⟩
 rw [← hdl] at hsz hH
 have hd17 : dl ≤ 17 := by rw [hdl]; exact h.ok.disks17
 replace hdl := Lib.hid hdl
 replace hH := Lib.hid hH
 replace hlt := Lib.hid hlt
 go_enter Try.func23, Try.ntmps23
 go_wp2_with fail
 with_reducible refine hsz.mono ?_
 rintro e w1 ⟨rfl, hb1⟩
 have hS1 := h.below hb1
 have hK1 := Kept.of_below hb1 h.lt
 have hof := lx_off hS1
 clear hsz hb1 h
 cases hoff : s.off with
 | true =>
  rw [hoff] at hof
  have hfin : MakePost X g w T (.returned (.tuple #[.pointer none, .int .i64 3])) w1 := by
   rw [hT.out, hoff, if_pos rfl]
   exact ⟨fun h => absurd h (show ¬ (3 : Int) = 0 by decide), fun _ => ⟨rfl, hS1⟩, hK1⟩
  replace hfin := Lib.hid hfin
  clear hT hS1 hK1 hroom hoff
  go_wp2_with fail
  with_reducible refine hof.mono ?_
  rintro e wx ⟨rfl, rfl⟩
  clear hof
  go_wp2_with fail
  go_ret2
  exact hfin.out
 | false =>
  rw [hoff] at hof
  replace hT := Lib.hid (hT.out.trans (by rw [hoff, if_neg Bool.false_ne_true]))
  have hrow0 : w1.ownsRow w.heap.size 53 8 (.slice none 0 0) 0 (cellsS []) := World.ownsRow_nil _ _ _ _
  have hS0 := hS1.mono (Y := fun b => X b ∨ (Value.slice none 0 0).ownBlock = some b) fun b hb => hb.elim id fun e => by cases e
  have hH0 : Hid (H = (([] : List Sup) ++ (hearFrom s 0 (dl - 0)).1, (hearFrom s 0 (dl - 0)).2)) := hH
  have hsd : Hid (s.disks = s.disks ∧ s.sectors = s.sectors) := Lib.hid ⟨rfl, rfl⟩
  have hfit0 : Hid (∀ x ∈ ([] : List Sup), FitS dl x) := Lib.hid fun x hx => absurd hx List.not_mem_nil
  replace hrow0 := Lib.hid hrow0
  replace hS0 := Lib.hid hS0
  replace hK1 := Lib.hid hK1
  replace hroom := Lib.hid hroom
  clear hH hS1 hoff
  go_wp2_with fail
  with_reducible refine hof.mono ?_
  rintro e wx ⟨rfl, rfl⟩
  clear hof
  go_wp2_with fail
  go_loopw [6, 28] (fun p q wr => ∃ (d : Nat) (s' : ShM) (cs : List Sup) (A : Option Addr) (c : Nat), p = .slice A cs.length c ∧ q = .int .i64 d ∧ d ≤ dl ∧ cs.length ≤ 2 * d ∧ Hid (H = (cs ++ (hearFrom s' d (dl - d)).1, (hearFrom s' d (dl - d)).2)) ∧ Hid (wr.ownsRow w.heap.size 53 8 (.slice A cs.length c) cs.length (cellsS cs)) ∧ Hid (ShX (fun b => X b ∨ (Value.slice A cs.length c).ownBlock = some b) g wr s') ∧ Hid (Kept X w wr) ∧ Hid (Room 999999800000 s') ∧ Hid (s'.disks = s.disks ∧ s'.sectors = s.sectors) ∧ Hid (∀ x ∈ cs, FitS dl x))
   (fun _ q _ => dl - (intOf q).toNat)
  case atStart => exact ⟨0, s, [], none, 0, rfl, by go_num, by omega, by simp, hH0, hrow0, hS0, hK1, hroom, Lib.hid ⟨rfl, rfl⟩, hfit0⟩
  case round =>
   clear hH0 hrow0 hS0 hK1 hroom hsd hfit0
   obtain ⟨d, s', cs, A, c, rfl, rfl, hd, hcl, hH, hrow, hS, hK, hroom, hsd, hfit⟩ := hrel
   by_cases hdl1 : d < dl
   ·obtain ⟨I, hI⟩ : ∃ I, I = hearIn s' d 0 2 := ⟨_, rfl⟩
    have hstep : Hid (H = (cs ++ (I.1 ++ (hearFrom I.2 (d + 1) (dl - (d + 1))).1), (hearFrom I.2 (d + 1) (dl - (d + 1))).2)) := Lib.hid (by
     rw [hH.out, show dl - d = (dl - (d + 1)) + 1 by omega, hearFrom_step, ← hI])
    have hI0 : Hid ((cs ++ I.1, I.2) = (cs ++ (hearIn s' d 0 (2 - 0)).1, (hearIn s' d 0 (2 - 0)).2)) := Lib.hid (by rw [hI])
    have hcl0 : cs.length ≤ 2 * d + 0 := by omega
    clear hH hI
    go_wp2_with fail
    go_loopw [6, 31] (fun p q wr => ∃ (n : Nat) (s' : ShM) (es : List Sup) (A : Option Addr) (c : Nat), p = .slice A es.length c ∧ q = .int .i64 n ∧ n ≤ 2 ∧ es.length ≤ 2 * d + n ∧ Hid ((cs ++ I.1, I.2) = (es ++ (hearIn s' d n (2 - n)).1, (hearIn s' d n (2 - n)).2)) ∧ Hid (wr.ownsRow w.heap.size 53 8 (.slice A es.length c) es.length (cellsS es)) ∧ Hid (ShX (fun b => X b ∨ (Value.slice A es.length c).ownBlock = some b) g wr s') ∧ Hid (Kept X w wr) ∧ Hid (Room 999999800000 s') ∧ Hid (s'.disks = s.disks ∧ s'.sectors = s.sectors) ∧ Hid (∀ x ∈ es, FitS dl x))
     (fun _ q _ => 2 - (intOf q).toNat)
    case atStart => exact ⟨0, s', cs, A, c, rfl, by go_num, by omega, hcl0, hI0, hrow, hS, hK, hroom, hsd, hfit⟩
    case round =>
     clear hI0 hrow hS hK hroom hsd hfit
     obtain ⟨n, s3, es, A, c, rfl, rfl, hn, hel, hI, hrow, hS, hK, hroom, hsd, hfit⟩ := hrel
     by_cases hn2 : n < 2
     ·have hd3 : d < s3.disks.length := by rw [hsd.out.1, ← hdl.out]; exact hdl1
      have hhd := ra_heard hS.out (hroom.out.mono (by omega)) d hd3 n hn2
      have hstep2 : Hid (((cs ++ I.1, I.2) : List Sup × ShM) = _) := Lib.hid (hI.out.trans (by rw [show 2 - n = (2 - (n + 1)) + 1 by omega, hearIn_step]))
      have hkept := heardR_kept s3 d n
      have hsd4 := Lib.hid (show (heardR s3 d n).2.2.disks = s.disks ∧ (heardR s3 d n).2.2.sectors = s.sectors from ⟨hkept.1.trans hsd.out.1, hkept.2.trans hsd.out.2⟩)
      have hroom4 := Lib.hid (heardR_room hroom.out d n)
      have hfit4 := Lib.hid fun h0 => heardR_fit (s := s3) (d := d) (n := n) h0
      rw [hsd.out.1, ← hdl.out] at hfit4
      generalize heardR s3 d n = r at *
      obtain ⟨y, er, s4⟩ := r
      unfold HeardPost at hhd
      dsimp only at hhd hstep2 hsd4 hroom4 hfit4
      have hwlt : w.heap.size ≤ wr.heap.size := hK.out.size
      clear hI hsd hroom hkept hd3
      go_wp2_with fail
      with_reducible refine hhd.mono ?_
      rintro e w2 ⟨rfl, hS2, hK2⟩
      have hrow2 := ownsRow_blk hrow.out fun b hb => hK2.block b (.inr hb)
      have hK02 := hK.out.trans (hK2.mono fun b hb => .inl hb)
      have hw2 := hK2.size
      clear hhd hrow hK hK2 hS
      by_cases e0 : er = 0
      ·subst e0
       replace hstep2 := Lib.hid (hstep2.out.trans (by rw [if_pos rfl]))
       have hy := hfit4.out rfl
       have hcsl := cellsS_len es
       obtain ⟨W2, hW2⟩ : ∃ W2, W2 = (w2.alloc (.cells #[.int .i64 y.gen, .int .i64 y.members, .int .i64 y.disk, .int .i64 y.stripes, .int .i64 y.logs, .int .i64 y.spare, .int .i64 y.mark, .int .i64 y.cursor] 53)).alloc (.cells #[.int .i64 y.gen, .int .i64 y.members, .int .i64 y.disk, .int .i64 y.stripes, .int .i64 y.logs, .int .i64 y.spare, .int .i64 y.mark, .int .i64 y.cursor] 53) := ⟨_, rfl⟩
       have hb12 : Below w2.heap.size w2 W2 := by rw [hW2]; exact (below_made' w2 _).trans ((below_made' _ _).mono (by simp))
       have hrow3 := ownsRow_below hrow2 hb12
       have hus : RdV W2 (some ⟨w2.heap.size + 1, 0, none⟩) (supCells y) := by
        rw [hW2]
        have h := RdV.lit (w2.alloc (.cells #[.int .i64 y.gen, .int .i64 y.members, .int .i64 y.disk, .int .i64 y.stripes, .int .i64 y.logs, .int .i64 y.spare, .int .i64 y.mark, .int .i64 y.cursor] 53)) 53 (supCells y) (by simp [supCells])
        simpa [supCells] using h
       have hsz2 : W2.heap.size = w2.heap.size + 2 := by rw [hW2]; simp
       replace hrow2 := Lib.hid hrow2
       replace hrow3 := Lib.hid hrow3
       replace hus := Lib.hid hus
       replace hS2 := Lib.hid hS2
       replace hK02 := Lib.hid hK02
       replace hb12 := Lib.hid hb12
       replace hcsl := Lib.hid hcsl
       replace hy := Lib.hid hy
       clear hfit4
       go_wp2_with (at_builtin; rw [← hW2]; refine wpList_append_at rfl _ _ 48 rfl w.heap.size 53 _ 8 64 Try.underlying48 Try.infoSup rfl (by omega) (.slice A es.length c) es.length (cellsS es) (supCells y) (some ⟨w2.heap.size + 1, 0, none⟩) 1 1 rfl rfl hrow3.out hus.out (supCells_one _) rfl (by simp only [maxLen]; omega) (by omega) (by omega) ?_; intro v5 w5 hrow5 hg5 hw5; obtain ⟨A5, c5, rfl, _, _⟩ := ownsRow_form hrow5)
       obtain ⟨hS5, hK5⟩ := sups_append hrow2.out hS2.out hlt.out hb12.out hrow5 hg5 hw5
       have hl5 : (es ++ [y]).length = es.length + 1 := by simp
       have hrow5' : Hid (w5.ownsRow w.heap.size 53 8 (.slice A5 (es ++ [y]).length c5) (es ++ [y]).length (cellsS (es ++ [y]))) := Lib.hid (by rw [hl5, cellsS_snoc]; exact hrow5)
       have hS5' : Hid (ShX (fun b => X b ∨ (Value.slice A5 (es ++ [y]).length c5).ownBlock = some b) g w5 s4) := Lib.hid (by rw [hl5]; exact hS5)
       have hK05 := Lib.hid (hK02.out.trans hK5)
       have hfit5 : Hid (∀ x ∈ es ++ [y], FitS dl x) := Lib.hid fun x hx => by
        rcases List.mem_append.1 hx with hx | hx
        ·exact hfit.out x hx
        ·rw [List.mem_singleton.1 hx]; exact hy.out
       have hstep5 : Hid (((cs ++ I.1, I.2) : List Sup × ShM) = ((es ++ [y]) ++ (hearIn s4 d (n + 1) (2 - (n + 1))).1, (hearIn s4 d (n + 1) (2 - (n + 1))).2)) := Lib.hid (by rw [hstep2.out]; simp)
       generalize es ++ [y] = es5 at *
       rw [← hl5]
       clear hstep2 hrow2 hrow3 hus hS2 hK02 hb12 hcsl hy hrow5 hg5 hw5 hS5 hK5 hW2 hsz2 hfit
       go_wp2_with fail
       go_roundw
       case rel => exact ⟨n + 1, s4, es5, A5, c5, rfl, by go_num, by omega, by omega, hstep5, hrow5', hS5', hK05, hroom4, hsd4, hfit5⟩
       case measure => simp [intOf]; omega
      ·have b0 : (er == 0) = false := by rw [beq_eq_false_iff_ne]; exact e0
       replace hstep2 := Lib.hid (hstep2.out.trans (by rw [if_neg e0]))
       have hb3 := below_made' w2 (.cells #[.int .i64 y.gen, .int .i64 y.members, .int .i64 y.disk, .int .i64 y.stripes, .int .i64 y.logs, .int .i64 y.spare, .int .i64 y.mark, .int .i64 y.cursor] 53)
       have hrow3 := Lib.hid (ownsRow_below hrow2 hb3)
       have hS3 := Lib.hid (hS2.below hb3)
       have hK3 := Lib.hid (hK02.trans (Kept.of_below hb3 fun b hb => hS2.lt b (.inl hb)))
       clear hrow2 hS2 hK02 hb3 e0 hfit4
       go_wp2_with fail
       go_roundw
       case rel => exact ⟨n + 1, s4, es, A, c, rfl, by go_num, by omega, by omega, hstep2, hrow3, hS3, hK3, hroom4, hsd4, hfit⟩
       case measure => simp [intOf]; omega
     ·obtain rfl : n = 2 := by omega
      have hI2 : cs ++ I.1 = es ∧ I.2 = s3 := by
       have := hI.out
       rw [show 2 - 2 = 0 from rfl] at this
       unfold hearIn at this
       dsimp only at this
       rw [List.append_nil] at this
       exact Prod.mk.inj this
      have hH2 : Hid (H = (es ++ (hearFrom s3 (d + 1) (dl - (d + 1))).1, (hearFrom s3 (d + 1) (dl - (d + 1))).2)) := Lib.hid (by
       rw [hstep.out, ← hI2.1, ← hI2.2, List.append_assoc])
      clear hI hstep hI2
      go_wp2_with fail
      go_roundw
      case rel => exact ⟨d + 1, s3, es, A, c, rfl, by go_num, by omega, by omega, hH2, hrow, hS, hK, hroom, hsd, hfit⟩
      case measure => simp [intOf]; omega
   ·obtain rfl : d = dl := by omega
    have hH2 : H = (cs, s') := by
     rw [hH.out, Nat.sub_self]
     unfold hearFrom
     rw [List.append_nil]
    have hrd := ownsRow_rd hrow.out (by rw [cellsS_len]; omega)
    have hnw := newest_any A cs.length c cs wr hrd rfl (by omega)
    have hT2 : T = if cs = [] then (8, s', volBuild s noSup) else
      (if buildOk s' (cs.getD (newestTo cs cs.length) noSup) then
       (if (tellFrom s' (volBuild s' (cs.getD (newestTo cs cs.length) noSup)) 0 s'.disks.length).1 = 0 then volRecover (tellFrom s' (volBuild s' (cs.getD (newestTo cs cs.length) noSup)) 0 s'.disks.length).2.1 (tellFrom s' (volBuild s' (cs.getD (newestTo cs cs.length) noSup)) 0 s'.disks.length).2.2 else tellFrom s' (volBuild s' (cs.getD (newestTo cs cs.length) noSup)) 0 s'.disks.length)
      else (8, s', volBuild s noSup)) := by rw [hT.out, hH2]
    replace hT2 := Lib.hid hT2
    clear hT hH hH2 hdl1
    by_cases hcs : cs = []
    ·subst hcs
     have hfin : ∀ w2, Below wr.heap.size wr w2 → MakePost X g w T (.returned (.tuple #[.pointer none, .int .i64 8])) w2 := fun w2 hb2 => by
      rw [hT2.out, if_pos rfl]
      exact ⟨fun h => absurd h (show ¬ (8 : Int) = 0 by decide), fun _ => ⟨rfl, (hS.out.below hb2).mono fun b hb => .inl hb⟩, hK.out.trans (Kept.of_below hb2 fun b hb => hS.out.lt b (.inl hb))⟩
     replace hfin := Lib.hid hfin
     rw [List.length_nil] at hnw
     clear hT2 hrow hS hK hrd hfit
     go_wp2_with fail
     with_reducible refine hnw.mono ?_
     rintro e w2 ⟨rfl, hb2⟩
     replace hfin := Lib.hid (hfin.out w2 hb2)
     clear hnw
     go_wp2_with fail
     go_ret2
     exact hfin.out
    ·replace hT2 := Lib.hid (hT2.out.trans (if_neg hcs))
     have hpos : 0 < cs.length := List.length_pos_iff.2 hcs
     obtain ⟨k, hk⟩ : ∃ k, k = newestTo cs cs.length := ⟨_, rfl⟩
     have hkl : k < cs.length := by have := (newestTo_spec cs cs.length).1; omega
     obtain ⟨x, hx⟩ : ∃ x, x = cs.getD k noSup := ⟨_, rfl⟩
     have hxe : cs[k] = x := by rw [hx, List.getD_eq_getElem?_getD, List.getElem?_eq_getElem hkl, Option.getD_some]
     have hxf : FitS d x := hfit.out x (by rw [← hxe]; exact List.getElem_mem hkl)
     rw [← hk, ← hx] at hT2
     rw [← hk, decide_eq_true hpos] at hnw
     obtain ⟨A', c', hv, _, hform⟩ := ownsRow_form hrow.out
     injection hv with hv1 _ hv3
     subst hv1
     subst hv3
     obtain ⟨ad, rfl⟩ := hrd.some_ (i := 0) (by rw [cellsS_len]; omega)
     obtain ⟨ab, rfl, _, _⟩ := hform ad rfl
     have hcells : Hid (∀ w2, Below wr.heap.size wr w2 → _) := Lib.hid fun w2 hb2 => sups_cell (hrd.below hb2) k hkl
     simp only [hxe, Nat.zero_add] at hcells
     obtain ⟨hxr, hxs⟩ := hxf
     obtain ⟨r1, r2, r3, r4, r5, r6, r7, r8, r9, r10, r11, r12, r13, r14, r15, r16, r17⟩ := of_decide_eq_true hxr
     have hS' := hS.out.mono (Y := X) fun b hb => .inl hb
     have hdl' : s'.disks.length = d := by rw [hsd.out.1]; exact hdl.out.symm
     clear hx hxe hk hcs hrow hS hfit hrd hxr hform
     cases hbo : buildOk s' x with
     | false =>
      rw [hbo] at hT2
      have hbd := Lib.hid fun w2 (hb2 : Below wr.heap.size wr w2) => ra_build_bad (hS'.below hb2) x (by omega) (by omega) hbo
      have hfin : ∀ w2 w3, Below wr.heap.size wr w2 → Below w2.heap.size w2 w3 → MakePost X g w T (.returned (.tuple #[.pointer none, .int .i64 8])) w3 := fun w2 w3 hb2 hb3 => by
       rw [hT2.out, if_neg Bool.false_ne_true]
       have hb := below_to hb2 hb3
       exact ⟨fun h => absurd h (show ¬ (8 : Int) = 0 by decide), fun _ => ⟨rfl, hS'.below hb⟩, hK.out.trans (Kept.of_below hb hS'.lt)⟩
      replace hfin := Lib.hid hfin
      clear hT2 hK hS' hbo
      obtain ⟨x0, x1, x2, x3, x4, x5, x6, x7⟩ := x
      dsimp only at hcells hbd
      go_wp2_with fail
      with_reducible refine hnw.mono ?_
      rintro e w2 ⟨rfl, hb2⟩
      obtain ⟨d0, d1, d2, d3, d4, d5, d6, d7⟩ := hcells.out w2 hb2
      replace hbd := hbd.out w2 hb2
      replace hfin := Lib.hid fun w3 => hfin.out w2 w3 hb2
      clear hnw hcells hb2
      go_wp2_with fail
      with_reducible refine hbd.mono ?_
      rintro e w3 ⟨rfl, hb3⟩
      replace hfin := Lib.hid (hfin.out w3 hb3)
      clear hbd
      go_wp2_with fail
      go_ret2
      exact hfin.out
     | true =>
      rw [hbo] at hT2
      replace hT2 := Lib.hid (hT2.out.trans (if_pos rfl))
      have hok : VolOk s' (volBuild s' x) := buildOk_vol hbo r5 (by omega) (by omega) r2 r11 r12 r13 r14 r15 r16 r17 (fun h => by
       obtain ⟨_, _, _, _, _, _, hm, _⟩ := of_decide_eq_true hbo
       rcases hm with hm | hm
       ·exact absurd ⟨h, by rw [← hdl']; exact hm⟩ hxs
       ·exact hm)
      have hbd := Lib.hid fun w2 (hb2 : Below wr.heap.size wr w2) => ra_build (hS'.below hb2) x hbo hok
      have hKb := Lib.hid fun w2 w3 (hb2 : Below wr.heap.size wr w2) (hb3 : Below w2.heap.size w2 w3) => hK.out.trans (Kept.of_below (below_to hb2 hb3) hS'.lt)
      obtain ⟨V0, hV0⟩ : ∃ V0, V0 = volBuild s' x := ⟨_, rfl⟩
      have hsupx : Hid (V0.sup = x) := Lib.hid (by rw [hV0]; rfl)
      have hVl : Hid (d = V0.devs.length) := Lib.hid (by rw [hV0, ← hdl']; simp [volBuild, devsOf])
      rw [← hV0, hdl'] at hT2
      rw [← hV0] at hbd
      obtain ⟨Q, hQ⟩ : ∃ Q, Q = tellFrom s' V0 0 d := ⟨_, rfl⟩
      rw [← hQ] at hT2
      have hQ0 : Hid (Q = tellFrom s' V0 0 (d - 0)) := Lib.hid hQ
      clear hQ hV0 hK hS' hbo hok hxs
      obtain ⟨x0, x1, x2, x3, x4, x5, x6, x7⟩ := x
      dsimp only at hcells hbd r1 r2
      unfold BuildPost at hbd
      clear r3 r4 r5 r6 r7 r8 r9 r10 r11 r12 r13 r14 r15 r16 r17
      go_wp2_with fail
      with_reducible refine hnw.mono ?_
      rintro e w2 ⟨rfl, hb2⟩
      obtain ⟨d0, d1, d2, d3, d4, d5, d6, d7⟩ := hcells.out w2 hb2
      replace hbd := hbd.out w2 hb2
      replace hKb := Lib.hid fun w3 => hKb.out w2 w3 hb2
      clear hnw hcells hb2
      go_wp2_with fail
      with_reducible refine hbd.mono ?_
      rintro e w3 ⟨F, rfl, rfl, hV3, hb3⟩
      have hK3 := Lib.hid (hKb.out w3 hb3)
      replace hV3 := Lib.hid hV3
      have hvlt := hV3.out.vlt
      clear hbd hKb hb3 d0 d1 d2 d3 d4 d5 d6 d7
      have hgn : ∃ gn : Nat, gn < 2 ∧ (x0 % 2 = (gn : Int)) ∧ gn = (x0 % 2).toNat := ⟨(x0 % 2).toNat, by omega, by omega, rfl⟩
      obtain ⟨gn, hgn2, hgnI, hgnN⟩ := hgn
      have hslot := fun W => slot_any x0 W
      simp only [and_one_i64 x0 (show -9223372036854775808 ≤ x0 by omega) (show x0 ≤ 9223372036854775807 by omega), hgnI] at hslot
      replace hgnI := Lib.hid hgnI
      replace hgnN := Lib.hid hgnN
      replace hslot := Lib.hid hslot
      go_wp2_with fail
      go_loopw [68] (fun q wr => ∃ (i : Nat) (s' : ShM) (V' : VolM), q = .int .i64 i ∧ i ≤ d ∧ Hid (d = V'.devs.length) ∧ Hid (V'.sup = ⟨x0, x1, x2, x3, x4, x5, x6, x7⟩) ∧ Hid (Q = tellFrom s' V' i (d - i)) ∧ Hid (VolX X F wr s' V') ∧ Hid (Kept X w wr) ∧ Hid (Room (999999800000 + 8 * i) s'))
       (fun q _ => d - (intOf q).toNat)
      case atStart => exact ⟨0, s', V0, by go_num, by omega, hVl, hsupx, hQ0, hV3, hK3, Lib.hid (hroom.out.mono (by omega))⟩
      case round =>
       clear hQ0 hV3 hK3 hroom hvlt hVl hsupx
       obtain ⟨i, s5, V5, rfl, hi, hVl, hsup, hQ, hV, hK, hroom⟩ := hrel
       by_cases hid : i < d
       ·have hil : i < V5.devs.length := by rw [← hVl.out]; exact hid
        have c0 := hV.out.c 0
        simp only [volR, hsup.out] at c0
        have hvlt := hV.out.vlt
        have hi9 : i < s5.disks.length := by rw [hV.out.ok.slen]; exact hil
        have hhd := ra_heard hV.out.sh (hroom.out.mono (by omega)) i hi9 gn hgn2
        have hstep : Hid (Q = _) := Lib.hid (hQ.out.trans (by rw [show d - i = (d - (i + 1)) + 1 by omega, tellFrom_step, hsup.out, ← hgnN.out]))
        have hkept := heardR_kept s5 i gn
        have hroom6 := Lib.hid (heardR_room hroom.out i gn)
        generalize heardR s5 i gn = r at *
        obtain ⟨y, er, s6⟩ := r
        unfold HeardPost at hhd
        dsimp only at hhd hstep hkept hroom6
        have hok6 : VolOk s6 V5 := hV.out.ok.same (by rw [hkept.1]) hkept.2
        have hslw := hslot.out wr
        clear hQ hi9 hkept hroom
        go_wp2_with fail
        with_reducible refine hslw.mono ?_
        rintro e wx ⟨rfl, rfl⟩
        clear hslw
        go_wp2_with fail
        with_reducible refine hhd.mono ?_
        rintro e w5 ⟨rfl, hS5, hK5⟩
        have hV5 := hV.out.rows (Y := X) hS5 hV.out.out (fun b hm => hK5.block b (.inr hm)) hok6
        have hK05 := hK.out.trans (hK5.mono fun b hb => .inl hb)
        have hb6 := below_made' w5 (.cells #[.int .i64 y.gen, .int .i64 y.members, .int .i64 y.disk, .int .i64 y.stripes, .int .i64 y.logs, .int .i64 y.spare, .int .i64 y.mark, .int .i64 y.cursor] 53)
        have hbx := heap_alloc_new w5 (.cells #[.int .i64 y.gen, .int .i64 y.members, .int .i64 y.disk, .int .i64 y.stripes, .int .i64 y.logs, .int .i64 y.spare, .int .i64 y.mark, .int .i64 y.cursor] 53)
        have hV6 := hV5.below hb6
        have hK6 := hK05.trans (Kept.of_below hb6 hV5.lt)
        clear hhd hS5 hK5 hV5 hK05 hb6 hV hK c0 hok6
        have e0 := hV6.c 0
        have e1 := hV6.c 1
        have e2 := hV6.c 2
        have e3 := hV6.c 3
        have e4 := hV6.c 4
        have e5 := hV6.c 5
        have e6 := hV6.c 6
        have e7 := hV6.c 7
        simp only [volR, hsup.out] at e0 e1 e2 e3 e4 e5 e6 e7
        obtain ⟨d0, d1, d2, d3, d4, d5, d6, d7, df⟩ := row8_cells _ _ _ _ _ _ _ _ _ _ _ hbx
        have hblt := lt_of_row hbx
        have hvlt6 := hV6.vlt
        obtain ⟨B, hB⟩ : ∃ B, B = decide (er = 4 ∨ (er = 0 ∧ alikeB y ⟨x0, x1, x2, x3, x4, x5, x6, x7⟩ = true)) := ⟨_, rfl⟩
        replace hB := Lib.hid hB
        obtain ⟨W6, hW6⟩ : ∃ W6, W6 = w5.alloc (.cells #[.int .i64 y.gen, .int .i64 y.members, .int .i64 y.disk, .int .i64 y.stripes, .int .i64 y.logs, .int .i64 y.spare, .int .i64 y.mark, .int .i64 y.cursor] 53) := ⟨_, rfl⟩
        rw [← hW6] at hV6 hK6 e0 e1 e2 e3 e4 e5 e6 e7 d0 d1 d2 d3 d4 d5 d6 d7 df hblt hvlt6 hbx
        replace hV6 := Lib.hid hV6
        replace hK6 := Lib.hid hK6
        clear hbx
        go_upto_region 26 with (fail)
        rw [← hW6]
        clear hW6
        go_cut [96] (fun c wc => c = .bool B ∧ Hid (VolX X F wc s6 V5) ∧ Hid (Kept X w wc))
        case first =>
         have hdr : ∀ n, Hid (VolX X F (W6.drewN n) s6 V5) ∧ Hid (Kept X w (W6.drewN n)) := fun n => by
          have hb := below_drewN (Below.refl W6.heap.size W6) n
          exact ⟨Lib.hid (hV6.out.below hb), Lib.hid (hK6.out.trans (Kept.of_below hb hV6.out.lt))⟩
         by_cases q4 : er = 4
         ·subst q4
          have hBv : B = true := by rw [hB.out]; simp
          replace hdr := Lib.hid hdr
          clear hB hV6 hK6 hstep
          go_quiet (fail)
          go_wp2_with fail
          go_meet
          exact ⟨by rw [hBv], (hdr.out _).1, (hdr.out _).2⟩
         ·have b4 : (er == 4) = false := by rw [beq_eq_false_iff_ne]; exact q4
          by_cases q0 : er = 0
          ·subst q0
           have hBv : B = alikeB y ⟨x0, x1, x2, x3, x4, x5, x6, x7⟩ := by rw [hB.out]; simp
           have hal := fun W => alike_any y ⟨x0, x1, x2, x3, x4, x5, x6, x7⟩ W
           unfold alikeB at hBv
           dsimp only at hBv hal
           rw [← hBv] at hal
           have hSk : ∀ W, Below W6.heap.size W6 W → (Hid (VolX X F W s6 V5) ∧ Hid (Kept X w W)) ∧ (W.cell? ⟨w5.heap.size, 0, none⟩ = some (.int .i64 y.gen) ∧ W.cell? ⟨w5.heap.size, 1, none⟩ = some (.int .i64 y.members) ∧ W.cell? ⟨w5.heap.size, 2, none⟩ = some (.int .i64 y.disk) ∧ W.cell? ⟨w5.heap.size, 3, none⟩ = some (.int .i64 y.stripes) ∧ W.cell? ⟨w5.heap.size, 4, none⟩ = some (.int .i64 y.logs) ∧ W.cell? ⟨w5.heap.size, 5, none⟩ = some (.int .i64 y.spare) ∧ W.cell? ⟨w5.heap.size, 6, none⟩ = some (.int .i64 y.mark) ∧ W.cell? ⟨w5.heap.size, 7, none⟩ = some (.int .i64 y.cursor) ∧
             W.cell? ⟨F.v, 0, none⟩ = some (.int .i64 x0) ∧ W.cell? ⟨F.v, 1, none⟩ = some (.int .i64 x1) ∧ W.cell? ⟨F.v, 2, none⟩ = some (.int .i64 x2) ∧ W.cell? ⟨F.v, 3, none⟩ = some (.int .i64 x3) ∧ W.cell? ⟨F.v, 4, none⟩ = some (.int .i64 x4) ∧ W.cell? ⟨F.v, 5, none⟩ = some (.int .i64 x5) ∧ W.cell? ⟨F.v, 6, none⟩ = some (.int .i64 x6) ∧ W.cell? ⟨F.v, 7, none⟩ = some (.int .i64 x7)) := fun W hb =>
            ⟨⟨Lib.hid (hV6.out.below hb), Lib.hid (hK6.out.trans (Kept.of_below hb hV6.out.lt))⟩, (hb.cell hblt).trans d0, (hb.cell hblt).trans d1, (hb.cell hblt).trans d2, (hb.cell hblt).trans d3, (hb.cell hblt).trans d4, (hb.cell hblt).trans d5, (hb.cell hblt).trans d6, (hb.cell hblt).trans d7, (hb.cell hvlt6).trans e0, (hb.cell hvlt6).trans e1, (hb.cell hvlt6).trans e2, (hb.cell hvlt6).trans e3, (hb.cell hvlt6).trans e4, (hb.cell hvlt6).trans e5, (hb.cell hvlt6).trans e6, (hb.cell hvlt6).trans e7⟩
           replace hSk := Lib.hid hSk
           replace hal := Lib.hid hal
           replace hBv := Lib.hid hBv
           clear hB hV6 hK6 hstep hdr q4
           refine wp_region_held_drew (S := (fun W => W.cell? ⟨w5.heap.size, 0, none⟩ = some (.int .i64 y.gen) ∧ W.cell? ⟨w5.heap.size, 1, none⟩ = some (.int .i64 y.members) ∧ W.cell? ⟨w5.heap.size, 2, none⟩ = some (.int .i64 y.disk) ∧ W.cell? ⟨w5.heap.size, 3, none⟩ = some (.int .i64 y.stripes) ∧ W.cell? ⟨w5.heap.size, 4, none⟩ = some (.int .i64 y.logs) ∧ W.cell? ⟨w5.heap.size, 5, none⟩ = some (.int .i64 y.spare) ∧ W.cell? ⟨w5.heap.size, 6, none⟩ = some (.int .i64 y.mark) ∧ W.cell? ⟨w5.heap.size, 7, none⟩ = some (.int .i64 y.cursor) ∧ W.cell? ⟨F.v, 0, none⟩ = some (.int .i64 x0) ∧ W.cell? ⟨F.v, 1, none⟩ = some (.int .i64 x1) ∧ W.cell? ⟨F.v, 2, none⟩ = some (.int .i64 x2) ∧ W.cell? ⟨F.v, 3, none⟩ = some (.int .i64 x3) ∧ W.cell? ⟨F.v, 4, none⟩ = some (.int .i64 x4) ∧ W.cell? ⟨F.v, 5, none⟩ = some (.int .i64 x5) ∧ W.cell? ⟨F.v, 6, none⟩ = some (.int .i64 x6) ∧ W.cell? ⟨F.v, 7, none⟩ = some (.int .i64 x7))) (by kernel_rfl) ?_ (fun hHeld => ?_)
           ·(try dsimp only)
            exact (hSk.out _ (Below.refl _ _)).2
           refine tkA 0 ?_
           refine tkA 1 ?_
           refine tkA 2 ?_
           refine tkA 3 ?_
           refine tkA 4 ?_
           refine tkA 5 ?_
           refine tkA 6 ?_
           refine tkA 7 ?_
           refine tkA 8 ?_
           refine tkA 9 ?_
           refine tkA 10 ?_
           refine rkA 11 (fun K hK => ?_)
           go_simp
           refine (hal.out _).mono ?_
           rintro e w7 ⟨rfl, hb7⟩
           obtain ⟨hVK7, hS7⟩ := hSk.out w7 ((Below.refl W6.heap.size W6).drew.trans hb7)
           (try go_wp2_with fail)
           refine hK.out _ _ ?_ (fun hHeld2 => ?_)
           ·(try dsimp only)
            first | exact hHeld | exact hS7
           clear hK K
           replace hHeld := hHeld2
           clear hHeld2
           (try simp only [pA, pN, pB, pC, pD])
           refine tkA 12 ?_
           refine tkA 13 ?_
           refine wpAnyH_done (by kernel_rfl) ?_ _
           go_wp2_with fail
           go_meet
           exact ⟨rfl, hVK7.1, hVK7.2⟩
          ·have b0 : (er == 0) = false := by rw [beq_eq_false_iff_ne]; exact q0
           have hBv : B = false := by rw [hB.out]; simp [q4, q0]
           replace hdr := Lib.hid hdr
           clear hB hV6 hK6 hstep q4 q0
           go_quiet (fail)
           go_wp2_with fail
           go_meet
           exact ⟨by rw [hBv], (hdr.out _).1, (hdr.out _).2⟩
        case rest =>
         obtain ⟨rfl, hV7, hK7⟩ := hcut
         clear hV6 hK6 e0 e1 e2 e3 e4 e5 e6 e7 d0 d1 d2 d3 d4 d5 d6 d7 df hblt hvlt6 hvlt
         cases hBv : B with
         | true =>
          have hq := of_decide_eq_true (hB.out.symm.trans hBv)
          have hQ2 := Lib.hid (hstep.out.trans (if_pos hq))
          clear hstep hq hB hBv
          go_wp2_with fail
          go_roundw
          case rel => exact ⟨i + 1, s6, V5, by go_num, by omega, hVl, hsup, hQ2, hV7, hK7, Lib.hid (hroom6.out.mono (by omega))⟩
          case measure => simp [intOf]; omega
         | false =>
          have hq := of_decide_eq_false (hB.out.symm.trans hBv)
          replace hstep := Lib.hid (hstep.out.trans (if_neg hq))
          have e0 := hV7.out.c 0
          have e1 := hV7.out.c 1
          have e2 := hV7.out.c 2
          have e3 := hV7.out.c 3
          have e4 := hV7.out.c 4
          have e5 := hV7.out.c 5
          have e6 := hV7.out.c 6
          have e7 := hV7.out.c 7
          simp only [volR, hsup.out] at e0 e1 e2 e3 e4 e5 e6 e7
          have hvlt7 := hV7.out.vlt
          have hsy := ra_say hV7.out (hroom6.out.mono (by omega)) i hil ⟨x0, x1, x2, x3, x4, x5, x6, x7⟩ (show -9223372036854775808 ≤ x0 by omega) (show x0 ≤ 9223372036854775807 by omega)
          have hrm := Lib.hid (room_say hroom6.out V5 i ⟨x0, x1, x2, x3, x4, x5, x6, x7⟩)
          have hs9 := volSay_sup (s := s6) (V := V5) i ⟨x0, x1, x2, x3, x4, x5, x6, x7⟩
          have hl9 := volSay_len (s := s6) (V := V5) i ⟨x0, x1, x2, x3, x4, x5, x6, x7⟩
          generalize volSay s6 V5 i ⟨x0, x1, x2, x3, x4, x5, x6, x7⟩ = z at *
          obtain ⟨ez, s9, V9⟩ := z
          dsimp only at hsy hrm hs9 hl9 hstep
          have hVl9 : Hid (d = V9.devs.length) := Lib.hid (hVl.out.trans hl9.symm)
          have hsup9 : Hid (V9.sup = ⟨x0, x1, x2, x3, x4, x5, x6, x7⟩) := Lib.hid (hs9.trans hsup.out)
          clear hq hB hBv hroom6 hs9 hl9 hV7
          go_wp2_with fail
          with_reducible refine hsy.mono ?_
          rintro e w8 ⟨rfl, hV8, hK8⟩
          dsimp only at hV8
          have hK08 := hK7.out.trans hK8
          clear hsy hK7 hK8 e0 e1 e2 e3 e4 e5 e6 e7 hvlt7
          by_cases z0 : ez = 0
          ·subst z0
           have hQ2 := Lib.hid (hstep.out.trans (if_pos (.inl rfl)))
           replace hV8 := Lib.hid hV8
           replace hK08 := Lib.hid hK08
           clear hstep
           go_wp2_with fail
           go_roundw
           case rel => exact ⟨i + 1, s9, V9, by go_num, by omega, hVl9, hsup9, hQ2, hV8, hK08, Lib.hid (hrm.out.mono (by omega))⟩
           case measure => simp [intOf]; omega
          ·have b0 : (ez != 0) = true := by rw [bne_iff_ne]; exact z0
           by_cases z4 : ez = 4
           ·subst z4
            have hQ2 := Lib.hid (hstep.out.trans (if_pos (.inr rfl)))
            replace hV8 := Lib.hid hV8
            replace hK08 := Lib.hid hK08
            clear hstep z0 b0
            go_wp2_with fail
            go_roundw
            case rel => exact ⟨i + 1, s9, V9, by go_num, by omega, hVl9, hsup9, hQ2, hV8, hK08, Lib.hid (hrm.out.mono (by omega))⟩
            case measure => simp [intOf]; omega
           ·have b4 : (ez != 4) = true := by rw [bne_iff_ne]; exact z4
            have hQ2 : Q = (ez, s9, V9) := hstep.out.trans (if_neg (by rintro (h | h); exact z0 h; exact z4 h))
            have hfin : MakePost X F.g w T (.returned (.tuple #[.pointer none, .int .i64 ez])) w8 := by
             rw [hT2.out, hQ2, if_neg z0]
             exact ⟨fun h => absurd h z0, fun _ => ⟨rfl, hV8.shelf⟩, hK08⟩
            replace hfin := Lib.hid hfin
            clear hstep hQ2 hV8 hK08 hT2 z0 z4
            go_wp2_with fail
            go_ret2
            exact hfin.out
       ·obtain rfl : i = d := by omega
        have hQ1 : Q = (0, s5, V5) := by
         rw [hQ.out, Nat.sub_self]
         rfl
        have hT5 : T = volRecover s5 V5 := by rw [hT2.out, hQ1]; exact if_pos rfl
        have hrc := ra_recover hV.out (hroom.out.mono (by omega))
        rw [← hT5] at hrc
        have hfin0 : ∀ w8, PutPost_ X F wr T (.returned (.int .i64 T.1)) w8 → T.1 = 0 → MakePost X F.g w T (.returned (.tuple #[.pointer (some ⟨F.v, 0, none⟩), .int .i64 0])) w8 := fun w8 hp h0 =>
         ⟨fun _ => ⟨F, rfl, rfl, hp.2.1⟩, fun hn => absurd h0 hn, hK.out.trans hp.2.2⟩
        have hfin1 : ∀ w8, PutPost_ X F wr T (.returned (.int .i64 T.1)) w8 → T.1 ≠ 0 → MakePost X F.g w T (.returned (.tuple #[.pointer none, .int .i64 T.1])) w8 := fun w8 hp h0 =>
         ⟨fun h => absurd h h0, fun _ => ⟨rfl, hp.2.1.shelf⟩, hK.out.trans hp.2.2⟩
        replace hfin0 := Lib.hid hfin0
        replace hfin1 := Lib.hid hfin1
        clear hQ hQ1 hV hK hT2 hT5 hroom hslot hgnI hgnN
        go_wp2_with fail
        with_reducible refine hrc.mono ?_
        rintro e w8 hp8
        have hp9 := hp8
        obtain ⟨rfl, _, _⟩ := hp8
        generalize hte : T.1 = te at *
        by_cases t0 : te = 0
        ·subst t0
         replace hfin0 := Lib.hid (hfin0.out w8 hp9 rfl)
         clear hfin1 hp9 hrc hte
         go_wp2_with fail
         go_ret2
         exact hfin0.out
        ·have b0 : (te != 0) = true := by rw [bne_iff_ne]; exact t0
         replace hfin1 := Lib.hid (hfin1.out w8 hp9 t0)
         clear hfin0 hp9 hrc hte t0
         go_wp2_with fail
         go_ret2
         exact hfin1.out
end
end
end Go.Proofs.Ytajnlhalanhicaa

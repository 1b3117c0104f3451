/-
 THE WALKS over package ppl: may, Encode.
-/
import Derived.Test.YtajnlhalanhicaaHeldTail
import Derived.Test.YtajnlhalanhicaaPpM
import Derived.Test.YtajnlhalanhicaaMemW
import Derived.Test.YtajnlhalanhicaaOct
import Derived.Test.YtajnlhalanhicaaSupX
import Derived.StillTailTactics
namespace Go.Proofs.Ytajnlhalanhicaa
set_option linter.all false
set_option maxRecDepth 20000
open Go.RowKit
def recV (r : Rec) (A : Option Addr) (c : Nat) : Value := .agg #[.int .i64 r.stripe, .int .i64 r.place, .slice A r.part.length c]
set_option maxRecDepth 100000 in
set_option maxHeartbeats 2000000 in
theorem pp_may (st pl : Int) (part : List UInt8) (A : Option Addr) (L c : Nat) (w : World) (hL : part.length = L) :
    Calls Try.prog 103 #[.agg #[.int .i64 st, .int .i64 pl, .slice A L c]] w fun e w' => e = .returned (.bool (mayB ⟨st, pl, part⟩)) ∧ Below w.heap.size w w' := by
  obtain ⟨r, hr⟩ : ∃ r, r = mayB ⟨st, pl, part⟩ := ⟨_, rfl⟩
  rw [← hr]
  have HR : Hid (r = decide (MayP ⟨st, pl, part⟩)) := hr
  have HL := Lib.hid hL
  clear hr hL
  go_enter Try.func103, Try.ntmps103
  go_wp2
  all_goals
    first
    | (have e : r = false := by
         have hL := HL.out
         rw [HR.out, decide_eq_false_iff_not]
         unfold MayP
         simp only
         omega
       subst e
       go_ret
       exact ⟨rfl, (Below.refl _ _).alloc (Nat.le_refl _) _⟩)
    | (have e : r = true := by
         have hL := HL.out
         rw [HR.out, decide_eq_true_eq]
         unfold MayP
         simp only
         omega
       subst e
       go_ret
       exact ⟨rfl, (Below.refl _ _).alloc (Nat.le_refl _) _⟩)
    | (have e : r = (((L : Nat) : Int) == 128) := by
         have hL := HL.out
         rw [HR.out, Bool.eq_iff_iff, decide_eq_true_eq, beq_iff_eq]
         unfold MayP
         simp only
         omega
       subst e
       go_ret
       exact ⟨rfl, (Below.refl _ _).alloc (Nat.le_refl _) _⟩)
def HeadPost (w : World) (r : Rec) (e : Ending) (w' : World) : Prop :=
 ∃ A c, e = .returned (.tuple #[.slice A (hdL r).length c, .int .i64 (hdE r)]) ∧ Own w' 5 w.heap.size (.slice A (hdL r).length c) (hdL r) ∧ Below w.heap.size w w'
set_option maxRecDepth 100000 in
set_option maxHeartbeats 2000000 in
theorem pp_enc_bad (r : Rec) (A : Option Addr) (c : Nat) (w : World) (h : mayB r = false) :
  Calls Try.prog 97 #[recV r A c] w fun e w' => e = .returned (.tuple #[.slice none 0 0, .int .i64 1]) ∧ Below w.heap.size w w' := by
 obtain ⟨st, pl, part⟩ := r
 unfold recV
 have hct : Hid (∀ W, _) := Lib.hid fun W => pp_may st pl part A part.length c W rfl
 rw [h] at hct
 clear h
 generalize part.length = L at *
 go_enter Try.func97, Try.ntmps97
 go_wp2_with fail
 refine (hct.out _).mono ?_
 rintro e w1 ⟨rfl, hb⟩
 go_wp2_with fail
 go_ret2
 exact ⟨rfl, ((Below.refl _ _).alloc (Nat.le_refl _) _).trans (hb.mono (by simp))⟩
theorem made_sec : ∀ W : World, (Instr.makeSlice 32 (.int .i64 0) (.int .i64 128)).run Try.prog W = .ok (.slice (some ⟨W.heap.size, 0, none⟩) 0 128) (W.alloc (.cells (bVs (List.replicate 128 0)).toArray 5)) := by
 obtain ⟨i0, hi0, hz0, hz1, hz2⟩ := info_parts Try.infoU8
 intro W
 have h := run_make (P := Try.prog) (w := W) 32 5 i0 (.int .u8 0) Try.underlying32 hi0 hz0 .i64 .i64 0 128 (by omega) (by omega) (by rw [hz2]; omega) (by omega)
 simp only [hz1] at h
 rw [h]
 have e1 : madeCells (Value.int .u8 0).cells ((128 : Int).toNat * 1) = (bVs (List.replicate 128 0)).toArray := by
  apply Array.toList_inj.1
  show (madeCells #[Value.int IntKind.u8 0] 128).toList = _
  rw [toList_madeCells_one]
  simp [bVs, bV]
 rw [e1]
 rfl
theorem pix0 (x0 x1 x2 : Int) : ∀ w, (Instr.index 175 (.agg #[.int .u64 x0, .int .u64 x1, .int .u64 x2]) (.int .i64 0)).run Try.prog w = .ok (.int .u64 x0) w := fun _ => by kernel_rfl
theorem pix1 (x0 x1 x2 : Int) : ∀ w, (Instr.index 175 (.agg #[.int .u64 x0, .int .u64 x1, .int .u64 x2]) (.int .i64 1)).run Try.prog w = .ok (.int .u64 x1) w := fun _ => by kernel_rfl
theorem pix2 (x0 x1 x2 : Int) : ∀ w, (Instr.index 175 (.agg #[.int .u64 x0, .int .u64 x1, .int .u64 x2]) (.int .i64 2)).run Try.prog w = .ok (.int .u64 x2) w := fun _ => by kernel_rfl
theorem u64_small (x : Nat) (h : x < 4294967296) : IntKind.u64.wrap (x : Int) = (x : Int) := by
 have : IntKind.u64.wrap (x : Int) = (x : Int) % 18446744073709551616 := by simp [IntKind.wrap, IntKind.bits, IntKind.signed]
 rw [this]
 omega
set_option maxRecDepth 100000 in
set_option maxHeartbeats 4000000 in
theorem pp_enc_ok (st pl : Nat) (part : List UInt8) (A : Option Addr) (c : Nat) (w : World) (hst : st < 1024) (hpl : pl < 15) (hL : part.length = 128) (hr : Rd w A part) :
  Calls Try.prog 97 #[.agg #[.int .i64 (st : Int), .int .i64 (pl : Int), .slice A 128 c]] w fun e w' => ∃ A c, e = .returned (.tuple #[.slice A 128 c, .int .i64 0]) ∧ Own w' 5 w.heap.size (.slice A 128 c) (hdBytes ⟨(st : Int), (pl : Int), part⟩) ∧ Below w.heap.size w w' := by
 have hct : Hid (∀ W, _) := Lib.hid fun W => pp_may st pl part A 128 c W hL
 rw [show mayB ⟨(st : Int), (pl : Int), part⟩ = true from decide_eq_true ⟨by show (0 : Int) ≤ st; omega, by show (st : Int) < 1024; omega, by show (0 : Int) ≤ pl; omega, by show (pl : Int) < 15; omega, hL⟩] at hct
 obtain ⟨r, hR⟩ : ∃ r : Rec, r = ⟨(st : Int), (pl : Int), part⟩ := ⟨_, rfl⟩
 rw [← hR]
 have hf : fieldsP r = [st, pl, crc 0 part] := by rw [hR]; rfl
 replace hR := Lib.hid hR
 obtain ⟨z0, hz0⟩ : ∃ z : List UInt8, z = List.replicate 128 0 := ⟨_, rfl⟩
 have hmk := made_sec
 rw [← hz0] at hmk
 have hzp : z0 = padL [] 128 := by rw [hz0]; rfl
 have hzl : z0.length = 128 := by rw [hz0]; simp
 clear hz0
 replace hzl := Lib.hid hzl
 replace hzp := Lib.hid hzp
 replace hf := Lib.hid hf
 replace hL := Lib.hid hL
 replace hr := Lib.hid hr
 go_enter Try.func97, Try.ntmps97
 go_wp2_with fail
 refine (hct.out _).mono ?_
 rintro e w1 ⟨rfl, hb⟩
 have hbox1 : w1.heap[w.heap.size]? = some (.cells #[.int .i64 (st : Int), .int .i64 (pl : Int), .slice A 128 c] 150) := (hb.block _ (by simp)).trans (heap_alloc_new _ _)
 have hB1 := ((Below.refl w.heap.size w).alloc (Nat.le_refl _) _).trans (hb.mono (by simp))
 clear hb hct
 obtain ⟨w2, hap, hr2, hb2, hk2⟩ := ex_append_in_str (P := Try.prog) (w1.alloc (.cells (bVs z0).toArray 5)) 32 9 32 5 Try.underlying32 Try.underlying9 Try.infoU8 w1.heap.size 0 128 z0 magicP (RowB.made _ _ _) hzl.out (by decide) w1.heap.size (Nat.le_refl _)
 replace hap : (Builtin.append_ #[32, 9] 32 #[.slice (some ⟨w1.heap.size, 0, none⟩) 0 128, .string ⟨#[80, 65, 82, 84]⟩]).run Try.prog (w1.alloc (.cells (bVs z0).toArray 5)) = .ok (.slice (some ⟨w1.heap.size, 0, none⟩) 4 128) w2 := hap
 have hr3 : RowB w2 w1.heap.size 5 (padL (preP r 0) 128) := by
  have e : padL (preP r 0) 128 = putB z0 0 magicP := by rw [hzp.out]; rfl
  rw [e]
  exact hr2
 have hbw : w.heap.size ≤ w1.heap.size := hB1.size
 have hB2 := (hB1.trans ((below_made' w1 _).mono hbw)).trans (hb2.mono hbw)
 have hbox2 : w2.heap[w.heap.size]? = some (.cells #[.int .i64 (st : Int), .int .i64 (pl : Int), .slice A 128 c] 150) := (hk2 _ (by have := lt_of_row hbox1; omega)).trans (hrow_keep hbox1 (below_made' _ _))
 have c0 := cell_of_row w2 _ 0 _ _ _ hbox2
 have c1 := cell_of_row w2 _ 1 _ _ _ hbox2
 have c2 := cell_of_row w2 _ 2 _ _ _ hbox2
 simp at c0 c1 c2
 have hws := u64_small st (by omega)
 have hwp := u64_small pl (by omega)
 have hcl : crc 0 part < 4294967296 := crc_lt _ _
 have hrd2 : Rd w2 A part := hr.out.below hB2
 have hcrc : Hid (∀ W, Below w2.heap.size w2 W → _) := Lib.hid fun W hW => crc_any A 128 c part 0 W (hrd2.below hW) hL.out (by omega)
 obtain ⟨cc, hcc⟩ : ∃ cc, cc = crc 0 part := ⟨_, rfl⟩
 rw [← hcc] at hcl hcrc hf
 have hwc := u64_small cc hcl
 clear hr2 hb2 hk2 hbox1 hB1 hrd2 hcc
 have hlt2 := lt_of_row hbox2
 clear hbox2
 have hS : Hid (∀ W, Below w2.heap.size w2 W → (W.cell? ⟨w.heap.size, 0, none⟩ = some (.int .i64 (st : Int)) ∧ W.cell? ⟨w.heap.size, 1, none⟩ = some (.int .i64 (pl : Int)) ∧ W.cell? ⟨w.heap.size, 2, none⟩ = some (.slice A 128 c)) ∧ Below w2.heap.size w2 W) := Lib.hid fun W hW =>
  ⟨⟨(hW.cell hlt2).trans c0, (hW.cell hlt2).trans c1, (hW.cell hlt2).trans c2⟩, hW⟩
 go_wp2_with (at_builtin; refine wpList_append_run (by with_reducible rfl) _ _ _ (by with_reducible rfl) hap (by rfl) (by rfl) ?_)
 clear hap
 generalize w1.heap.size = gb at *
 refine wp_region_held_drew (S := (fun W => (W.cell? ⟨w.heap.size, 0, none⟩ = some (.int .i64 (st : Int)) ∧ W.cell? ⟨w.heap.size, 1, none⟩ = some (.int .i64 (pl : Int)) ∧ W.cell? ⟨w.heap.size, 2, none⟩ = some (.slice A 128 c)) ∧ Below w2.heap.size w2 W)) (by kernel_rfl) ?_ (fun hHeld => ?_)
 ·(try dsimp only)
  exact hS.out _ (Below.refl _ _).drew
 refine tkA 0 ?_
 refine tkA 1 ?_
 refine tkA 2 ?_
 refine tkA 3 ?_
 refine tkA 4 ?_
 refine tkA 5 ?_
 refine tkA 6 ?_
 refine tkA 7 ?_
 refine tkA 11 ?_
 refine rkA 8 (fun K hK => ?_)
 go_simp
 refine (hcrc.out _ hHeld.2).mono ?_
 rintro e wx ⟨rfl, hb9⟩
 have hB9 := hHeld.2.trans (hb9.mono hHeld.2.size)
 (try go_wp2_with fail)
 refine hK.out _ _ ?_ (fun hHeld2 => ?_)
 ·(try dsimp only)
  first | exact hHeld | exact hS.out _ hB9
 clear hK K
 replace hHeld := hHeld2
 clear hHeld2
 (try simp only [pA, pN, pB, pC, pD])
 refine tkA 9 ?_
 refine tkA 10 ?_
 refine wpAnyH_done (by kernel_rfl) ?_ _
 have hr3' := hr3.keep hHeld.2
 have hB3 := hB2.trans (hHeld.2.mono hB2.size)
 replace hr3 := hr3'
 clear hr3' hHeld hS hcrc hB2 c0 c1 c2
 go_wp2_with fail
 refine wp_loop_rounds 4 ?_
 have i0 := pix0 (st : Int) (pl : Int) (cc : Int)
 have i1 := pix1 (st : Int) (pl : Int) (cc : Int)
 have i2 := pix2 (st : Int) (pl : Int) (cc : Int)
 rw [rounds_succ]
 go_wp2_with fail
 refine (put_ok st 4 wx (by omega) (by omega) (by omega)).mono ?_
 rintro e wa ⟨A1, c1, rfl, ho1, hb1⟩
 have hrw := hr3.keep hb1
 have hBa := hB3.trans (hb1.mono hB3.size)
 obtain ⟨w4, hap, hrx, hb2, hk2⟩ := ex_append_in_rd (P := Try.prog) wa 32 32 5 Try.underlying32 Try.infoU8 gb 4 128 (padL (preP r 0) 128) (leBytes st 4) A1 4 c1 hrw ho1.rd (leBytes_len 4 st) (padL_len _ _ (by rw [preP_len r 0 (by omega)]; omega)) (by omega) w.heap.size hbw
 have hr4 : RowB w4 gb 5 (padL (preP r 1) 128) := by
  have e : putB (padL (preP r 0) 128) 4 (leBytes st 4) = padL (preP r 1) 128 := by
   rw [preP_succ r 0 st (by rw [hf.out]; rfl), ← padL_put _ _ _ (by rw [preP_len r 0 (by omega), leBytes_len]; omega), preP_len r 0 (by omega)]
   rfl
  rw [← e]
  exact hrx
 have hB4 := hBa.trans hb2
 clear hrx hb2 hk2 hrw hBa ho1 hb1 hr3 hB3
 go_wp2_with (at_builtin; refine wpList_append_run (by with_reducible rfl) _ _ _ (by with_reducible rfl) hap (by rfl) (by rfl) ?_)
 clear hap
 rw [rounds_succ]
 go_wp2_with fail
 refine (put_ok pl 4 w4 (by omega) (by omega) (by omega)).mono ?_
 rintro e wa ⟨A1, c1, rfl, ho1, hb1⟩
 have hrw := hr4.keep hb1
 have hBa := hB4.trans (hb1.mono hB4.size)
 obtain ⟨w5, hap, hrx, hb2, hk2⟩ := ex_append_in_rd (P := Try.prog) wa 32 32 5 Try.underlying32 Try.infoU8 gb 8 128 (padL (preP r 1) 128) (leBytes pl 4) A1 4 c1 hrw ho1.rd (leBytes_len 4 pl) (padL_len _ _ (by rw [preP_len r 1 (by omega)]; omega)) (by omega) w.heap.size hbw
 have hr5 : RowB w5 gb 5 (padL (preP r 2) 128) := by
  have e : putB (padL (preP r 1) 128) 8 (leBytes pl 4) = padL (preP r 2) 128 := by
   rw [preP_succ r 1 pl (by rw [hf.out]; rfl), ← padL_put _ _ _ (by rw [preP_len r 1 (by omega), leBytes_len]; omega), preP_len r 1 (by omega)]
   rfl
  rw [← e]
  exact hrx
 have hB5 := hBa.trans hb2
 clear hrx hb2 hk2 hrw hBa ho1 hb1 hr4 hB4
 go_wp2_with (at_builtin; refine wpList_append_run (by with_reducible rfl) _ _ _ (by with_reducible rfl) hap (by rfl) (by rfl) ?_)
 clear hap
 rw [rounds_succ]
 go_wp2_with fail
 refine (put_ok cc 4 w5 (by omega) (by omega) (by omega)).mono ?_
 rintro e wa ⟨A1, c1, rfl, ho1, hb1⟩
 have hrw := hr5.keep hb1
 have hBa := hB5.trans (hb1.mono hB5.size)
 obtain ⟨w6, hap, hrx, hb2, hk2⟩ := ex_append_in_rd (P := Try.prog) wa 32 32 5 Try.underlying32 Try.infoU8 gb 12 128 (padL (preP r 2) 128) (leBytes cc 4) A1 4 c1 hrw ho1.rd (leBytes_len 4 cc) (padL_len _ _ (by rw [preP_len r 2 (by omega)]; omega)) (by omega) w.heap.size hbw
 have hr6 : RowB w6 gb 5 (padL (preP r 3) 128) := by
  have e : putB (padL (preP r 2) 128) 12 (leBytes cc 4) = padL (preP r 3) 128 := by
   rw [preP_succ r 2 cc (by rw [hf.out]; rfl), ← padL_put _ _ _ (by rw [preP_len r 2 (by omega), leBytes_len]; omega), preP_len r 2 (by omega)]
   rfl
  rw [← e]
  exact hrx
 have hB6 := hBa.trans hb2
 clear hrx hb2 hk2 hrw hBa ho1 hb1 hr5 hB5
 go_wp2_with (at_builtin; refine wpList_append_run (by with_reducible rfl) _ _ _ (by with_reducible rfl) hap (by rfl) (by rfl) ?_)
 clear hap
 rw [rounds_succ]
 have hbl : (padL (preP r 3) 128).length = 128 := padL_len _ _ (by rw [preP_len r 3 (by omega)]; omega)
 obtain ⟨w7, hap, hrx, hb2, _⟩ := ex_append_in_zeros (P := Try.prog) w6 32 3 32 5 .i64 Try.underlying32 Try.underlying3 Try.infoU8 gb 16 108 128 (padL (preP r 3) 128) hr6 hbl (by omega) (by omega) (by omega) w.heap.size hbw
 have hr7 : RowB w7 gb 5 (padL (preP r 3) 128) := by
  have e : putB (padL (preP r 3) 128) 16 (List.replicate 108 0) = padL (preP r 3) 128 := by
   have h1 := padL_put (preP r 3) (List.replicate 108 0) 128 (by rw [preP_len r 3 (by omega)]; simp)
   rw [preP_len r 3 (by omega)] at h1
   unfold putB
   rw [h1]
   unfold padL
   rw [List.append_assoc, List.replicate_append_replicate, List.length_append, preP_len r 3 (by omega), List.length_replicate]
  rw [← e]
  exact hrx
 have hB7 := hB6.trans hb2
 have hbody : (padL (preP r 3) 128).take 124 = bodyP r := by
  unfold bodyP padL
  rw [List.take_append, List.take_of_length_le (by rw [preP_len r 3 (by omega)]; omega), preP_len r 3 (by omega)]
  simp
 have hbody2 : putB (padL (preP r 3) 128) 124 (leBytes (crc 0 (bodyP r)) 4) = hdBytes r := by
  unfold putB hdBytes
  rw [hbody, leBytes_len, List.drop_of_length_le (by omega), List.append_nil]
 clear hrx hb2 hr6 hB6
 have hr7d : Rd w7 (some ⟨gb, 0, none⟩) (bodyP r) := by rw [← hbody]; exact hr7.rd0 124 (by omega) (by omega)
 replace hbody := Lib.hid hbody
 replace hbody2 := Lib.hid hbody2
 replace hbl := Lib.hid hbl
 go_wp2_with (at_builtin; refine wpList_append_run (by with_reducible rfl) _ _ _ (by with_reducible rfl) hap (by rfl) (by rfl) ?_)
 clear hap
 refine (crc_any (some ⟨gb, 0, none⟩) 124 128 (bodyP r) 0 w7 hr7d (bodyP_len r) (by omega)).mono ?_
 rintro e w8 ⟨rfl, hb8⟩
 have hr8 := hr7.keep hb8
 have hB8 := hB7.trans (hb8.mono hB7.size)
 have hcl8 : crc 0 (bodyP r) < 4294967296 := crc_lt _ _
 obtain ⟨c8, hc8⟩ : ∃ c8, c8 = crc 0 (bodyP r) := ⟨_, rfl⟩
 simp only [← hc8] at hcl8 hbody2 ⊢
 clear hc8 hr7d hr7 hB7 hb8
 have hw8 := u64_small c8 hcl8
 go_wp2_with fail
 refine (put_ok c8 4 w8 (by omega) (by omega) (by omega)).mono ?_
 rintro e w9 ⟨A9, c9, rfl, ho9, hb9⟩
 have hr9 := hr8.keep hb9
 have hB9 := hB8.trans (hb9.mono hB8.size)
 obtain ⟨wz, hap, hrz, hbz, _⟩ := ex_append_in_rd (P := Try.prog) w9 32 32 5 Try.underlying32 Try.infoU8 gb 124 128 (padL (preP r 3) 128) (leBytes c8 4) A9 4 c9 hr9 ho9.rd (leBytes_len 4 c8) hbl.out (by omega) w.heap.size hbw
 rw [hbody2.out] at hrz
 have hBz := hB9.trans hbz
 clear hbz hr9 hr8 ho9 hb9 hB8 hB9
 go_wp2_with (at_builtin; refine wpList_append_run (by with_reducible rfl) _ _ _ (by with_reducible rfl) hap (by rfl) (by rfl) ?_)
 go_ret2
 exact ⟨_, _, rfl, hrz.own w.heap.size 128 hbw (hdBytes_len r) (by omega), hBz⟩
theorem pp_enc (r : Rec) (A : Option Addr) (L c : Nat) (w : World) (hL : r.part.length = L) (hr : Rd w A r.part) :
  Calls Try.prog 97 #[.agg #[.int .i64 r.stripe, .int .i64 r.place, .slice A L c]] w (HeadPost w r) := by
 subst hL
 cases h : mayB r with
 | true =>
  obtain ⟨h1, h2, h3, h4, h5⟩ := of_decide_eq_true h
  obtain ⟨st, pl, part⟩ := r
  dsimp only at h1 h2 h3 h4 h5 hr ⊢
  obtain ⟨sn, rfl⟩ := Int.eq_ofNat_of_zero_le h1
  obtain ⟨pn, rfl⟩ := Int.eq_ofNat_of_zero_le h3
  rw [h5]
  refine (pp_enc_ok sn pn part A c w (by omega) (by omega) h5 hr).mono ?_
  rintro e w' ⟨A', c', rfl, hown, hb⟩
  unfold HeadPost hdL hdE
  rw [h]
  simp only [if_true, hdBytes_len]
  exact ⟨A', c', rfl, hown, hb⟩
 | false =>
  refine (pp_enc_bad r A c w h).mono ?_
  rintro e w' ⟨rfl, hb⟩
  unfold HeadPost hdL hdE
  rw [h]
  exact ⟨none, 0, rfl, own_nil _ _ _, hb⟩
end Go.Proofs.Ytajnlhalanhicaa

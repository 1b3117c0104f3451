/-
  THE WALKS over the reference of ppl: May, four, Encode, Same.
-/
import Derived.Test.YtibpmiapcihkfaaPpB
import Derived.Test.YtibpmiapcihkfaaSupR
import Derived.Test.YtibpmiapcihkfaaSuI
import Derived.Test.YtibpmiapcihkfaaOct
import Derived.Lib.SlBytesConst
namespace Go.Proofs.Ytibpmiapcihkfaa
set_option linter.all false
open Go.RowKit

set_option maxRecDepth 100000 in
set_option maxHeartbeats 2000000 in
theorem rpp_may (st pl : Int) (part : List UInt8) (A : Option Addr) (L c : Nat) (w : World) (hL : part.length = L) :
    Calls Try.prog 16 #[.agg #[.int .i64 st, .int .i64 pl, .slice A L c]] w fun e w' => e = .returned (.bool (mayB ⟨st, pl, part⟩)) ∧ Below w.heap.size w w' := by
  obtain ⟨r, hr⟩ : ∃ r, r = mayB ⟨st, pl, part⟩ := ⟨_, rfl⟩
  rw [← hr]
  have HR : Hid (r = decide (MayP ⟨st, pl, part⟩)) := hr
  have HL := Lib.hid hL
  clear hr hL
  go_enter Try.func16, Try.ntmps16
  go_wp2
  all_goals
    first
    | (have e : r = false := by
         have hL := HL.out
         rw [HR.out, decide_eq_false_iff_not]
         unfold MayP
         simp only
         omega
       subst e
       go_ret
       exact ⟨rfl, (Below.refl _ _).alloc (Nat.le_refl _) _⟩)
    | (have e : r = (((L : Nat) : Int) == 128) := by
         have hL := HL.out
         rw [HR.out, Bool.eq_iff_iff, decide_eq_true_eq, beq_iff_eq]
         unfold MayP
         simp only
         omega
       subst e
       go_ret
       exact ⟨rfl, (Below.refl _ _).alloc (Nat.le_refl _) _⟩)
theorem rpp_four (x : Int) (w : World) : Calls Try.prog 34 #[.int .i64 x] w fun e w' => ∃ A c, e = .returned (.slice A 4 c) ∧ Own w' 5 w.heap.size (.slice A 4 c) (leBytes (u32I x) 4) ∧ Below w.heap.size w w' := by
  have w1 := u32_wrap x
  have w3 := u64_u32 _ (u32I_lt x)
  have p1 := rput_all (u32I x) 4 w (by have := u32I_lt x; omega) (by omega) (by omega)
  have hlt := Lib.hid (u32I_lt x)
  rw [show ((4 : Nat) : Int) = 4 from rfl] at p1
  go_enter Try.func34, Try.ntmps34
  go_wp2_with fail
  refine p1.mono ?_
  rintro e w' ⟨hb, _, h2⟩
  obtain ⟨A, c, rfl, ho⟩ := h2 hlt.out
  go_wp2
  go_ret
  exact ⟨A, c, rfl, ho, hb⟩
theorem rpp_fourN (x : Nat) (hx : x < 4294967296) (w : World) : Calls Try.prog 34 #[.int .i64 (x : Int)] w fun e w' => ∃ A c, e = .returned (.slice A 4 c) ∧ Own w' 5 w.heap.size (.slice A 4 c) (leBytes x 4) ∧ Below w.heap.size w w' := by
  have h := rpp_four (x : Int) w
  have e : u32I (x : Int) = x := by unfold u32I; omega
  rw [e] at h
  exact h
set_option maxRecDepth 100000 in
set_option maxHeartbeats 2000000 in
theorem rpp_enc_bad (r : Rec) (A : Option Addr) (c : Nat) (w : World) (h : mayB r = false) :
    Calls Try.prog 11 #[recV r A c] w fun e w' => e = .returned (.tuple #[.slice none 0 0, .int .i64 1]) ∧ Below w.heap.size w w' := by
  obtain ⟨st, pl, part⟩ := r
  unfold recV
  have hct : Hid (∀ W, _) := Lib.hid fun W => rpp_may st pl part A part.length c W rfl
  rw [h] at hct
  clear h
  generalize part.length = L at *
  go_enter Try.func11, Try.ntmps11
  go_wp2_with fail
  refine (hct.out _).mono ?_
  rintro e w1 ⟨rfl, hb⟩
  go_wp2_with fail
  go_ret2
  exact ⟨rfl, ((Below.refl _ _).alloc (Nat.le_refl _) _).trans (hb.mono (by simp))⟩
set_option maxRecDepth 100000 in
set_option maxHeartbeats 4000000 in
theorem rpp_enc_ok (st pl : Nat) (part : List UInt8) (A : Option Addr) (c : Nat) (w : World) (hst : st < 1024) (hpl : pl < 15) (hL : part.length = 128) (hr : Rd w A part) :
    Calls Try.prog 11 #[.agg #[.int .i64 (st : Int), .int .i64 (pl : Int), .slice A 128 c]] w fun e w' => ∃ A c, e = .returned (.tuple #[.slice A 128 c, .int .i64 0]) ∧ Own w' 5 w.heap.size (.slice A 128 c) (hdBytes ⟨(st : Int), (pl : Int), part⟩) ∧ Below w.heap.size w w' := by
  have hct : Hid (∀ W, _) := Lib.hid fun W => rpp_may st pl part A 128 c W hL
  rw [show mayB ⟨(st : Int), (pl : Int), part⟩ = true from decide_eq_true ⟨by show (0 : Int) ≤ st; omega, by show (st : Int) < 1024; omega, by show (0 : Int) ≤ pl; omega, by show (pl : Int) < 15; omega, hL⟩] at hct
  obtain ⟨r, hR⟩ : ∃ r : Rec, r = ⟨(st : Int), (pl : Int), part⟩ := ⟨_, rfl⟩
  rw [← hR]
  have hf : fieldsP r = [st, pl, crc 0 part] := by rw [hR]; rfl
  clear hR
  replace hf := Lib.hid hf
  replace hL := Lib.hid hL
  replace hr := Lib.hid hr
  go_enter Try.func11, Try.ntmps11
  go_wp2_with fail
  refine (hct.out _).mono ?_
  rintro e w1 ⟨rfl, hb⟩
  have hbox1 : w1.heap[w.heap.size]? = some (.cells #[.int .i64 (st : Int), .int .i64 (pl : Int), .slice A 128 c] 24) := (hb.block _ (by simp)).trans (heap_alloc_new _ _)
  have hB1 := ((Below.refl w.heap.size w).alloc (Nat.le_refl _) _).trans (hb.mono (by simp))
  clear hb hct
  have hcv := fun (w : World) (C : Array Value) (n c : Nat) => Lib.run_convert_bytes_const (P := Try.prog) w 22 5 C n c Try.underlying22 Try.underlying5
  obtain ⟨W0, hW0⟩ : ∃ W0, W0 = w1.alloc (.cells #[.int .u8 80, .int .u8 65, .int .u8 82, .int .u8 84] 5 (4, 5)) := ⟨_, rfl⟩
  have ho0 : Rd W0 (some ⟨w1.heap.size, 0, none⟩) (preP r 0) := by
    rw [hW0]
    exact Rd.litM w1 5 magicP (4, 5) (by decide)
  have hB0 : Below w.heap.size w W0 := by rw [hW0]; exact hB1.trans ((below_made' w1 _).mono hB1.size)
  have hbox0 : W0.heap[w.heap.size]? = some (.cells #[.int .i64 (st : Int), .int .i64 (pl : Int), .slice A 128 c] 24) := by rw [hW0]; exact hrow_keep hbox1 (below_made' _ _)
  have hlt1 := lt_of_row hbox1
  obtain ⟨c0, _, _, _⟩ := row3_cells w1 _ _ _ _ _ hbox1
  clear hbox1 hB1
  go_wp2_with fail
  rw [← hW0]
  clear hcv hW0
  refine (rpp_fourN st (by omega) W0).mono ?_
  rintro e wa ⟨A1, p1, rfl, ho1, hb1⟩
  have hoa := ho0.below hb1
  have hBa := hB0.trans (hb1.mono hB0.size)
  have hboxa := hrow_keep hbox0 hb1
  obtain ⟨a1, rfl⟩ := ho1.rd.some_ (i := 0) (by rw [leBytes_len]; omega)
  clear ho0 hB0 hbox0 hb1 c0
  generalize w1.heap.size = g1 at *
  go_wp2_with (at_builtin; refine wpList_append_full rfl _ _ 22 rfl 5 Try.underlying22 Try.infoU8 ⟨g1, 0, none⟩ a1 (preP r 0) (leBytes st 4) 4 4 p1 rfl rfl hoa (preP_len r 0 (by omega)) ho1.rd (leBytes_len 4 st) (by omega) (by rw [preP_len r 0 (by omega)]; omega) ?_; intro v2 w2 ho2 hb2; rw [← preP_succ r 0 st (by rw [hf.out]; rfl)] at ho2; have hwB := lt_of_row hboxa; have hs2 := hb2.size; have hB2 := hBa.trans (hb2.mono hBa.size); have hbox2 := hrow_keep hboxa hb2; clear hoa ho1 hBa hboxa hb2; obtain ⟨A2, p2, rfl, _, _⟩ := ho2.form; rw [preP_len r 1 (by omega)] at ho2 ⊢; obtain ⟨c0, c1, c2, _⟩ := row3_cells w2 _ _ _ _ _ hbox2)
  generalize wa.heap.size = B at *
  refine (rpp_fourN pl (by omega) w2).mono ?_
  rintro e wb ⟨A3, p3, rfl, ho3, hb3⟩
  have hob := ho2.below hb3
  have hsb := Nat.le_trans hs2 hb3.size
  have hBb := hB2.trans (hb3.mono hB2.size)
  have hboxb := hrow_keep hbox2 hb3
  clear ho2 hB2 hbox2 hb3 hs2 c0 c1 c2
  go_wp2_with (at_builtin; refine wpList_append_rd rfl _ _ 22 rfl B 5 Try.underlying22 Try.infoU8 _ (preP r 1) (leBytes pl 4) A3 4 p3 rfl rfl hob ho3.rd (leBytes_len 4 pl) (by rw [preP_len r 1 (by omega)]; omega) hsb ?_; intro v4 w4 ho4 hg4; rw [← preP_succ r 1 pl (by rw [hf.out]; rfl)] at ho4; have hbx := hob.grow hg4 hsb; have hB4 := hBb.trans (hbx.mono (Nat.le_of_lt hwB)); have hbox4 := (hbx.block _ hwB).trans hboxb; have hs4 := Nat.le_trans hsb hbx.size; clear hob ho3 hBb hboxb hbx hg4 hsb; obtain ⟨A4, p4, rfl, _, _⟩ := ho4.form; rw [preP_len r 2 (by omega)] at ho4 ⊢; obtain ⟨c0, c1, c2, _⟩ := row3_cells w4 _ _ _ _ _ hbox4)
  refine (rcrc_any A 128 c part 0 w4 (hr.out.below hB4) hL.out (by omega)).mono ?_
  rintro e wx ⟨rfl, rfl⟩
  have hcl : crc 0 part < 4294967296 := crc_lt _ _
  obtain ⟨cc, hcc⟩ : ∃ cc, cc = crc 0 part := ⟨_, rfl⟩
  rw [← hcc] at hcl hf ⊢
  have hwc := i64_small cc hcl
  clear hcc
  go_wp2_with fail
  refine (rpp_fourN cc hcl w4).mono ?_
  rintro e wb ⟨A3, p3, rfl, ho3, hb3⟩
  have hob := ho4.below hb3
  have hsb := Nat.le_trans hs4 hb3.size
  have hBb := hB4.trans (hb3.mono hB4.size)
  clear ho4 hB4 hbox4 hb3 hs4 c0 c1 c2 hwc
  go_wp2_with (at_builtin; refine wpList_append_rd rfl _ _ 22 rfl B 5 Try.underlying22 Try.infoU8 _ (preP r 2) (leBytes cc 4) A3 4 p3 rfl rfl hob ho3.rd (leBytes_len 4 cc) (by rw [preP_len r 2 (by omega)]; omega) hsb ?_; intro v5 w5 ho5 hg5; rw [← preP_succ r 2 cc (by rw [hf.out]; rfl)] at ho5; have hbx := hob.grow hg5 hsb; have hB5 := hBb.trans (hbx.mono (Nat.le_of_lt hwB)); replace ho5 := ho5.base_le (Nat.le_of_lt hwB); clear hob ho3 hBb hbx hg5 hsb; obtain ⟨A5, p5, rfl, _, _⟩ := ho5.form; rw [preP_len r 3 (by omega)] at ho5 ⊢)
  have h16 : Own w5 5 w.heap.size (.slice A5 16 p5) (padL (preP r 3) 16) := by
    have e : padL (preP r 3) 16 = preP r 3 := by
      unfold padL
      rw [preP_len r 3 (by omega)]
      simp
    rw [e]
    exact ho5
  have hl3 := preP_len r 3 (by omega)
  clear ho5
  go_wp2_with fail
  go_loopw [4] (fun v wr => ∃ (k : Nat) (A : Option Addr) (c : Nat), 16 ≤ k ∧ k ≤ 124 ∧ v = .slice A k c ∧ Own wr 5 w.heap.size (.slice A k c) (padL (preP r 3) k) ∧ Below w.heap.size w wr) (fun v _ => match v with | .slice _ n _ => 124 - n | _ => 0)
  case atStart => exact ⟨16, A5, p5, by omega, by omega, rfl, h16, hB5⟩
  case round =>
    obtain ⟨k, A, c, hk1, hk2, rfl, hown, hbel⟩ := hrel
    have hlk : (padL (preP r 3) k).length = k := padL_len _ _ (by omega)
    by_cases hlt : k < 124
    · have HLK := Lib.hid hlk
      clear hlk
      go_wp2_with (at_builtin; refine wpList_append_rd rfl _ _ 22 rfl w.heap.size 5 Try.underlying22 Try.infoU8 _ (padL (preP r 3) k) [0] (some ⟨wr.heap.size, 0, none⟩) 1 1 rfl rfl (own_lit hown _) (Rd.lit wr _ [0] (by simp)) rfl (by have := HLK.out; simp; omega) (by have := hbel.size; simp; omega) ?_; intro v1 w1 hown1 hg1)
      have hb1 := (own_lit hown (.cells (bVs [0]).toArray 5)).grow hg1 (by have := hbel.size; simp; omega)
      have hbel1 := (hbel.trans ((below_made' wr (.cells (bVs [0]).toArray 5)).mono hbel.size)).trans hb1
      obtain ⟨A1, c1, rfl, _, _⟩ := hown1.form
      have e1 : padL (preP r 3) k ++ [0] = padL (preP r 3) (k + 1) := by
        unfold padL
        rw [hl3, List.append_assoc]
        have : k + 1 - (4 + 4 * 3) = (k - (4 + 4 * 3)) + 1 := by omega
        rw [this, List.replicate_succ']
      have hlk1 : (padL (preP r 3) (k + 1)).length = k + 1 := padL_len _ _ (by omega)
      rw [e1, hlk1] at hown1
      simp only [e1, hlk1]
      clear e1 hlk1 hown hg1 hb1 hbel
      go_wp2_with fail
      go_roundw
      case rel => exact ⟨k + 1, A1, c1, by omega, by omega, rfl, hown1, hbel1⟩
      case measure => simp; omega
    · have hk : k = 124 := by omega
      subst hk
      have hbl := bodyP_len r
      have hbe : padL (preP r 3) 124 = bodyP r := rfl
      rw [hbe] at hown
      clear hbe hlk
      go_wp2_with fail
      refine (rcrc_any A 124 c (bodyP r) 0 wr hown.rd hbl (by omega)).mono ?_
      rintro e w5 ⟨rfl, rfl⟩
      have hcl : crc 0 (bodyP r) < 4294967296 := crc_lt _ _
      obtain ⟨cc, hcc⟩ : ∃ cc, cc = crc 0 (bodyP r) := ⟨_, rfl⟩
      have HC := Lib.hid hcc
      simp only [← hcc] at hcl ⊢
      clear hcc
      have hwc := i64_small cc hcl
      go_wp2_with fail
      refine (rpp_fourN cc hcl wr).mono ?_
      rintro e w6 ⟨A3, p3, rfl, ho3, hb3⟩
      have hob := hown.below hb3
      have hBb := hbel.trans (hb3.mono hbel.size)
      clear hown hbel hb3
      go_wp2_with (at_builtin; refine wpList_append_rd rfl _ _ 22 rfl w.heap.size 5 Try.underlying22 Try.infoU8 _ (bodyP r) (leBytes cc 4) A3 4 p3 rfl rfl hob ho3.rd (leBytes_len 4 cc) (by rw [hbl]; omega) hBb.size ?_; intro v7 w7 ho7 hg7; rw [HC.out] at ho7; have hB7 := hBb.trans (hob.grow hg7 hBb.size); replace ho7 : Own w7 _ _ _ (hdBytes r) := ho7; clear hob ho3 hBb hg7; obtain ⟨A7, p7, rfl, _, _⟩ := ho7.form; rw [hdBytes_len] at ho7 ⊢)
      go_ret2
      exact ⟨_, _, rfl, ho7, hB7⟩
theorem rpp_enc (r : Rec) (A : Option Addr) (L c : Nat) (w : World) (hL : r.part.length = L) (hr : Rd w A r.part) :
    Calls Try.prog 11 #[.agg #[.int .i64 r.stripe, .int .i64 r.place, .slice A L c]] w (HeadPost w r) := by
  subst hL
  cases h : mayB r with
  | true =>
    obtain ⟨h1, h2, h3, h4, h5⟩ := of_decide_eq_true h
    obtain ⟨st, pl, part⟩ := r
    dsimp only at h1 h2 h3 h4 h5 hr ⊢
    obtain ⟨sn, rfl⟩ := Int.eq_ofNat_of_zero_le h1
    obtain ⟨pn, rfl⟩ := Int.eq_ofNat_of_zero_le h3
    rw [h5]
    refine (rpp_enc_ok sn pn part A c w (by omega) (by omega) h5 hr).mono ?_
    rintro e w' ⟨A', c', rfl, hown, hb⟩
    unfold HeadPost hdL hdE
    rw [h]
    simp only [if_true, hdBytes_len]
    exact ⟨A', c', rfl, hown, hb⟩
  | false =>
    refine (rpp_enc_bad r A c w h).mono ?_
    rintro e w' ⟨rfl, hb⟩
    unfold HeadPost hdL hdE
    rw [h]
    exact ⟨none, 0, rfl, own_nil _ _ _, hb⟩
end Go.Proofs.Ytibpmiapcihkfaa

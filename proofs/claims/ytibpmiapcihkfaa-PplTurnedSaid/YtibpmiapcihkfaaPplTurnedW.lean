/-
  THE WALK of PplTurned.
-/
import Derived.Test.YtibpmiapcihkfaaPpQ
import Derived.Test.YtibpmiapcihkfaaPplCodesW
import Derived.Test.YtibpmiapcihkfaaSuJ
namespace Go.Proofs.Ytibpmiapcihkfaa
set_option linter.all false
open Go.RowKit

set_option maxRecDepth 100000 in
set_option maxHeartbeats 4000000 in
theorem turn_bad (st pl : Int) (part : List UInt8) (A : Option Addr) (n c : Nat) (at_ : Int) (x : UInt8) (w : World) (hr : Rd w A part) (hn : part.length = n) (hm : mayB ⟨st, pl, part⟩ = false) :
    Calls Try.prog 5 #[.agg #[.int .i64 st, .int .i64 pl, .slice A n c], .int .i64 at_, .int .u8 (x.toNat : Int)] w fun e w' => e = .returned (.bool true) ∧ Below w.heap.size w w' := by
  have henc : Hid (∀ W, Rd W A part → _) := Lib.hid fun W hW => pp_enc ⟨st, pl, part⟩ A n c W hn hW
  unfold HeadPost hdL hdE at henc
  rw [hm] at henc
  simp only [Bool.false_eq_true, if_false] at henc
  have hr1 := hr.alloc (.cells #[.int .i64 st, .int .i64 pl, .slice A n c] 24)
  have hb0 := Lib.hid (below_made' w (.cells #[.int .i64 st, .int .i64 pl, .slice A n c] 24))
  clear hm hn hr
  go_enter Try.func5, Try.ntmps5
  go_wp2_with fail
  refine (henc.out _ hr1).mono ?_
  rintro e w1 ⟨A1, c1, rfl, _, hb1⟩
  go_wp2_with fail
  refine (lives07 w1).mono ?_
  rintro e w2 ⟨rfl, hb2⟩
  have hB := below_to hb0.out (below_to hb1 hb2)
  clear henc hb1 hb2 hb0
  go_wp2
  go_ret
  exact ⟨by simp, hB⟩
set_option maxRecDepth 100000 in
set_option maxHeartbeats 4000000 in
theorem turn_out (st pl : Int) (part : List UInt8) (A : Option Addr) (c : Nat) (at_ : Int) (x : UInt8) (w : World) (hr : Rd w A part) (hn : part.length = 128) (hm : mayB ⟨st, pl, part⟩ = true)
    (hx : (x.toNat : Int) = 0 ∨ (¬ (x.toNat : Int) = 0 ∧ at_ < 0) ∨ (¬ (x.toNat : Int) = 0 ∧ 0 ≤ at_ ∧ 255 < at_)) :
    Calls Try.prog 5 #[.agg #[.int .i64 st, .int .i64 pl, .slice A 128 c], .int .i64 at_, .int .u8 (x.toNat : Int)] w fun e w' => e = .returned (.bool true) ∧ Below w.heap.size w w' := by
  have henc : Hid (∀ W, Rd W A part → _) := Lib.hid fun W hW => pp_enc ⟨st, pl, part⟩ A 128 c W hn hW
  unfold HeadPost hdL hdE at henc
  rw [hm] at henc
  simp only [if_true, hdBytes_len] at henc
  have hr1 := hr.alloc (.cells #[.int .i64 st, .int .i64 pl, .slice A 128 c] 24)
  have hb0 := Lib.hid (below_made' w (.cells #[.int .i64 st, .int .i64 pl, .slice A 128 c] 24))
  clear hm hn hr
  generalize (x.toNat : Int) = xi at *
  go_enter Try.func5, Try.ntmps5
  go_wp2_with fail
  refine (henc.out _ hr1).mono ?_
  rintro e w1 ⟨A1, c1, rfl, _, hb1⟩
  go_wp2_with fail
  refine (lives07 w1).mono ?_
  rintro e w2 ⟨rfl, hb2⟩
  have hB := below_to hb0.out (below_to hb1 hb2)
  clear henc hb1 hb2 hb0 hr1
  rcases hx with rfl | ⟨hx, hx2⟩ | ⟨hx, hx2, hx3⟩
  · go_wp2
    go_ret
    exact ⟨by simp, hB⟩
  · have hxb : (xi == 0) = false := by rw [beq_eq_false_iff_ne]; exact hx
    go_wp2
    go_ret
    exact ⟨by simp, hB⟩
  · have hxb : (xi == 0) = false := by rw [beq_eq_false_iff_ne]; exact hx
    go_wp2
    go_ret
    exact ⟨by simp, hB⟩
set_option maxRecDepth 100000 in
set_option maxHeartbeats 4000000 in
theorem turn_head (st pl : Int) (part : List UInt8) (A : Option Addr) (c : Nat) (i : Nat) (x : UInt8) (w : World) (hr : Rd w A part) (hn : part.length = 128) (hm : mayB ⟨st, pl, part⟩ = true) (hi : i < 128) (hx : x ≠ 0) :
    Calls Try.prog 5 #[.agg #[.int .i64 st, .int .i64 pl, .slice A 128 c], .int .i64 (i : Int), .int .u8 (x.toNat : Int)] w fun e w' => e = .returned (.bool true) ∧ Below w.heap.size w w' := by
  have henc : Hid (∀ W, Rd W A part → _) := Lib.hid fun W hW => pp_enc ⟨st, pl, part⟩ A 128 c W hn hW
  unfold HeadPost hdL hdE at henc
  rw [hm] at henc
  simp only [if_true, hdBytes_len] at henc
  have hxb : ((x.toNat : Int) == 0) = false := by
    rw [beq_eq_false_iff_ne]
    intro e
    exact hx (UInt8.toNat_inj.1 (by show x.toNat = 0; omega))
  obtain ⟨hd, hhd⟩ : ∃ hd, hd = hdBytes ⟨st, pl, part⟩ := ⟨_, rfl⟩
  have hdl : hd.length = 128 := by rw [hhd]; exact hdBytes_len _
  have hxor : ∀ b : UInt8, b ^^^ x ≠ b := fun b e => hx (by
    have h : b ^^^ (b ^^^ x) = b ^^^ b := by rw [e]
    rw [← UInt8.xor_assoc, UInt8.xor_self, UInt8.zero_xor] at h
    exact h)
  have hk : decOKP (hd.set i (hd[i]'(by omega) ^^^ x)) part = false := by
    subst hhd
    exact head_turned ⟨st, pl, part⟩ i hi _ (hxor _) part
  have hdec : Hid (∀ (W : World) (A : Option Addr) (d : Nat) (B : Option Addr) (e : Nat), Rd W A (hd.set i (hd[i]'(by omega) ^^^ x)) → Rd W B part → _) := Lib.hid fun W A d B e h1 h2 => pp_dec A B 128 d 128 e (hd.set i (hd[i]'(by omega) ^^^ x)) part W (by rw [List.length_set]; exact hdl) h1 hn h2 (by omega)
  unfold DecRPost at hdec
  rw [decR_bad hk, decEP_bad hk, show noRec.stripe = 0 from rfl, show noRec.place = 0 from rfl, show noRec.part = [] from rfl] at hdec
  rw [← hhd] at henc
  have hr1 := hr.alloc (.cells #[.int .i64 st, .int .i64 pl, .slice A 128 c] 24)
  have hB0 : Hid (∀ W : World, Below (w.alloc (.cells #[.int .i64 st, .int .i64 pl, .slice A 128 c] 24)).heap.size (w.alloc (.cells #[.int .i64 st, .int .i64 pl, .slice A 128 c] 24)) W → Box3 W w.heap.size ⟨st, pl, part⟩ A 128 c ∧ Below w.heap.size w W) := Lib.hid fun W hW => ⟨hrow_keep (heap_alloc_new _ _) hW, below_to (below_made' _ _) hW⟩
  replace hn := Lib.hid hn
  replace hdl := Lib.hid hdl
  replace hr := Lib.hid hr
  replace hx := Lib.hid hx
  clear hm hk hhd hxor
  generalize hxn : (x.toNat : Int) = xi at *
  replace hxn := Lib.hid hxn
  go_enter Try.func5, Try.ntmps5
  go_wp2_with fail
  refine (henc.out _ hr1).mono ?_
  rintro e w1 ⟨A1, c1, rfl, ho1, hb1⟩
  go_wp2_with fail
  refine (lives07 w1).mono ?_
  rintro e w2 ⟨rfl, hb2⟩
  obtain ⟨hbox2, hB⟩ := hB0.out _ (below_to hb1 hb2)
  have ho2 := ho1.below hb2
  obtain ⟨d0, d1, d2, dlt⟩ := hbox2.cells
  dsimp only at d0 d1 d2
  clear henc hb1 hb2 hr1 ho1 hB0
  have hAe : Rd (w2.alloc (.cells #[] 5)) A part := (hr.out.below hB).alloc _
  go_wp2_with (at_builtin; refine wpList_append_rd rfl _ _ 22 rfl w2.heap.size 5 Try.underlying22 Try.infoU8 _ [] part A 128 c rfl rfl (made_empty w2) hAe hn.out (by simp) (by simp) ?_; intro v3 w3 ho3 hg3; rw [List.nil_append] at ho3; have hb3 := copy_grow (v := v3) (bs := part) hg3; clear hg3; obtain ⟨A3, c3, rfl, _, _⟩ := ho3.form; rw [hn.out] at ho3 ⊢; refine Halted.out ?_)
  refine ⟨?_⟩
  have hB3 := hB.trans (hb3.mono hB.size)
  have ho23 := ho2.below hb3
  have hw2 := hB.size
  obtain ⟨g1, rfl, hg1, hg1l, hcells⟩ := ho23.first (by rw [hdl.out]; omega)
  obtain ⟨hv0, hf0⟩ := hcells i (by rw [hdl.out]; exact hi)
  have hg12 : g1 < w2.heap.size := (own_lt ho2 _ rfl).2
  have hg1' : w.heap.size + 1 ≤ g1 := by simpa using hg1
  have hxr : bits .xor .u8 ((hd[i]'(by rw [hdl.out]; exact hi)).toNat : Int) xi = (((hd[i]'(by rw [hdl.out]; exact hi)) ^^^ x).toNat : Int) := by rw [← hxn.out]; exact xor_byte _ _
  have hset := ho23.setB i ((hd[i]'(by rw [hdl.out]; exact hi)) ^^^ x) hdl.out
  have ho33 := ho3.set3_other (q := g1) hg12 i (.int .u8 (((hd[i]'(by rw [hdl.out]; exact hi)) ^^^ x).toNat : Int))
  have hB4 := hB3.setCell (p := ⟨g1, i, none⟩) (by show w.heap.size ≤ g1; have := hB.size; omega) (.int .u8 (((hd[i]'(by rw [hdl.out]; exact hi)) ^^^ x).toNat : Int))
  have hct := fun d e => hdec.out _ _ d _ e hset.rd ho33.rd
  clear hdec hset ho33 ho23 ho3 ho2 hcells hAe hbox2 hb3 d0 d1 d2 hB hB3
  have hi1 : (i : Int) < 128 := by omega
  generalize hd[i]'(by rw [hdl.out]; exact hi) = hb at *
  generalize (hb ^^^ x).toNat = hbx at *
  go_wp2_with fail
  with_reducible refine (hct _ _).mono ?_
  rintro e w5 ⟨A5, c5, rfl, _, hb5⟩
  have hfin := hB4.trans (hb5.mono hB4.size)
  go_wp2
  go_ret
  exact ⟨by simp, hfin.alloc hfin.size _⟩
set_option maxRecDepth 100000 in
set_option maxHeartbeats 4000000 in
theorem turn_part (st pl : Int) (part : List UInt8) (A : Option Addr) (c : Nat) (i : Nat) (x : UInt8) (w : World) (hr : Rd w A part) (hn : part.length = 128) (hm : mayB ⟨st, pl, part⟩ = true) (hi : i < 128) (hx : x ≠ 0) :
    Calls Try.prog 5 #[.agg #[.int .i64 st, .int .i64 pl, .slice A 128 c], .int .i64 ((i + 128 : Nat) : Int), .int .u8 (x.toNat : Int)] w fun e w' => e = .returned (.bool true) ∧ Below w.heap.size w w' := by
  have henc : Hid (∀ W, Rd W A part → _) := Lib.hid fun W hW => pp_enc ⟨st, pl, part⟩ A 128 c W hn hW
  unfold HeadPost hdL hdE at henc
  rw [hm] at henc
  simp only [if_true, hdBytes_len] at henc
  have hxb : ((x.toNat : Int) == 0) = false := by
    rw [beq_eq_false_iff_ne]
    intro e
    exact hx (UInt8.toNat_inj.1 (by show x.toNat = 0; omega))
  obtain ⟨hd, hhd⟩ : ∃ hd, hd = hdBytes ⟨st, pl, part⟩ := ⟨_, rfl⟩
  have hdl : hd.length = 128 := by rw [hhd]; exact hdBytes_len _
  have hxor : ∀ b : UInt8, b ^^^ x ≠ b := fun b e => hx (by
    have h : b ^^^ (b ^^^ x) = b ^^^ b := by rw [e]
    rw [← UInt8.xor_assoc, UInt8.xor_self, UInt8.zero_xor] at h
    exact h)
  have hk : decOKP hd (part.set i (part[i]'(by omega) ^^^ x)) = false := by
    subst hhd
    exact part_turned ⟨st, pl, part⟩ i (by dsimp only; omega) _ (hxor _)
  have hdec : Hid (∀ (W : World) (A : Option Addr) (d : Nat) (B : Option Addr) (e : Nat), Rd W A hd → Rd W B (part.set i (part[i]'(by omega) ^^^ x)) → _) := Lib.hid fun W A d B e h1 h2 => pp_dec A B 128 d 128 e hd (part.set i (part[i]'(by omega) ^^^ x)) W hdl h1 (by rw [List.length_set]; exact hn) h2 (by omega)
  unfold DecRPost at hdec
  rw [decR_bad hk, decEP_bad hk, show noRec.stripe = 0 from rfl, show noRec.place = 0 from rfl, show noRec.part = [] from rfl] at hdec
  rw [← hhd] at henc
  have hr1 := hr.alloc (.cells #[.int .i64 st, .int .i64 pl, .slice A 128 c] 24)
  have hB0 : Hid (∀ W : World, Below (w.alloc (.cells #[.int .i64 st, .int .i64 pl, .slice A 128 c] 24)).heap.size (w.alloc (.cells #[.int .i64 st, .int .i64 pl, .slice A 128 c] 24)) W → Box3 W w.heap.size ⟨st, pl, part⟩ A 128 c ∧ Below w.heap.size w W) := Lib.hid fun W hW => ⟨hrow_keep (heap_alloc_new _ _) hW, below_to (below_made' _ _) hW⟩
  replace hn := Lib.hid hn
  replace hdl := Lib.hid hdl
  replace hr := Lib.hid hr
  replace hx := Lib.hid hx
  clear hm hk hhd hxor
  generalize hxn : (x.toNat : Int) = xi at *
  replace hxn := Lib.hid hxn
  go_enter Try.func5, Try.ntmps5
  go_wp2_with fail
  refine (henc.out _ hr1).mono ?_
  rintro e w1 ⟨A1, c1, rfl, ho1, hb1⟩
  go_wp2_with fail
  refine (lives07 w1).mono ?_
  rintro e w2 ⟨rfl, hb2⟩
  obtain ⟨hbox2, hB⟩ := hB0.out _ (below_to hb1 hb2)
  have ho2 := ho1.below hb2
  obtain ⟨d0, d1, d2, dlt⟩ := hbox2.cells
  dsimp only at d0 d1 d2
  clear henc hb1 hb2 hr1 ho1 hB0
  have hAe : Rd (w2.alloc (.cells #[] 5)) A part := (hr.out.below hB).alloc _
  go_wp2_with (at_builtin; refine wpList_append_rd rfl _ _ 22 rfl w2.heap.size 5 Try.underlying22 Try.infoU8 _ [] part A 128 c rfl rfl (made_empty w2) hAe hn.out (by simp) (by simp) ?_; intro v3 w3 ho3 hg3; rw [List.nil_append] at ho3; have hb3 := copy_grow (v := v3) (bs := part) hg3; clear hg3; obtain ⟨A3, c3, rfl, _, _⟩ := ho3.form; rw [hn.out] at ho3 ⊢; refine Halted.out ?_)
  refine ⟨?_⟩
  have hB3 := hB.trans (hb3.mono hB.size)
  have ho23 := ho2.below hb3
  have hw2 := hB.size
  obtain ⟨g1, rfl, hg1, hg1l, hcells⟩ := ho3.first (by rw [hn.out]; omega)
  obtain ⟨hv0, hf0⟩ := hcells i (by rw [hn.out]; exact hi)
  have hxr : bits .xor .u8 ((part[i]'(by rw [hn.out]; exact hi)).toNat : Int) xi = (((part[i]'(by rw [hn.out]; exact hi)) ^^^ x).toNat : Int) := by rw [← hxn.out]; exact xor_byte _ _
  have hset := ho3.setB i ((part[i]'(by rw [hn.out]; exact hi)) ^^^ x) hn.out
  have ho33 : Own (w3.setCell ⟨g1, i, none⟩ (.int .u8 (((part[i]'(by rw [hn.out]; exact hi)) ^^^ x).toNat : Int))) 5 _ (.slice A1 128 c1) hd := ho23.blk fun b hb => heap_setCell_other w3 ⟨g1, i, none⟩ b _ (fun e => by
    have h1 := (World.ownsRow.lt ho2 b hb).2
    have e' : b = g1 := e
    omega)
  have hB4 := hB3.setCell (p := ⟨g1, i, none⟩) (by show w.heap.size ≤ g1; have := hB.size; omega) (.int .u8 (((part[i]'(by rw [hn.out]; exact hi)) ^^^ x).toNat : Int))
  have hct := fun d e => hdec.out _ _ d _ e ho33.rd hset.rd
  clear hdec hset ho33 ho23 ho3 ho2 hcells hAe hbox2 hb3 d0 d1 d2 hB hB3
  have hi1 : ¬ ((i : Int) + 128 < 128) := by omega
  have hi2 : (i : Int) + 128 - 128 = (i : Int) := by omega
  have hi3 : IntKind.i64.wrap (i : Int) = (i : Int) := IntWalk.i64_in _ (by omega)
  generalize part[i]'(by rw [hn.out]; exact hi) = hb at *
  generalize (hb ^^^ x).toNat = hbx at *
  go_wp2_with fail
  with_reducible refine (hct _ _).mono ?_
  rintro e w5 ⟨A5, c5, rfl, _, hb5⟩
  have hfin := hB4.trans (hb5.mono hB4.size)
  go_wp2
  go_ret
  exact ⟨by simp, hfin.alloc hfin.size _⟩
theorem pplTurned_walk (q : Rec) (A : Option Addr) (n c : Nat) (at_ : Int) (x : UInt8) (w : World) (hr : Rd w A q.part) (hn : q.part.length = n) (_ : ∀ ad, A = some ad → 0 < n → ad.block < w.heap.size) (_ : n ≤ 140737488351232) (_ : -9223372036854775808 ≤ at_) (_ : at_ ≤ 9223372036854775807) :
    Calls Try.prog 5 #[.agg #[.int .i64 q.stripe, .int .i64 q.place, .slice A n c], .int .i64 at_, .int .u8 (x.toNat : Int)] w fun e w' => e = .returned (.bool true) ∧ Below w.heap.size w w' := by
  cases hm : mayB q with
  | false => exact turn_bad q.stripe q.place q.part A n c at_ x w hr hn hm
  | true =>
    have h128 : q.part.length = 128 := (of_decide_eq_true hm).2.2.2.2
    obtain rfl : n = 128 := by omega
    by_cases hx : x = 0
    · exact turn_out q.stripe q.place q.part A c at_ x w hr h128 hm (.inl (by subst hx; rfl))
    · have hx0 : ¬ (x.toNat : Int) = 0 := fun e => hx (UInt8.toNat_inj.1 (by show x.toNat = 0; omega))
      by_cases h1 : at_ < 0
      · exact turn_out q.stripe q.place q.part A c at_ x w hr h128 hm (.inr (.inl ⟨hx0, h1⟩))
      · by_cases h2 : 255 < at_
        · exact turn_out q.stripe q.place q.part A c at_ x w hr h128 hm (.inr (.inr ⟨hx0, by omega, h2⟩))
        · obtain ⟨k, rfl⟩ := Int.eq_ofNat_of_zero_le (show 0 ≤ at_ by omega)
          by_cases h3 : k < 128
          · exact turn_head q.stripe q.place q.part A c k x w hr h128 hm h3 hx
          · obtain ⟨i, rfl⟩ : ∃ i, k = i + 128 := ⟨k - 128, by omega⟩
            exact turn_part q.stripe q.place q.part A c i x w hr h128 hm (by omega) hx
end Go.Proofs.Ytibpmiapcihkfaa

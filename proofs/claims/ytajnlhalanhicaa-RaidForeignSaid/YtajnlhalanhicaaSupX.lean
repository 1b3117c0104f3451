/-
 Several texts of this work in one (merge.py): SupL, SupB, SupC.
-/
import Derived.Test.YtajnlhalanhicaaSupA
import Derived.Test.YtajnlhalanhicaaBase
import Derived.Handy
import Derived.StillTailTactics
namespace Go.Proofs.Ytajnlhalanhicaa
set_option linter.all false
set_option maxRecDepth 20000
section
open Go.RowKit
def layR : Array Value := #[.int .i64 4, .int .i64 8, .int .i64 12, .int .i64 1, .int .i64 13, .int .i64 1, .int .i64 14, .int .i64 1, .int .i64 15, .int .i64 1, .int .i64 16, .int .i64 4, .int .i64 20, .int .i64 4, .int .i64 24, .int .i64 4]
set_option maxHeartbeats 1000000 in
theorem layout_any (w : World) : Calls Try.prog 48 #[] w fun e w' => e = .returned (.agg layR) ∧ Below w.heap.size w w' := by
 go_enter Try.func48, Try.ntmps48
 go_wp2
 go_returns
 exact ⟨rfl, (Below.refl _ _).alloc (Nat.le_refl _) _⟩
end
section
open Go.RowKit
theorem and_255 (p : Int) (h1 : -1 ≤ p) (h2 : p < 256) : bits .and .i64 p 255 = (spareN p : Nat) := by
 show IntKind.i64.wrap ((BitVec.ofInt 64 p &&& BitVec.ofInt 64 255).toNat : Int) = _
 rw [BitVec.toNat_and]
 have e1 : (BitVec.ofInt 64 255).toNat = 2 ^ 8 - 1 := by decide
 rw [e1, Nat.and_two_pow_sub_one_eq_mod, BitVec.toNat_ofInt, IntKind.wrap_i64]
 have e2 : ((p % ((2 ^ 64 : Nat) : Int)).toNat % 2 ^ 8 : Nat) = spareN p := by
  have : ((2 ^ 64 : Nat) : Int) = 18446744073709551616 := by decide
  rw [this]
  unfold spareN
  split <;> omega
 rw [e2]
 have : spareN p < 256 := by unfold spareN; split <;> omega
 omega
theorem ix0 (x0 x1 x2 x3 x4 x5 x6 x7 : Int) : ∀ w, (Instr.index 111 (.agg #[.int .i64 x0, .int .i64 x1, .int .i64 x2, .int .i64 x3, .int .i64 x4, .int .i64 x5, .int .i64 x6, .int .i64 x7]) (.int .i64 0)).run Try.prog w = .ok (.int .i64 x0) w := fun _ => by kernel_rfl
theorem ix1 (x0 x1 x2 x3 x4 x5 x6 x7 : Int) : ∀ w, (Instr.index 111 (.agg #[.int .i64 x0, .int .i64 x1, .int .i64 x2, .int .i64 x3, .int .i64 x4, .int .i64 x5, .int .i64 x6, .int .i64 x7]) (.int .i64 1)).run Try.prog w = .ok (.int .i64 x1) w := fun _ => by kernel_rfl
theorem ix2 (x0 x1 x2 x3 x4 x5 x6 x7 : Int) : ∀ w, (Instr.index 111 (.agg #[.int .i64 x0, .int .i64 x1, .int .i64 x2, .int .i64 x3, .int .i64 x4, .int .i64 x5, .int .i64 x6, .int .i64 x7]) (.int .i64 2)).run Try.prog w = .ok (.int .i64 x2) w := fun _ => by kernel_rfl
theorem ix3 (x0 x1 x2 x3 x4 x5 x6 x7 : Int) : ∀ w, (Instr.index 111 (.agg #[.int .i64 x0, .int .i64 x1, .int .i64 x2, .int .i64 x3, .int .i64 x4, .int .i64 x5, .int .i64 x6, .int .i64 x7]) (.int .i64 3)).run Try.prog w = .ok (.int .i64 x3) w := fun _ => by kernel_rfl
theorem ix4 (x0 x1 x2 x3 x4 x5 x6 x7 : Int) : ∀ w, (Instr.index 111 (.agg #[.int .i64 x0, .int .i64 x1, .int .i64 x2, .int .i64 x3, .int .i64 x4, .int .i64 x5, .int .i64 x6, .int .i64 x7]) (.int .i64 4)).run Try.prog w = .ok (.int .i64 x4) w := fun _ => by kernel_rfl
theorem ix5 (x0 x1 x2 x3 x4 x5 x6 x7 : Int) : ∀ w, (Instr.index 111 (.agg #[.int .i64 x0, .int .i64 x1, .int .i64 x2, .int .i64 x3, .int .i64 x4, .int .i64 x5, .int .i64 x6, .int .i64 x7]) (.int .i64 5)).run Try.prog w = .ok (.int .i64 x5) w := fun _ => by kernel_rfl
theorem ix6 (x0 x1 x2 x3 x4 x5 x6 x7 : Int) : ∀ w, (Instr.index 111 (.agg #[.int .i64 x0, .int .i64 x1, .int .i64 x2, .int .i64 x3, .int .i64 x4, .int .i64 x5, .int .i64 x6, .int .i64 x7]) (.int .i64 6)).run Try.prog w = .ok (.int .i64 x6) w := fun _ => by kernel_rfl
theorem ix7 (x0 x1 x2 x3 x4 x5 x6 x7 : Int) : ∀ w, (Instr.index 111 (.agg #[.int .i64 x0, .int .i64 x1, .int .i64 x2, .int .i64 x3, .int .i64 x4, .int .i64 x5, .int .i64 x6, .int .i64 x7]) (.int .i64 7)).run Try.prog w = .ok (.int .i64 x7) w := fun _ => by kernel_rfl
theorem field_at (s : Sup) (h : RightP s) (k : Nat) (hk : k < 8) : ∃ x n a : Nat, (fieldsL s)[k]? = some (x, n) ∧ x < 256 ^ n ∧ x < 4611686018427387905 ∧ 1 ≤ n ∧ n ≤ 8 ∧ (preL s k).length = a ∧ a + n ≤ 28 ∧
  layR[k * 2]? = some (.int .i64 a) ∧ layR[k * 2 + 1]? = some (.int .i64 n) ∧
  ∀ w, (Instr.index 111 (.agg #[.int .i64 s.gen, .int .i64 s.members, .int .i64 s.disk, .int .i64 s.logs, .int .i64 (spareN s.spare : Nat), .int .i64 s.stripes, .int .i64 s.mark, .int .i64 s.cursor]) (.int .i64 k)).run Try.prog w = .ok (.int .i64 x) w := by
 have hsp : spareN s.spare < 256 := by unfold RightP at h; unfold spareN; split <;> omega
 unfold RightP at h
 have hl := preL_len s k hk
 obtain ⟨g, m, d, t, l, p, mk, c⟩ := s
 simp only at h hsp hl
 have h8 : k = 0 ∨ k = 1 ∨ k = 2 ∨ k = 3 ∨ k = 4 ∨ k = 5 ∨ k = 6 ∨ k = 7 := by omega
 have e1 := Int.toNat_of_nonneg (show 0 ≤ g by omega)
 have e2 := Int.toNat_of_nonneg (show 0 ≤ m by omega)
 have e3 := Int.toNat_of_nonneg (show 0 ≤ d by omega)
 have e4 := Int.toNat_of_nonneg (show 0 ≤ t by omega)
 have e5 := Int.toNat_of_nonneg (show 0 ≤ l by omega)
 have e6 := Int.toNat_of_nonneg (show 0 ≤ mk by omega)
 have e7 := Int.toNat_of_nonneg (show 0 ≤ c by omega)
 rcases h8 with rfl | rfl | rfl | rfl | rfl | rfl | rfl | rfl
 all_goals
  refine ⟨_, _, _, rfl, ?_, ?_, ?_, ?_, hl, ?_, rfl, rfl, ?_⟩
  ·simp only; omega
  ·simp only; omega
  ·first | omega | decide
  ·first | omega | decide
  ·first | omega | decide
  ·simp only [e1, e2, e3, e4, e5, e6, e7]
   generalize ((spareN p : Nat) : Int) = q
   first | exact ix0 g m d l q t mk c | exact ix1 g m d l q t mk c | exact ix2 g m d l q t mk c | exact ix3 g m d l q t mk c | exact ix4 g m d l q t mk c | exact ix5 g m d l q t mk c | exact ix6 g m d l q t mk c | exact ix7 g m d l q t mk c
end
section
open Go.RowKit
def supE (s : Sup) : Int := if rightB s then 0 else 1
def supL (s : Sup) : List UInt8 := if rightB s then supBytes s else []
def EncPost (w : World) (s : Sup) (e : Ending) (w' : World) : Prop :=
 ∃ A c, e = .returned (.tuple #[.slice A (supL s).length c, .int .i64 (supE s)]) ∧ Own w' 5 w.heap.size (.slice A (supL s).length c) (supL s) ∧ Below w.heap.size w w'
def supR (s : Sup) : Array Value := #[.int .i64 s.gen, .int .i64 s.members, .int .i64 s.disk, .int .i64 s.stripes, .int .i64 s.logs, .int .i64 s.spare, .int .i64 s.mark, .int .i64 s.cursor]
theorem lt_of_row {w : World} {g : Nat} {o : Obj} (h : w.heap[g]? = some o) : g < w.heap.size := by
 rcases Nat.lt_or_ge g w.heap.size with hlt | hge
 ·exact hlt
 ·rw [Array.getElem?_eq_none hge] at h; cases h
theorem heap_alloc_old' (w : World) (o : Obj) (i : Nat) (h : i < w.heap.size) : (w.alloc o).heap[i]? = w.heap[i]? := ((Below.refl _ _).alloc (Nat.le_refl _) o).block i h
theorem below_made' (w : World) (o : Obj) : Below w.heap.size w (w.alloc o) := (Below.refl _ _).alloc (Nat.le_refl _) _
theorem hrow_keep {w w' : World} {g : Nat} {o : Obj} (h : w.heap[g]? = some o) (hb : Below w.heap.size w w') : w'.heap[g]? = some o := (hb.block g (lt_of_row h)).trans h
set_option maxRecDepth 100000 in
set_option maxHeartbeats 2000000 in
theorem enc_bad (s : Sup) (w : World) (h : rightB s = false) :
  Calls Try.prog 17 #[(.agg #[.int .i64 s.gen, .int .i64 s.members, .int .i64 s.disk, .int .i64 s.stripes, .int .i64 s.logs, .int .i64 s.spare, .int .i64 s.mark, .int .i64 s.cursor])] w fun e w' => e = .returned (.tuple #[.slice none 0 0, .int .i64 1]) ∧ Below w.heap.size w w' := by
 have HH := Lib.hid h
 clear h
 go_enter Try.func17, Try.ntmps17
 go_wp2_with fail
 refine (right_any s _).mono ?_
 rintro e w1 ⟨rfl, hb⟩
 have h := HH.out
 generalize rightB s = r at *
 subst h
 go_wp2_with fail
 go_ret2
 exact ⟨rfl, ((Below.refl _ _).alloc (Nat.le_refl _) _).trans (hb.mono (by simp))⟩
set_option maxRecDepth 100000 in
set_option maxHeartbeats 2000000 in
theorem enc_ok (s : Sup) (w : World) (h : rightB s = true) :
  Calls Try.prog 17 #[(.agg #[.int .i64 s.gen, .int .i64 s.members, .int .i64 s.disk, .int .i64 s.stripes, .int .i64 s.logs, .int .i64 s.spare, .int .i64 s.mark, .int .i64 s.cursor])] w fun e w' => ∃ A c, e = .returned (.tuple #[.slice A 128 c, .int .i64 0]) ∧ Own w' 5 w.heap.size (.slice A 128 c) (supBytes s) ∧ Below w.heap.size w w' := by
 have HH := Lib.hid h
 clear h
 obtain ⟨z0, hz0⟩ : ∃ z : List UInt8, z = List.replicate 128 0 := ⟨_, rfl⟩
 have hmk : ∀ w, (Instr.makeSlice 32 (.int .i64 128) (.int .i64 128)).run Try.prog w = .ok (.slice (some ⟨w.heap.size, 0, none⟩) 128 128) (w.alloc (.cells (bVs z0).toArray 5)) := by
  rw [hz0]
  exact run_make_rd (P := Try.prog) 32 5 Try.underlying32 Try.infoU8 .i64 .i64 128 (by omega)
 have HZ := Lib.hid hz0
 clear hz0
 go_enter Try.func17, Try.ntmps17
 go_wp2_with fail
 refine (right_any s _).mono ?_
 rintro e w1 ⟨rfl, hb⟩
 have h := HH.out
 have HR := Lib.hid (of_decide_eq_true h : RightP s)
 generalize rightB s = r at *
 subst h
 clear HH
 have hz1 : z0.length = 128 := by rw [HZ.out]; simp
 have HZ1 := Lib.hid hz1
 have hbw : w.heap.size ≤ w1.heap.size := by have := hb.size; simp at this; omega
 have HB := Lib.hid (((Below.refl w.heap.size w).alloc (Nat.le_refl _) _).trans (hb.mono (by simp)))
 have hbox1 : w1.heap[w.heap.size]? = some (.cells (supR s) 53) := (hb.block _ (by simp)).trans (heap_alloc_new _ _)
 clear hz1 hb
 obtain ⟨w2, hcp, hr2, hb2, hk2⟩ := ex_copy_str (P := Try.prog) (w1.alloc (.cells (bVs z0).toArray 5)) 32 9 3 5 Try.underlying32 Try.infoU8 w1.heap.size 0 128 128 z0 magicL (RowB.made _ _ _) (by decide) (by rw [HZ1.out]; decide) w1.heap.size (Nat.le_refl _)
 have hcp' : (Builtin.copy_ #[32, 9] 3 #[.slice (some ⟨w1.heap.size, 0, none⟩) 128 128, .string ⟨#[65, 83, 72, 76]⟩]).run Try.prog (w1.alloc (.cells (bVs z0).toArray 5)) = .ok (.int .i64 4) w2 := hcp
 clear hcp
 have hbox2 : w2.heap[w.heap.size]? = some (.cells (supR s) 53) := (hk2 _ (by have := lt_of_row hbox1; omega)).trans (hrow_keep hbox1 (below_made' _ _))
 have HB2 := Lib.hid ((HB.out.trans ((below_made' w1 _).mono hbw)).trans (hb2.mono hbw))
 have hne : w1.heap.size ≠ w.heap.size := by have := lt_of_row hbox1; omega
 clear hk2 hb2 hbox1
 go_wp2_with fail
 refine (layout_any w2).mono ?_
 rintro e w3 ⟨rfl, hb3⟩
 have hr3 := hr2.keep hb3
 have hbox3 := hrow_keep hbox2 hb3
 have HB3 := Lib.hid (HB2.out.trans (hb3.mono HB2.out.size))
 have c0 := cell_of_row w3 _ 0 _ _ _ hbox3
 have c1 := cell_of_row w3 _ 1 _ _ _ hbox3
 have c2 := cell_of_row w3 _ 2 _ _ _ hbox3
 have c3 := cell_of_row w3 _ 3 _ _ _ hbox3
 have c4 := cell_of_row w3 _ 4 _ _ _ hbox3
 have c5 := cell_of_row w3 _ 5 _ _ _ hbox3
 have c6 := cell_of_row w3 _ 6 _ _ _ hbox3
 have c7 := cell_of_row w3 _ 7 _ _ _ hbox3
 simp [supR] at c0 c1 c2 c3 c4 c5 c6 c7
 clear hr2 hbox2 hb3
 have hlt3 := lt_of_row hbox3
 have h255 := and_255 s.spare (by have := HR.out; unfold RightP at this; omega) (by have := HR.out; unfold RightP at this; omega)
 simp only [layR]
 go_wp2_with fail
 obtain ⟨w4, hw4⟩ : ∃ w4, w4 = w3.alloc (.cells layR 109) := ⟨_, rfl⟩
 have hr4 : RowB w4 w1.heap.size 5 (padL (preL s 0) 128) := by
  have e : padL (preL s 0) 128 = putB z0 0 magicL := by rw [HZ.out]; rfl
  rw [e, hw4]
  exact hr3.alloc _
 have hlay4 : w4.heap[w3.heap.size]? = some (.cells layR 109) := by rw [hw4]; exact heap_alloc_new _ _
 have HB4 : Hid (Below w.heap.size w w4) := Lib.hid (by rw [hw4]; exact HB3.out.trans ((below_made' w3 _).mono HB3.out.size))
 have hgl : w1.heap.size ≠ w3.heap.size := by have := hr3.lt; omega
 rw [layR] at hw4
 rw [← hw4]
 obtain ⟨gl, hgl0⟩ : ∃ gl, gl = w3.heap.size := ⟨_, rfl⟩
 obtain ⟨gb, hgb0⟩ : ∃ gb, gb = w1.heap.size := ⟨_, rfl⟩
 rw [← hgl0] at hgl hlay4
 rw [← hgb0] at hgl hr4 hbw
 simp only [← hgl0, ← hgb0]
 clear hw4 c0 c1 c2 c3 c4 c5 c6 c7 hbox3 HB3 HB2 HB hr3 hcp' hmk HZ HZ1 hne hlt3 h255 hgl0 hgb0
 clear w1 w2 w3 z0
 go_loopw [37] (fun i wr => ∃ k : Nat, k ≤ 8 ∧ i = .int .i64 k ∧ RowB wr gb 5 (padL (preL s k) 128) ∧ wr.heap[gl]? = some (.cells layR 109) ∧ Below w.heap.size w wr) (fun i _ => 8 - (intOf i).toNat)
 case atStart => exact ⟨0, by omega, rfl, hr4, hlay4, HB4.out⟩
 case round =>
  obtain ⟨k, hk, rfl, hr, hlay, hbel⟩ := hrel
  by_cases hlt : k < 8
  ·obtain ⟨x, n, at_, hf, hx, hx2, h1n, hn8, hat, hfit, hla, hln, hix⟩ := field_at s HR.out k hlt
   have hix := hix wr
   have hwx : IntKind.u64.wrap (x : Int) = ((x : Nat) : Int) := by
    have : IntKind.u64.wrap (x : Int) = (x : Int) % 18446744073709551616 := by simp [IntKind.wrap, IntKind.bits, IntKind.signed]
    rw [this]; omega
   have hca := (cell_of_row wr gl (k * 2) _ _ _ hlay).trans hla
   have hcn := (cell_of_row wr gl (k * 2 + 1) _ _ _ hlay).trans hln
   have HF := Lib.hid hf
   clear hf hla hln
   go_wp2_with fail
   refine (put_ok x n wr h1n hn8 hx).mono ?_
   rintro e w5 ⟨A5, c5, rfl, ho5, hb5⟩
   have hr5 := hr.keep hb5
   have hlay5 := hrow_keep hlay hb5
   have hbel5 := hbel.trans (hb5.mono hbel.size)
   have hca5 := (cell_of_row w5 gl (k * 2) _ _ _ hlay5).trans ((cell_of_row wr gl (k * 2) _ _ _ hlay).symm.trans hca)
   clear hca hcn hix hwx hb5 hr hlay hbel
   have hlp : (padL (preL s k) 128).length = 128 := padL_len _ _ (by omega)
   have hll := leBytes_len n x
   obtain ⟨w6, hcp, hr6, hb6, hk6⟩ := ex_copy_rd (P := Try.prog) w5 32 32 3 5 Try.underlying32 Try.infoU8 gb at_ (128 - at_) (128 - at_) (padL (preL s k) 128) (leBytes x n) A5 n c5 hr5 ho5.rd hll (by omega) (by omega) w.heap.size hbw
   have hr7 : RowB w6 gb 5 (padL (preL s (k + 1)) 128) := by
    have e : putB (padL (preL s k) 128) at_ (leBytes x n) = padL (preL s (k + 1)) 128 := by
     rw [preL_succ s k x n HF.out, ← padL_put _ _ _ (by rw [hat, hll]; omega), hat]
     rfl
    rw [← e]
    exact hr6
   have hlay6 := (hk6 gl (by omega)).trans hlay5
   have hbel6 := hbel5.trans hb6
   clear hr6 hb6 hk6 hlay5 hbel5 hr5 ho5 hlp hll hix
   go_wp2_with fail
   go_roundw
   case rel => exact ⟨k + 1, by omega, by go_num, hr7, hlay6, hbel6⟩
   case measure => simp [intOf]; omega
  ·have hk8 : k = 8 := by omega
   subst hk8
   have hbody : (padL (preL s 8) 128).take 124 = bodyL s := by
    unfold bodyL padL
    rw [List.take_append, List.take_of_length_le (by rw [preL_len8]; omega), preL_len8]
    simp
   have hlen : (padL (preL s 8) 128).length = 128 := padL_len _ _ (by rw [preL_len8]; omega)
   go_wp2_with fail
   refine (crc_any (some ⟨gb, 0, none⟩) 124 _ (bodyL s) 0 wr (by rw [← hbody]; exact hr.rd0 124 (by omega) (by omega)) (bodyL_len s) (by omega)).mono ?_
   rintro e w5 ⟨rfl, hb5⟩
   have hr5 := hr.keep hb5
   have hbel5 := hbel.trans (hb5.mono hbel.size)
   have hcl : crc 0 (bodyL s) < 4294967296 := crc_lt _ _
   obtain ⟨cc, hcc⟩ : ∃ cc, cc = crc 0 (bodyL s) := ⟨_, rfl⟩
   have HC := Lib.hid hcc
   simp only [← hcc] at hcl ⊢
   clear hcc hr hbel hb5 hlay
   have hwx : IntKind.u64.wrap (cc : Int) = ((cc : Nat) : Int) := by
    have : IntKind.u64.wrap (cc : Int) = (cc : Int) % 18446744073709551616 := by simp [IntKind.wrap, IntKind.bits, IntKind.signed]
    rw [this]; omega
   go_wp2_with fail
   refine (put_ok cc 4 w5 (by omega) (by omega) (by omega)).mono ?_
   rintro e w6 ⟨A6, c6, rfl, ho6, hb6⟩
   have hr6 := hr5.keep hb6
   have hbel6 := hbel5.trans (hb6.mono hbel5.size)
   have hll := leBytes_len 4 cc
   obtain ⟨w7, hcp, hr7, hb7, hk7⟩ := ex_copy_rd (P := Try.prog) w6 32 32 3 5 Try.underlying32 Try.infoU8 gb 124 4 4 (padL (preL s 8) 128) (leBytes cc 4) A6 4 c6 hr6 ho6.rd hll (by omega) (by omega) w.heap.size hbw
   have hr8 : RowB w7 gb 5 (supBytes s) := by
    have e : putB (padL (preL s 8) 128) 124 (leBytes cc 4) = supBytes s := by
     unfold putB supBytes
     rw [hbody, hll, List.drop_of_length_le (by omega), List.append_nil, HC.out]
    rw [← e]
    exact hr7
   have hbel7 := hbel6.trans hb7
   clear hr7 hb7 hk7 hr6 hr5 hbel6 hbel5 ho6 hb6 hll hwx hlen hbody
   go_wp2_with fail
   go_ret2
   exact ⟨_, _, rfl, hr8.own w.heap.size 128 hbw (supBytes_len s) (by omega), hbel7⟩
theorem enc_u (s : Sup) (w : World) : Calls Try.prog 17 #[(.agg #[.int .i64 s.gen, .int .i64 s.members, .int .i64 s.disk, .int .i64 s.stripes, .int .i64 s.logs, .int .i64 s.spare, .int .i64 s.mark, .int .i64 s.cursor])] w (EncPost w s) := by
 cases h : rightB s with
 | true =>
  refine (enc_ok s w h).mono ?_
  rintro e w' ⟨A, c, rfl, hown, hb⟩
  unfold EncPost supL supE
  rw [h]
  simp only [if_true, supBytes_len]
  exact ⟨A, c, rfl, hown, hb⟩
 | false =>
  refine (enc_bad s w h).mono ?_
  rintro e w' ⟨rfl, hb⟩
  unfold EncPost supL supE
  rw [h]
  exact ⟨none, 0, rfl, own_nil _ _ _, hb⟩
end
end Go.Proofs.Ytajnlhalanhicaa

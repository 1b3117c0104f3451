/-
 THE WALK over heard: what a disk says in a slot.
-/
import Derived.Test.YtajnlhalanhicaaRgB
import Derived.Test.YtajnlhalanhicaaSupE
namespace Go.Proofs.Ytajnlhalanhicaa
set_option linter.all false
set_option maxRecDepth 20000
open Go.RowKit
section
variable {X : Nat → Prop} {F : VolF} {g : Nat} {w w' : World} {s s' : ShM} {V : VolM}
def HeardPost (X : Nat → Prop) (g : Nat) (w : World) (r : Sup × Int × ShM) (e : Ending) (w' : World) : Prop :=
 e = .returned (.tuple #[(.agg #[.int .i64 ((r.1)).gen, .int .i64 ((r.1)).members, .int .i64 ((r.1)).disk, .int .i64 ((r.1)).stripes, .int .i64 ((r.1)).logs, .int .i64 ((r.1)).spare, .int .i64 ((r.1)).mark, .int .i64 ((r.1)).cursor]), .int .i64 r.2.1]) ∧ ShX X g w' r.2.2 ∧ Kept X w w'
theorem set8x_other (w : World) (g k : Nat) (v0 v1 v2 v3 v4 v5 v6 v7 : Value) (h : k ≠ g) : (set8 w g v0 v1 v2 v3 v4 v5 v6 v7).heap[k]? = w.heap[k]? := by
 unfold set8
 have e : ∀ (w : World) (i : Nat) (v : Value), (w.setCell ⟨g, i, none⟩ v).heap[k]? = w.heap[k]? := fun w i v => heap_setCell_other w ⟨g, i, none⟩ k v (fun e => h e)
 rw [e, e, e, e, e, e, e, e]
theorem set8x_size (w : World) (g : Nat) (v0 v1 v2 v3 v4 v5 v6 v7 : Value) : (set8 w g v0 v1 v2 v3 v4 v5 v6 v7).heap.size = w.heap.size := by simp [set8, World.setCell]
theorem set8x_outer (w : World) (g : Nat) (v0 v1 v2 v3 v4 v5 v6 v7 : Value) : (set8 w g v0 v1 v2 v3 v4 v5 v6 v7).os = w.os ∧ (set8 w g v0 v1 v2 v3 v4 v5 v6 v7).tape = w.tape ∧ (set8 w g v0 v1 v2 v3 v4 v5 v6 v7).output = w.output := by
 have o1 : ∀ (w : World) (a : Addr) (v : Value), (w.setCell a v).os = w.os := fun _ _ _ => rfl
 have o2 : ∀ (w : World) (a : Addr) (v : Value), (w.setCell a v).tape = w.tape := fun _ _ _ => rfl
 have o3 : ∀ (w : World) (a : Addr) (v : Value), (w.setCell a v).output = w.output := fun _ _ _ => rfl
 unfold set8
 simp only [o1, o2, o3, and_self]
theorem heard_end {W : World} {q : Nat} {x : Sup} {er : Int} (hS : ShX (fun b => X b ∨ b = q) g W s') (hK : Kept X w W) (hx : ∀ b, X b → b < q) (v0 v1 v2 v3 v4 v5 v6 v7 : Value) :
  HeardPost X g w (x, er, s') (.returned (.tuple #[(.agg #[.int .i64 x.gen, .int .i64 x.members, .int .i64 x.disk, .int .i64 x.stripes, .int .i64 x.logs, .int .i64 x.spare, .int .i64 x.mark, .int .i64 x.cursor]), .int .i64 er])) (set8 W q v0 v1 v2 v3 v4 v5 v6 v7) := by
 obtain ⟨o1, o2, o3⟩ := set8x_outer W q v0 v1 v2 v3 v4 v5 v6 v7
 have hs := set8x_size W q v0 v1 v2 v3 v4 v5 v6 v7
 have ho := fun k h => set8x_other W q k v0 v1 v2 v3 v4 v5 v6 v7 h
 generalize set8 W q v0 v1 v2 v3 v4 v5 v6 v7 = Z at *
 exact ⟨rfl, (hS.other (Nat.le_of_eq hs.symm) fun b _ hb => ho b fun e => hb (.inr e)).mono fun b hb => .inl hb, hK.trans ⟨o1, o2, o3, Nat.le_of_eq hs.symm, fun k hk => ho k fun e => Nat.lt_irrefl _ (e ▸ hx k hk)⟩⟩
theorem heardR_eq (s : ShM) (d n : Nat) : heardR s d n = (let r := devRead s (freshDev s d) n
 if r.2.1 = 0 then (if decOK r.1 then (if hearOk s d n (decS r.1) then (decS r.1, 0, r.2.2) else (noSup, 8, r.2.2)) else (noSup, 8, r.2.2)) else (noSup, r.2.1, r.2.2)) := rfl
set_option maxHeartbeats 8000000 in
theorem ra_heard (h : ShX X g w s) (hroom : Room 1000000000000 s) (d : Nat) (hd : d < s.disks.length) (n : Nat) (hn : n < 2) :
  Calls Try.prog 61 #[.pointer (some ⟨g, 0, none⟩), .int .i64 (d : Int), .int .i64 (n : Int)] w (HeardPost X g w (heardR s d n)) := by
 obtain ⟨T, hT⟩ : ∃ T, T = heardR s d n := ⟨_, rfl⟩
 rw [← hT]
 rw [heardR_eq] at hT
 have hb0 : Below w.heap.size w (w.alloc (.cells #[.int .i64 0, .int .i64 0, .int .i64 0, .int .i64 0, .int .i64 0, .int .i64 0, .int .i64 0, .int .i64 0] 53)) := below_made' _ _
 have hbox0 : (w.alloc (.cells #[.int .i64 0, .int .i64 0, .int .i64 0, .int .i64 0, .int .i64 0, .int .i64 0, .int .i64 0, .int .i64 0] 53)).heap[w.heap.size]? = some (.cells #[.int .i64 0, .int .i64 0, .int .i64 0, .int .i64 0, .int .i64 0, .int .i64 0, .int .i64 0, .int .i64 0] 53) := heap_alloc_new _ _
 have hS0 : ShX (fun b => X b ∨ b = w.heap.size) g (w.alloc (.cells #[.int .i64 0, .int .i64 0, .int .i64 0, .int .i64 0, .int .i64 0, .int .i64 0, .int .i64 0, .int .i64 0] 53)) s := h.more hb0.size (fun b hlt _ => hb0.block b hlt) fun b hx => by
  rcases hx with hx | rfl
  ·exact ⟨Nat.lt_of_lt_of_le (h.lt b hx) hb0.size, .inl hx⟩
  ·exact ⟨lt_of_row hbox0, .inr (Nat.le_refl _)⟩
 have hK0 : Kept X w (w.alloc (.cells #[.int .i64 0, .int .i64 0, .int .i64 0, .int .i64 0, .int .i64 0, .int .i64 0, .int .i64 0, .int .i64 0] 53)) := Kept.of_below hb0 h.lt
 have hsz := lx_size hS0
 have hsl : Hid (∀ b, X b → b < w.heap.size) := Lib.hid h.lt
 have h4096 := h.ok.sectors4096
 have h17 := h.ok.disks17
 have hokl := Lib.hid fun h0 => devRead_ok (s := s) (D := freshDev s d) (n := (n : Int)) h.ok h0
 replace hT := Lib.hid hT
 clear h
 go_enter Try.func61, Try.ntmps61
 go_wp2_with fail
 with_reducible refine hsz.mono ?_
 rintro e w1 ⟨rfl, hb1⟩
 have hS1 := hS0.below hb1
 have hK1 := hK0.trans (Kept.of_below hb1 fun b hb => Nat.lt_of_lt_of_le (hsl.out b hb) hb0.size)
 have hbox1 := hrow_keep hbox0 hb1
 have hop := su_open hS1 d hd
 replace hbox1 := Lib.hid hbox1
 replace hK1 := Lib.hid hK1
 clear hsz hS0 hK0 hbox0 hb1 hS1
 go_wp2_with fail
 with_reducible refine hop.mono ?_
 rintro e w2 ⟨a, rfl, hge, hD2, hb2⟩
 have hbox2 := Lib.hid (hrow_keep hbox1.out hb2)
 have hK2 := Lib.hid (hK1.out.trans (Kept.of_below hb2 fun b hb => by have := hsl.out b hb; have := lt_of_row hbox1.out; omega))
 have hrd := su_read hD2 hroom (n : Int) (by omega) (by omega)
 generalize devRead s (freshDev s d) (n : Int) = r at *
 obtain ⟨rb, er, s2⟩ := r
 dsimp only at hT hrd hokl
 clear hop hD2 hb2 hbox1 hK1 hge
 go_wp2_with fail
 with_reducible refine hrd.mono ?_
 rintro e w3 ⟨v, rfl, hf, hD3, hK3⟩
 dsimp only at hf hD3 ⊢
 have hbox3 := (hK3.block w.heap.size (.inr rfl)).trans hbox2.out
 have hS3 : Hid (ShX (fun b => X b ∨ b = w.heap.size) g w3 s2) := Lib.hid (hD3.sh.mono fun b hb => .inl (.inl hb))
 have hK03 := Lib.hid (hK2.out.trans (hK3.mono fun b hb => .inl hb))
 clear hrd hD3 hK3 hbox2 hK2
 by_cases e0 : er = 0
 ·subst e0
  replace hT := Lib.hid (hT.out.trans (if_pos rfl))
  have hl1 := hokl.out rfl
  obtain ⟨A1, c1, rfl, hr1, hc1, _, _⟩ := hf.parts (by omega)
  rw [hl1] at hc1 ⊢
  have hdec := dec_u A1 128 c1 rb w3 hr1 hl1 hc1
  unfold DecPost at hdec
  clear hr1 hokl hf
  cases hk : decOK rb with
  | false =>
   rw [hk] at hT
   replace hT := hT.out.trans (if_neg (by simp))
   rw [decS_bad hk, decE_bad hk] at hdec
   unfold noSup at hdec hT
   dsimp only at hdec
   clear hk
   go_wp2_with fail
   with_reducible refine hdec.mono ?_
   rintro e w4 ⟨rfl, hb4⟩
   have hbox4 := hrow_keep hbox3 hb4
   have hS4 := hS3.out.below hb4
   have hK4 := hK03.out.trans (Kept.of_below hb4 fun b hb => by have := hsl.out b hb; have := lt_of_row hbox3; omega)
   have hb5 := below_made' w4 (.cells #[.int .i64 0, .int .i64 0, .int .i64 0, .int .i64 0, .int .i64 0, .int .i64 0, .int .i64 0, .int .i64 0] 53)
   have hbx := heap_alloc_new w4 (.cells #[.int .i64 0, .int .i64 0, .int .i64 0, .int .i64 0, .int .i64 0, .int .i64 0, .int .i64 0, .int .i64 0] 53)
   have hbox5 := hrow_keep hbox4 hb5
   have hS5 := hS4.below hb5
   have hK5 := hK4.trans (Kept.of_below hb5 fun b hb => by have := hsl.out b hb; have := lt_of_row hbox4; omega)
   obtain ⟨c0, c1, c2, c3, c4, c5, c6, c7, cf⟩ := row8_cells _ _ _ _ _ _ _ _ _ _ _ hbox5
   obtain ⟨d0, d1, d2, d3, d4, d5, d6, d7, df⟩ := row8_cells _ _ _ _ _ _ _ _ _ _ _ hbx
   have hblt := lt_of_row hbox5
   have hfin := heard_end (x := ⟨0, 0, 0, 0, 0, 0, 0, 0⟩) (er := 8) hS5 hK5 (fun b hb => hsl.out b hb) (.int .i64 0) (.int .i64 0) (.int .i64 0) (.int .i64 0) (.int .i64 0) (.int .i64 0) (.int .i64 0) (.int .i64 0)
   rw [← hT] at hfin
   replace hfin := Lib.hid hfin
   replace hbox5 := Lib.hid hbox5
   clear hT hS3 hK03 hS4 hK4 hS5 hK5 hb4 hb5 hbx hbox3 hbox4 hb0 hsl hdec
   go_wp2_with fail
   refine bodyPost_ret (results_row_tmp rfl _ _ w.heap.size 53 _ _ _ rfl (set8_row _ _ _ _ _ _ _ _ _ _ _ (.int .i64 0) (.int .i64 0) (.int .i64 0) (.int .i64 0) (.int .i64 0) (.int .i64 0) (.int .i64 0) (.int .i64 0) hbox5.out) Try.underlying53 rfl (by kernel_rfl)) rfl ?_
   exact hfin.out
  | true =>
   have hry : rightB (decS rb) = true := by
    rw [decS_ok hk]
    unfold decOK at hk
    simp only [Bool.and_eq_true] at hk
    exact hk.2.1
   rw [hk] at hT
   replace hT := Lib.hid (hT.out.trans (if_pos rfl))
   rw [show decE rb = 0 from decE_ok hk] at hdec
   clear hk
   generalize decS rb = y at *
   obtain ⟨x0, x1, x2, x3, x4, x5, x6, x7⟩ := y
   obtain ⟨r1, r2, r3, r4, r5, r6, r7, r8, r9, r10, r11, r12, _⟩ := of_decide_eq_true hry
   dsimp only at hdec r1 r2 r3 r4 r5 r6 r7 r8 r9 r10 r11 r12
   clear hry
   go_wp2_with fail
   with_reducible refine hdec.mono ?_
   rintro e w4 ⟨rfl, hb4⟩
   have hbox4 := hrow_keep hbox3 hb4
   have hS4 := hS3.out.below hb4
   have hK4 := hK03.out.trans (Kept.of_below hb4 fun b hb => by have := hsl.out b hb; have := lt_of_row hbox3; omega)
   have hb5 := below_made' w4 (.cells #[.int .i64 x0, .int .i64 x1, .int .i64 x2, .int .i64 x3, .int .i64 x4, .int .i64 x5, .int .i64 x6, .int .i64 x7] 53)
   have hbx := heap_alloc_new w4 (.cells #[.int .i64 x0, .int .i64 x1, .int .i64 x2, .int .i64 x3, .int .i64 x4, .int .i64 x5, .int .i64 x6, .int .i64 x7] 53)
   have hbox5 := hrow_keep hbox4 hb5
   have hS5 := hS4.below hb5
   have hK5 := hK4.trans (Kept.of_below hb5 fun b hb => by have := hsl.out b hb; have := lt_of_row hbox4; omega)
   have hbxlt := lt_of_row hbx
   clear hS3 hK03 hS4 hK4 hb4 hb5 hbox3 hbox4 hb0 hdec
   obtain ⟨W5, hW5⟩ : ∃ W5, W5 = w4.alloc (.cells #[.int .i64 x0, .int .i64 x1, .int .i64 x2, .int .i64 x3, .int .i64 x4, .int .i64 x5, .int .i64 x6, .int .i64 x7] 53) := ⟨_, rfl⟩
   have hnd := lay_need x3 x4 (by omega) (by omega) W5
   have hslot := slot_any x0 W5
   rw [and_one_i64 x0 (by omega) (by omega)] at hslot
   have hbk := su_blocks s.sectors W5 (by omega) (by omega)
   obtain ⟨nd, hndv⟩ : ∃ nd, nd = needI x3 x4 := ⟨_, rfl⟩
   obtain ⟨bk, hbkv⟩ : ∃ bk, bk = blocksI s.sectors := ⟨_, rfl⟩
   rw [← hbkv] at hbk
   unfold needI at hndv
   rw [← hndv] at hnd
   generalize (if 1 ≤ x4 ∧ x4 ≤ 8 ∧ 1 ≤ x3 ∧ x3 ≤ 1024 then (0 : Int) else 1) = nex at hnd
   have hTT : T = if (x2 = (d : Int) ∧ x0 % 2 = (n : Int) ∧ ((s.disks.length : Int) = x1 ∨ (s.disks.length : Int) = x1 + 1) ∧ nd ≤ bk ∧ ¬ (0 ≤ x5 ∧ (s.disks.length : Int) = x1)) then (⟨x0, x1, x2, x3, x4, x5, x6, x7⟩, 0, s2) else (noSup, 8, s2) := by
    rw [hT.out]
    unfold hearOk needI
    rw [hndv, hbkv]
    dsimp only
    simp only [decide_eq_true_eq]
   unfold noSup at hTT
   replace hTT := Lib.hid hTT
   clear hT hndv hbkv
   generalize s.disks.length = dl at *
   generalize s.sectors = sc at *
   obtain ⟨c0, c1, c2, c3, c4, c5, c6, c7, cf⟩ := row8_cells _ _ _ _ _ _ _ _ _ _ _ hbox5
   obtain ⟨d0, d1, d2, d3, d4, d5, d6, d7, df⟩ := row8_cells _ _ _ _ _ _ _ _ _ _ _ hbx
   have hblt := lt_of_row hbox5
   rw [← hW5] at c0 c1 c2 c3 c4 c5 c6 c7 cf d0 d1 d2 d3 d4 d5 d6 d7 df hblt hbxlt hbox5 hS5 hK5
   replace hbox5 := Lib.hid hbox5
   replace hS5 := Lib.hid hS5
   replace hK5 := Lib.hid hK5
   clear hbx
   go_wp2_with fail
   rw [← hW5]
   clear hW5
   generalize w4.heap.size = q4 at *
   with_reducible refine hnd.mono ?_
   rintro e wx ⟨rfl, rfl⟩
   clear hnd
   go_upto_region 12 with (fail)
   have hw1 : IntKind.i64.wrap (x1 + 1) = x1 + 1 := IntWalk.i64_in _ (by omega)
   go_cut [98] (fun c wc => c = .bool (!decide (x2 = (d : Int) ∧ x0 % 2 = (n : Int) ∧ ((dl : Int) = x1 ∨ (dl : Int) = x1 + 1) ∧ nd ≤ bk ∧ ¬ (0 ≤ x5 ∧ (dl : Int) = x1))) ∧ wc = W5)
   case first =>
    clear hTT hS5 hK5 hbox5 c0 c1 c2 c3 c4 c5 c6 c7 cf hblt r1 r2 r3 r4 r5 r6 r7 r8 r9 r10 r11 r12
    by_cases q1 : x2 = (d : Int)
    ·have b1 : (x2 != (d : Int)) = false := by rw [bne_eq_false_iff_eq]; exact q1
     replace q1 := Lib.hid q1
     by_cases q2 : x0 % 2 = (n : Int)
     ·have b2 : (x0 % 2 != (n : Int)) = false := by rw [bne_eq_false_iff_eq]; exact q2
      replace q2 := Lib.hid q2
      by_cases q3 : (dl : Int) = x1
      ·have b3 : ((dl : Int) != x1) = false := by rw [bne_eq_false_iff_eq]; exact q3
       have b4 : ((dl : Int) == x1) = true := by rw [beq_iff_eq]; exact q3
       replace q3 := Lib.hid q3
       by_cases q4 : bk < nd
       ·have q4' : ¬ nd ≤ bk := by omega
        go_wp2_with fail
        with_reducible refine hslot.mono ?_
        rintro e wx ⟨rfl, rfl⟩
        go_wp2_with fail
        with_reducible refine hbk.mono ?_
        rintro e wx ⟨rfl, rfl⟩
        go_wp2_with fail
        go_meet
        exact ⟨congrArg Value.bool (by simp [q1.out, q2.out, q3.out, q4, q4']), rfl⟩
       ·have q4' : nd ≤ bk := by omega
        by_cases q5 : 0 ≤ x5
        ·go_wp2_with fail
         with_reducible refine hslot.mono ?_
         rintro e wx ⟨rfl, rfl⟩
         go_wp2_with fail
         with_reducible refine hbk.mono ?_
         rintro e wx ⟨rfl, rfl⟩
         go_wp2_with fail
         go_meet
         exact ⟨congrArg Value.bool (by simp [q1.out, q2.out, q3.out, q4, q4', q5]), rfl⟩
        ·go_wp2_with fail
         with_reducible refine hslot.mono ?_
         rintro e wx ⟨rfl, rfl⟩
         go_wp2_with fail
         with_reducible refine hbk.mono ?_
         rintro e wx ⟨rfl, rfl⟩
         go_wp2_with fail
         go_meet
         exact ⟨congrArg Value.bool (by simp [q1.out, q2.out, q3.out, q4, q4', q5]), rfl⟩
      ·have b3 : ((dl : Int) != x1) = true := by rw [bne_iff_ne]; exact q3
       have b4 : ((dl : Int) == x1) = false := by rw [beq_eq_false_iff_ne]; exact q3
       by_cases q6 : (dl : Int) = x1 + 1
       ·have b6 : ((dl : Int) != x1 + 1) = false := by rw [bne_eq_false_iff_eq]; exact q6
        replace q6 := Lib.hid q6
        by_cases q4 : bk < nd
        ·have q4' : ¬ nd ≤ bk := by omega
         go_wp2_with fail
         with_reducible refine hslot.mono ?_
         rintro e wx ⟨rfl, rfl⟩
         go_wp2_with fail
         with_reducible refine hbk.mono ?_
         rintro e wx ⟨rfl, rfl⟩
         go_wp2_with fail
         go_meet
         exact ⟨congrArg Value.bool (by simp [q1.out, q2.out, q3, q4, q4', q6.out]), rfl⟩
        ·have q4' : nd ≤ bk := by omega
         by_cases q5 : 0 ≤ x5
         ·go_wp2_with fail
          with_reducible refine hslot.mono ?_
          rintro e wx ⟨rfl, rfl⟩
          go_wp2_with fail
          with_reducible refine hbk.mono ?_
          rintro e wx ⟨rfl, rfl⟩
          go_wp2_with fail
          go_meet
          exact ⟨congrArg Value.bool (by
           have hsim := Int.not_lt.2 q4'
           first
           | (simp [q1.out, q2.out, q3, q4', q5, q6.out, hsim]; done)
           | (simp [q1.out, q2.out, q3, q4', q5, q6.out, hsim]; intros; omega)), rfl⟩
         ·go_wp2_with fail
          with_reducible refine hslot.mono ?_
          rintro e wx ⟨rfl, rfl⟩
          go_wp2_with fail
          with_reducible refine hbk.mono ?_
          rintro e wx ⟨rfl, rfl⟩
          go_wp2_with fail
          go_meet
          exact ⟨congrArg Value.bool (by
           have hsim := Int.not_lt.2 q4'
           first
           | (simp [q1.out, q2.out, q3, q4', q5, q6.out, hsim]; done)
           | (simp [q1.out, q2.out, q3, q4', q5, q6.out, hsim]; intros; omega)), rfl⟩
       ·have b6 : ((dl : Int) != x1 + 1) = true := by rw [bne_iff_ne]; exact q6
        go_wp2_with fail
        with_reducible refine hslot.mono ?_
        rintro e wx ⟨rfl, rfl⟩
        go_wp2_with fail
        go_meet
        exact ⟨congrArg Value.bool (by simp [q1.out, q2.out, q3, q6]), rfl⟩
     ·have b2 : (x0 % 2 != (n : Int)) = true := by rw [bne_iff_ne]; exact q2
      go_wp2_with fail
      with_reducible refine hslot.mono ?_
      rintro e wx ⟨rfl, rfl⟩
      go_wp2_with fail
      go_meet
      exact ⟨congrArg Value.bool (by simp [q1.out, q2]), rfl⟩
    ·have b1 : (x2 != (d : Int)) = true := by rw [bne_iff_ne]; exact q1
     go_wp2_with fail
     go_meet
     exact ⟨congrArg Value.bool (by simp [q1]), rfl⟩
   case rest =>
    obtain ⟨rfl, rfl⟩ := hcut
    clear hslot hbk hw1 r1 r2 r3 r4 r5 r6 r7 r8 r9 r10 r11 r12
    by_cases hq : x2 = (d : Int) ∧ x0 % 2 = (n : Int) ∧ ((dl : Int) = x1 ∨ (dl : Int) = x1 + 1) ∧ nd ≤ bk ∧ ¬ (0 ≤ x5 ∧ (dl : Int) = x1)
    ·rw [decide_eq_true hq]
     have hT2 := hTT.out.trans (if_pos hq)
     have hfin := heard_end (x := ⟨x0, x1, x2, x3, x4, x5, x6, x7⟩) (er := 0) hS5.out hK5.out (fun b hb => hsl.out b hb) (.int .i64 x0) (.int .i64 x1) (.int .i64 x2) (.int .i64 x3) (.int .i64 x4) (.int .i64 x5) (.int .i64 x6) (.int .i64 x7)
     rw [← hT2] at hfin
     replace hfin := Lib.hid hfin
     clear hq hTT hT2 hS5 hK5 hsl
     go_wp2_with fail
     refine bodyPost_ret (results_row_tmp rfl _ _ w.heap.size 53 _ _ _ rfl (set8_row _ _ _ _ _ _ _ _ _ _ _ (.int .i64 x0) (.int .i64 x1) (.int .i64 x2) (.int .i64 x3) (.int .i64 x4) (.int .i64 x5) (.int .i64 x6) (.int .i64 x7) hbox5.out) Try.underlying53 rfl (by kernel_rfl)) rfl ?_
     exact hfin.out
    ·rw [decide_eq_false hq]
     have hT2 := hTT.out.trans (if_neg hq)
     have hfin := heard_end (x := ⟨0, 0, 0, 0, 0, 0, 0, 0⟩) (er := 8) hS5.out hK5.out (fun b hb => hsl.out b hb) (.int .i64 0) (.int .i64 0) (.int .i64 0) (.int .i64 0) (.int .i64 0) (.int .i64 0) (.int .i64 0) (.int .i64 0)
     rw [← hT2] at hfin
     replace hfin := Lib.hid hfin
     clear hq hTT hT2 hS5 hK5 hsl
     go_wp2_with fail
     refine bodyPost_ret (results_row_tmp rfl _ _ w.heap.size 53 _ _ _ rfl (set8_row _ _ _ _ _ _ _ _ _ _ _ (.int .i64 0) (.int .i64 0) (.int .i64 0) (.int .i64 0) (.int .i64 0) (.int .i64 0) (.int .i64 0) (.int .i64 0) hbox5.out) Try.underlying53 rfl (by kernel_rfl)) rfl ?_
     exact hfin.out
 ·have hb9 : (er != 0) = true := by rw [bne_iff_ne]; exact e0
  replace hT := hT.out.trans (if_neg e0)
  obtain ⟨c0, c1, c2, c3, c4, c5, c6, c7, cf⟩ := row8_cells w3 _ _ _ _ _ _ _ _ _ _ hbox3
  have hblt := lt_of_row hbox3
  unfold noSup at hT
  have hfin := heard_end (x := ⟨0, 0, 0, 0, 0, 0, 0, 0⟩) (er := er) hS3.out hK03.out (fun b hb => hsl.out b hb) (.int .i64 0) (.int .i64 0) (.int .i64 0) (.int .i64 0) (.int .i64 0) (.int .i64 0) (.int .i64 0) (.int .i64 0)
  rw [← hT] at hfin
  replace hfin := Lib.hid hfin
  replace hbox3 := Lib.hid hbox3
  clear hT hS3 hK03 e0 hf hokl hb0 hsl
  go_wp2_with fail
  refine bodyPost_ret (results_row_tmp rfl _ _ w.heap.size 53 _ _ _ rfl (set8_row w3 _ _ _ _ _ _ _ _ _ _ (.int .i64 0) (.int .i64 0) (.int .i64 0) (.int .i64 0) (.int .i64 0) (.int .i64 0) (.int .i64 0) (.int .i64 0) hbox3.out) Try.underlying53 rfl (by kernel_rfl)) rfl ?_
  exact hfin.out
end
end Go.Proofs.Ytajnlhalanhicaa

/-
  THE WALK of the reference's Encode.
-/
import Derived.Test.YtnnpdndmcenfeaaSupC
import Derived.Test.YtnnpdndmcenfeaaOctU
import Derived.Test.YtnnpdndmcenfeaaMemS
import Derived.ArgAppend
namespace Go.Proofs.Ytnnpdndmcenfeaa
open Go.RowKit

set_option maxRecDepth 100000 in
set_option maxHeartbeats 2000000 in
theorem rput48 (base : Nat) (v : Value) (bs : List UInt8) (x n : Nat) (w : World) (hown : Own w 5 base v bs) (hb : base ≤ w.heap.size) (hx2 : x < 4611686018427387905) (h1 : 1 ≤ n) (h8 : n ≤ 8) (hx : x < 256 ^ n) (hl : bs.length ≤ 1000) :
    Calls Try.prog 48 #[v, .int .i64 x, .int .i64 n] w fun e w' => ∃ v', e = .returned v' ∧ Own w' 5 base v' (bs ++ leBytes x n) ∧ Below base w w' := by
  have hwx : IntKind.u64.wrap (x : Int) = ((x : Nat) : Int) := by
    have : IntKind.u64.wrap (x : Int) = (x : Int) % 18446744073709551616 := by simp [IntKind.wrap, IntKind.bits, IntKind.signed]
    rw [this]; omega
  have HO := Lib.hid hown
  clear hown
  go_enter Try.func48, Try.ntmps48
  go_wp2_with fail
  refine (rput_u x n w (by omega)).mono ?_
  rintro e w1 ⟨A, c, rfl, ho1, hb1⟩
  have hok : putOK x n = true := by unfold putOK; simp; exact ⟨by omega, by omega, hx⟩
  have hp : putL x n = leBytes x n := by unfold putL; rw [hok]; simp
  rw [hp] at ho1
  simp only [hp]
  have hll := leBytes_len n x
  have HP := Lib.hid hp
  have hob := HO.out.below hb1
  have hb1' := hb1.mono hb
  clear hp hok hwx
  rw [hll] at ho1
  simp only [hll]
  go_wp2_with (at_builtin; refine wpList_append_rd rfl (.tmp 16) (.tmp 17) 23 rfl base 5 Try.underlying23 Try.infoU8 v bs (leBytes x n) A n c rfl rfl hob ho1.rd hll (by omega) (Nat.le_trans hb hb1.size) ?_; intro v2 w2 hown2 hg2)
  have hb2 : Below base w1 w2 := hob.grow hg2 (Nat.le_trans hb hb1.size)
  go_wp2_with fail
  go_ret
  exact ⟨_, rfl, hown2, hb1'.trans hb2⟩

theorem wpList_append_full {P : Program} {ops : Array Oper} {rest : List Oper} {o : Oper} {a : Act} {w : World} {Q : Exit → Act → World → Prop} (hgd : Region.wanted o (yielded ops a.tmps) = true) (s x : Operand) (t : TypeId)
    (ho : o.op = .call { callee := .builtin .append, args := #[s, x], argTypes := #[t, t] })
    (e : Nat) (ht : P.underlying t = some (.slice e)) (hi : (P.info? e).map (fun i => (i.zero, i.size, i.bytes)) = some (some (.int .u8 0), 1, 1))
    (b ad : Addr) (bs cs : List UInt8) (n m c : Nat) (hs : a.eval s = .slice (some b) n n) (hx : a.eval x = .slice (some ad) m c) (hrb : Rd w (some b) bs) (hn : bs.length = n) (hr : Rd w (some ad) cs) (hm : cs.length = m) (hm0 : 0 < m) (hb : bs.length + m ≤ 140737488355328)
    (h : ∀ v' w', Own w' e w.heap.size v' (bs ++ cs) → Below w.heap.size w w' → wpList P ops Q rest (a.put o.dst v') w') : wpList P ops Q (o :: rest) a w := by
  refine wpList_step fun K hK => ?_
  rw [if_pos hgd]
  subst hn hm
  obtain ⟨i0, hi0, hz0, hz1, hz2⟩ := info_parts hi
  have hcell : ∀ (ad : Addr) (bs : List UInt8), Rd w (some ad) bs → ∀ j u, (bVs bs)[j]? = some u → w.cell? (ad.add j) = some u := by
    intro ad bs hr j u hu
    have hj : j < bs.length := by
      have := (List.getElem?_eq_some_iff.1 hu).1
      simpa [bVs_len] using this
    rw [bVs_get bs j hj] at hu
    injection hu with hu
    subst hu
    exact hr.cell j hj
  obtain ⟨v', w', h1, h2, h3⟩ := run_append_arg_grows (P := P) w t o.type e i0 (.int .u8 0) 1 1 ht hi0 hz0 hz1 hz2 rfl (by omega) b bs.length bs.length (bVs bs) (by simp [bVs_len]) (hcell b bs hrb) ad cs.length c (bVs cs) (by simp [bVs_len]) (hcell ad cs hr) (by omega) (by simp only [maxLen]; omega) (by omega)
  unfold Oper.wp execOp
  simp only [ho, resolve, invoke, builtin, Sem.run_bind, Sem.run_pure, Result.andThen_ok, List.map_toArray, List.map_cons, List.map_nil, hs, hx, h1]
  refine hK _ _ (h v' w' ?_ ((Below.refl _ w).grown h3 (Nat.le_refl _) (by simp)))
  unfold Own
  rw [List.length_append, bVs_app]
  exact h2

set_option maxRecDepth 100000 in
set_option maxHeartbeats 2000000 in
theorem rput48f (b : Addr) (m : Nat) (bs : List UInt8) (x n : Nat) (xi : Int) (w : World) (hxi : xi = (x : Int)) (hrd : Rd w (some b) bs) (hbm : bs.length = m) (hx2 : x < 4611686018427387905) (h1 : 1 ≤ n) (h8 : n ≤ 8) (hx : x < 256 ^ n) (hl : bs.length ≤ 1000) :
    Calls Try.prog 48 #[.slice (some b) m m, .int .i64 xi, .int .i64 n] w fun e w' => ∃ v', e = .returned v' ∧ Own w' 5 w.heap.size v' (bs ++ leBytes x n) ∧ Below w.heap.size w w' := by
  subst hxi hbm
  have hwx : IntKind.u64.wrap (x : Int) = ((x : Nat) : Int) := by
    have : IntKind.u64.wrap (x : Int) = (x : Int) % 18446744073709551616 := by simp [IntKind.wrap, IntKind.bits, IntKind.signed]
    rw [this]; omega
  have HO := Lib.hid hrd
  clear hrd
  go_enter Try.func48, Try.ntmps48
  go_wp2_with fail
  refine (rput_u x n w (by omega)).mono ?_
  rintro e w1 ⟨A, c, rfl, ho1, hb1⟩
  have hok : putOK x n = true := by unfold putOK; simp; exact ⟨by omega, by omega, hx⟩
  have hp : putL x n = leBytes x n := by unfold putL; rw [hok]; simp
  rw [hp] at ho1
  simp only [hp]
  have hll := leBytes_len n x
  have hob := HO.out.below hb1
  clear hp hok hwx
  rw [hll] at ho1
  simp only [hll]
  obtain ⟨ad, rfl⟩ := ho1.rd.some_ (i := 0) (by omega)
  go_wp2_with (at_builtin; refine wpList_append_full rfl (.tmp 16) (.tmp 17) 23 rfl 5 Try.underlying23 Try.infoU8 b ad bs (leBytes x n) bs.length n c rfl rfl hob rfl ho1.rd hll (by omega) (by omega) ?_; intro v2 w2 hown2 hb2)
  go_wp2_with fail
  go_ret
  exact ⟨_, rfl, hown2.base_le hb1.size, hb1.trans (hb2.mono hb1.size)⟩

theorem rput48' (base : Nat) (v : Value) (bs : List UInt8) (x n : Nat) (xi : Int) (w : World) (hxi : xi = (x : Int)) (hown : Own w 5 base v bs) (hb : base ≤ w.heap.size) (hx2 : x < 4611686018427387905) (h1 : 1 ≤ n) (h8 : n ≤ 8) (hx : x < 256 ^ n) (hl : bs.length ≤ 1000) :
    Calls Try.prog 48 #[v, .int .i64 xi, .int .i64 n] w fun e w' => ∃ v', e = .returned v' ∧ Own w' 5 base v' (bs ++ leBytes x n) ∧ Below base w w' := by
  subst hxi
  exact rput48 base v bs x n w hown hb hx2 h1 h8 hx hl

set_option maxRecDepth 100000 in
set_option maxHeartbeats 2000000 in
theorem renc_bad (s : Sup) (w : World) (h : rightB s = false) :
    Calls Try.prog 36 #[(.agg #[.int .i64 s.gen, .int .i64 s.members, .int .i64 s.disk, .int .i64 s.stripes, .int .i64 s.logs, .int .i64 s.spare, .int .i64 s.mark, .int .i64 s.cursor])] w fun e w' => e = .returned (.tuple #[.slice none 0 0, .int .i64 1]) ∧ Below w.heap.size w w' := by
  have HH := Lib.hid h
  clear h
  go_enter Try.func36, Try.ntmps36
  go_wp2_with fail
  refine (rright_any s _).mono ?_
  rintro e w1 ⟨rfl, hb⟩
  have h := HH.out
  generalize rightB s = r at *
  subst h
  go_wp2_with fail
  go_ret2
  exact ⟨rfl, ((Below.refl _ _).alloc (Nat.le_refl _) _).trans (hb.mono (by simp))⟩

set_option maxRecDepth 100000 in
set_option maxHeartbeats 2000000 in
theorem renc_ok (s : Sup) (w : World) (h : rightB s = true) :
    Calls Try.prog 36 #[(.agg #[.int .i64 s.gen, .int .i64 s.members, .int .i64 s.disk, .int .i64 s.stripes, .int .i64 s.logs, .int .i64 s.spare, .int .i64 s.mark, .int .i64 s.cursor])] w fun e w' => ∃ A c, e = .returned (.tuple #[.slice A 128 c, .int .i64 0]) ∧ Own w' 5 w.heap.size (.slice A 128 c) (supBytes s) ∧ Below w.heap.size w w' := by
  have HH := Lib.hid h
  clear h
  go_enter Try.func36, Try.ntmps36
  go_wp2_with fail
  refine (rright_any s _).mono ?_
  rintro e w1 ⟨rfl, hb⟩
  have h := HH.out
  have hR : RightP s := of_decide_eq_true h
  have HR := Lib.hid hR
  generalize rightB s = r at *
  subst h
  clear HH
  have hbw : w.heap.size ≤ w1.heap.size := by have := hb.size; simp at this; omega
  have hB1 : Below w.heap.size w w1 := ((Below.refl w.heap.size w).alloc (Nat.le_refl _) _).trans (hb.mono (by simp))
  have hbox1 : w1.heap[w.heap.size]? = some (.cells (supR s) 47) := (hb.block _ (by simp)).trans (heap_alloc_new _ _)
  have hc5 := (cell_of_row w1 _ 5 _ _ _ hbox1).trans (show (supR s)[5]? = some (.int .i64 s.spare) from rfl)
  have hlt1 := lt_of_row hbox1
  clear hb
  unfold RightP at hR
  have hsp : spareN s.spare < 256 := by unfold spareN; split <;> omega
  have hcase : (s.spare < 0 ∧ (255 : Int) = (spareN s.spare : Int)) ∨ (¬ s.spare < 0 ∧ s.spare = (spareN s.spare : Int)) := by
    unfold spareN
    by_cases h : s.spare < 0
    · left; exact ⟨h, by rw [if_pos h]; rfl⟩
    · right; exact ⟨h, by rw [if_neg h]; omega⟩
  have hcv := fun (w : World) (C : Array Value) (n c : Nat) => Lib.run_convert_bytes_const (P := Try.prog) w 23 5 C n c Try.underlying23 Try.underlying5
  obtain ⟨W0, hW0⟩ : ∃ W0, W0 = w1.alloc (.cells #[.int .u8 65, .int .u8 83, .int .u8 72, .int .u8 76] 5 (4, 5)) := ⟨_, rfl⟩
  obtain ⟨g0, hg0⟩ : ∃ g0, g0 = w1.heap.size := ⟨_, rfl⟩
  obtain ⟨B, hBe⟩ : ∃ B, B = W0.heap.size := ⟨_, rfl⟩
  have ho0 : Rd W0 (some ⟨g0, 0, none⟩) (preL s 0) := by
    rw [hW0, hg0]
    exact Rd.litM w1 5 magicL (4, 5) (by decide)
  have hsz : W0.heap.size = w1.heap.size + 1 := by rw [hW0]; simp
  have hbox0 : W0.heap[w.heap.size]? = some (.cells (supR s) 47) := by rw [hW0]; exact hrow_keep hbox1 (below_made' _ _)
  have hB0 : Below w.heap.size w W0 := by rw [hW0]; exact hB1.trans ((below_made' w1 _).mono hbw)
  have hltB : w.heap.size < B := by omega
  have hwB : w.heap.size ≤ B := by omega
  have hs0 : B ≤ W0.heap.size := by omega
  clear hsz
  have hc0 := (cell_of_row w1 _ 0 _ _ _ hbox1).trans (show (supR s)[0]? = some (.int .i64 s.gen) from rfl)
  have HBX := Lib.hid hbox0
  have HW := Lib.hid hW0
  have HE := Lib.hid hg0
  have HBE := Lib.hid hBe
  have HO := Lib.hid ho0
  clear hbox1 hB1 hbw hbox0 hW0 hg0 hBe ho0
  have hcase2 : (s.spare < 0 ∧ Hid ((255 : Int) = (spareN s.spare : Int))) ∨ (¬ s.spare < 0 ∧ Hid (s.spare = (spareN s.spare : Int))) := hcase.imp (fun h => ⟨h.1, Lib.hid h.2⟩) (fun h => ⟨h.1, Lib.hid h.2⟩)
  clear hcase
  rcases hcase2 with ⟨hq0, HQ⟩ | ⟨hq0, HQ⟩
  all_goals
    go_wp2_with fail
    clear hcv hc5 hc0
    have hW0 := HW.out
    have hg0 := HE.out
    rw [← hW0, ← hg0]
    clear HW HE hW0 hg0 hlt1
    clear w1
    have hbox0 := HBX.out
    have ho0 := HO.out
    refine (rput48f ⟨g0, 0, none⟩ 4 (preL s 0) s.gen.toNat 8 _ W0 (by omega) ho0 rfl (by omega) (by omega) (by omega) (by omega) (by rw [preL_len s 0 (by omega)]; decide)).mono ?_
    rintro e W1 ⟨v1, rfl, ho1, hb1⟩
    rw [← HBE.out] at ho1 hb1
    have e' : preL s 0 ++ leBytes s.gen.toNat 8 = preL s 1 := (preL_succ s 0 _ _ rfl).symm
    rw [e'] at ho1
    have hs1 : B ≤ W1.heap.size := Nat.le_trans hs0 hb1.size
    have hbox1 := (hb1.block _ hltB).trans hbox0
    have hB1 := hB0.trans (hb1.mono hwB)
    clear ho0 hb1 hbox0 hB0 e' hs0 HBX HO HBE
    have hc := (cell_of_row W1 _ 1 _ _ _ hbox1).trans (show (supR s)[1]? = some (.int .i64 s.members) from rfl)
    go_wp2_with fail
    refine (rput48' B v1 (preL s 1) s.members.toNat 1 _ W1 (by omega) ho1 hs1 (by omega) (by omega) (by omega) (by omega) (by rw [preL_len s 1 (by omega)]; decide)).mono ?_
    rintro e W2 ⟨v2, rfl, ho2, hb2⟩
    have e' : preL s 1 ++ leBytes s.members.toNat 1 = preL s 2 := (preL_succ s 1 _ _ rfl).symm
    rw [e'] at ho2
    have hs2 : B ≤ W2.heap.size := Nat.le_trans hs1 hb2.size
    have hbox2 := (hb2.block _ hltB).trans hbox1
    have hB2 := hB1.trans (hb2.mono hwB)
    clear ho1 hb2 hbox1 hB1 e' hs1 hc
    have hc := (cell_of_row W2 _ 2 _ _ _ hbox2).trans (show (supR s)[2]? = some (.int .i64 s.disk) from rfl)
    go_wp2_with fail
    refine (rput48' B v2 (preL s 2) s.disk.toNat 1 _ W2 (by omega) ho2 hs2 (by omega) (by omega) (by omega) (by omega) (by rw [preL_len s 2 (by omega)]; decide)).mono ?_
    rintro e W3 ⟨v3, rfl, ho3, hb3⟩
    have e' : preL s 2 ++ leBytes s.disk.toNat 1 = preL s 3 := (preL_succ s 2 _ _ rfl).symm
    rw [e'] at ho3
    have hs3 : B ≤ W3.heap.size := Nat.le_trans hs2 hb3.size
    have hbox3 := (hb3.block _ hltB).trans hbox2
    have hB3 := hB2.trans (hb3.mono hwB)
    clear ho2 hb3 hbox2 hB2 e' hs2 hc
    have hc := (cell_of_row W3 _ 4 _ _ _ hbox3).trans (show (supR s)[4]? = some (.int .i64 s.logs) from rfl)
    go_wp2_with fail
    refine (rput48' B v3 (preL s 3) s.logs.toNat 1 _ W3 (by omega) ho3 hs3 (by omega) (by omega) (by omega) (by omega) (by rw [preL_len s 3 (by omega)]; decide)).mono ?_
    rintro e W4 ⟨v4, rfl, ho4, hb4⟩
    have e' : preL s 3 ++ leBytes s.logs.toNat 1 = preL s 4 := (preL_succ s 3 _ _ rfl).symm
    rw [e'] at ho4
    have hs4 : B ≤ W4.heap.size := Nat.le_trans hs3 hb4.size
    have hbox4 := (hb4.block _ hltB).trans hbox3
    have hB4 := hB3.trans (hb4.mono hwB)
    clear ho3 hb4 hbox3 hB3 e' hs3 hc
    go_wp2_with fail
    refine (rput48' B v4 (preL s 4) (spareN s.spare) 1 _ W4 HQ.out ho4 hs4 (by omega) (by omega) (by omega) (by omega) (by rw [preL_len s 4 (by omega)]; decide)).mono ?_
    rintro e W5 ⟨v5, rfl, ho5, hb5⟩
    have e' : preL s 4 ++ leBytes (spareN s.spare) 1 = preL s 5 := (preL_succ s 4 _ _ rfl).symm
    rw [e'] at ho5
    have hs5 : B ≤ W5.heap.size := Nat.le_trans hs4 hb5.size
    have hbox5 := (hb5.block _ hltB).trans hbox4
    have hB5 := hB4.trans (hb5.mono hwB)
    clear ho4 hb5 hbox4 hB4 e' hs4 
    have hc := (cell_of_row W5 _ 3 _ _ _ hbox5).trans (show (supR s)[3]? = some (.int .i64 s.stripes) from rfl)
    go_wp2_with fail
    refine (rput48' B v5 (preL s 5) s.stripes.toNat 4 _ W5 (by omega) ho5 hs5 (by omega) (by omega) (by omega) (by omega) (by rw [preL_len s 5 (by omega)]; decide)).mono ?_
    rintro e W6 ⟨v6, rfl, ho6, hb6⟩
    have e' : preL s 5 ++ leBytes s.stripes.toNat 4 = preL s 6 := (preL_succ s 5 _ _ rfl).symm
    rw [e'] at ho6
    have hs6 : B ≤ W6.heap.size := Nat.le_trans hs5 hb6.size
    have hbox6 := (hb6.block _ hltB).trans hbox5
    have hB6 := hB5.trans (hb6.mono hwB)
    clear ho5 hb6 hbox5 hB5 e' hs5 hc
    have hc := (cell_of_row W6 _ 6 _ _ _ hbox6).trans (show (supR s)[6]? = some (.int .i64 s.mark) from rfl)
    go_wp2_with fail
    refine (rput48' B v6 (preL s 6) s.mark.toNat 4 _ W6 (by omega) ho6 hs6 (by omega) (by omega) (by omega) (by omega) (by rw [preL_len s 6 (by omega)]; decide)).mono ?_
    rintro e W7 ⟨v7, rfl, ho7, hb7⟩
    have e' : preL s 6 ++ leBytes s.mark.toNat 4 = preL s 7 := (preL_succ s 6 _ _ rfl).symm
    rw [e'] at ho7
    have hs7 : B ≤ W7.heap.size := Nat.le_trans hs6 hb7.size
    have hbox7 := (hb7.block _ hltB).trans hbox6
    have hB7 := hB6.trans (hb7.mono hwB)
    clear ho6 hb7 hbox6 hB6 e' hs6 hc
    have hc := (cell_of_row W7 _ 7 _ _ _ hbox7).trans (show (supR s)[7]? = some (.int .i64 s.cursor) from rfl)
    go_wp2_with fail
    refine (rput48' B v7 (preL s 7) s.cursor.toNat 4 _ W7 (by omega) ho7 hs7 (by omega) (by omega) (by omega) (by omega) (by rw [preL_len s 7 (by omega)]; decide)).mono ?_
    rintro e W8 ⟨v8, rfl, ho8, hb8⟩
    have e' : preL s 7 ++ leBytes s.cursor.toNat 4 = preL s 8 := (preL_succ s 7 _ _ rfl).symm
    rw [e'] at ho8
    have hs8 : B ≤ W8.heap.size := Nat.le_trans hs7 hb8.size
    have hbox8 := (hb8.block _ hltB).trans hbox7
    have hB8 := hB7.trans (hb8.mono hwB)
    clear ho7 hb8 hbox7 hB7 e' hs7 hc
    clear hbox8 HQ
    have hl8 := preL_len8 s
    have hw8 : w.heap.size ≤ W8.heap.size := Nat.le_trans hwB hs8
    have ho8' := ho8.base_le hwB
    clear ho8 hs8 hltB hwB hsp
    obtain ⟨A8, c8, rfl, hr8, _⟩ := ho8'.form
    clear hr8
    rw [hl8] at ho8'
    simp only [hl8]
    have h28 : Own W8 5 w.heap.size (.slice A8 28 c8) (padL (preL s 8) 28) := by
      have e : padL (preL s 8) 28 = preL s 8 := by
        unfold padL
        rw [hl8]
        simp
      rw [e]
      exact ho8'
    clear ho8'
    go_wp2_with fail
    go_loopw [5] (fun v wr => ∃ (k : Nat) (A : Option Addr) (c : Nat), 28 ≤ k ∧ k ≤ 124 ∧ v = .slice A k c ∧ Own wr 5 w.heap.size (.slice A k c) (padL (preL s 8) k) ∧ Below w.heap.size w wr) (fun v _ => match v with | .slice _ n _ => 124 - n | _ => 0)
    case atStart => exact ⟨28, A8, c8, by omega, by omega, rfl, h28, hB8⟩
    case round =>
      obtain ⟨k, A, c, hk1, hk2, rfl, hown, hbel⟩ := hrel
      have hlk : (padL (preL s 8) k).length = k := padL_len _ _ (by omega)
      by_cases hlt : k < 124
      · have HLK := Lib.hid hlk
        clear hlk
        go_wp2_with (at_builtin; refine wpList_append_rd rfl (.tmp 49) (.tmp 50) 23 rfl w.heap.size 5 Try.underlying23 Try.infoU8 _ (padL (preL s 8) k) [0] (some ⟨wr.heap.size, 0, none⟩) 1 1 rfl rfl (own_lit hown _) (Rd.lit wr _ [0] (by simp)) rfl (by have := HLK.out; simp; omega) (by have := hbel.size; simp; omega) ?_; intro v1 w1 hown1 hg1)
        have hb1 := (own_lit hown (.cells (bVs [0]).toArray 5)).grow hg1 (by have := hbel.size; simp; omega)
        have hbel1 := (hbel.trans ((below_made' wr (.cells (bVs [0]).toArray 5)).mono hbel.size)).trans hb1
        obtain ⟨A1, c1, rfl, _, _⟩ := hown1.form
        have e1 : padL (preL s 8) k ++ [0] = padL (preL s 8) (k + 1) := by
          unfold padL
          rw [hl8, List.append_assoc]
          have : k + 1 - 28 = (k - 28) + 1 := by omega
          rw [this, List.replicate_succ']
        have hlk1 : (padL (preL s 8) (k + 1)).length = k + 1 := padL_len _ _ (by omega)
        rw [e1, hlk1] at hown1
        simp only [e1, hlk1]
        clear e1 hlk1 hown hg1 hb1 hbel
        go_wp2_with fail
        go_roundw
        case rel => exact ⟨k + 1, A1, c1, by omega, by omega, rfl, hown1, hbel1⟩
        case measure => simp; omega
      · have hk : k = 124 := by omega
        subst hk
        have hbl := bodyL_len s
        have hbe : padL (preL s 8) 124 = bodyL s := rfl
        rw [hbe] at hown
        clear hbe hlk
        go_wp2_with fail
        refine (rcrc_any A 124 c (bodyL s) 0 wr hown.rd hbl (by omega)).mono ?_
        rintro e w5 ⟨rfl, rfl⟩
        have hown5 := hown
        have hbel5 := hbel
        have hcl : crc 0 (bodyL s) < 4294967296 := crc_lt _ _
        obtain ⟨cc, hcc⟩ : ∃ cc, cc = crc 0 (bodyL s) := ⟨_, rfl⟩
        have HC := Lib.hid hcc
        simp only [← hcc] at hcl ⊢
        clear hcc hown hbel
        go_wp2_with fail
        refine (rput48' w.heap.size _ (bodyL s) cc 4 _ wr ?_ hown5 hbel5.size (by omega) (by omega) (by omega) (by omega) (by omega)).mono ?_
        · rfl
        rintro e w6 ⟨v6, rfl, ho6, hb6⟩
        rw [HC.out] at ho6
        have ho7 : Own w6 5 w.heap.size v6 (supBytes s) := ho6
        obtain ⟨A6, c6, rfl, _, _⟩ := ho7.form
        have hsl := supBytes_len s
        rw [hsl] at ho7
        simp only [hsl]
        clear hsl ho6 hbl hown5
        have hbel6 := hbel5.trans hb6
        go_wp2_with fail
        go_ret2
        exact ⟨_, _, rfl, ho7, hbel6⟩

theorem renc_u (s : Sup) (w : World) : Calls Try.prog 36 #[(.agg #[.int .i64 s.gen, .int .i64 s.members, .int .i64 s.disk, .int .i64 s.stripes, .int .i64 s.logs, .int .i64 s.spare, .int .i64 s.mark, .int .i64 s.cursor])] w (EncPost w s) := by
  cases h : rightB s with
  | true =>
    refine (renc_ok s w h).mono ?_
    rintro e w' ⟨A, c, rfl, hown, hb⟩
    unfold EncPost supL supE
    rw [h]
    simp only [if_true, supBytes_len]
    exact ⟨A, c, rfl, hown, hb⟩
  | false =>
    refine (renc_bad s w h).mono ?_
    rintro e w' ⟨rfl, hb⟩
    unfold EncPost supL supE
    rw [h]
    exact ⟨none, 0, rfl, own_nil _ _ _, hb⟩
end Go.Proofs.Ytnnpdndmcenfeaa

/-
  THE WALK of SuperNewest: the greatest generation's place, the slot of a generation, and who says the same.
-/
import Derived.Test.YtnnpdndmcenfeaaSupW
namespace Go.Proofs.Ytnnpdndmcenfeaa
open Go.RowKit

theorem Try.infoSup : (Try.prog.info? 47).map (fun i => (i.zero, i.size, i.bytes)) = some (some (.agg #[.int .i64 0, .int .i64 0, .int .i64 0, .int .i64 0, .int .i64 0, .int .i64 0, .int .i64 0, .int .i64 0]), 8, 64) := by kernel_rfl

theorem xor_one_ne (m : Int) (_h0 : -9223372036854775808 ≤ m) (_h1 : m ≤ 9223372036854775807) : bits .xor .i64 m 1 ≠ m := by
  intro e
  have e0 : bits .xor .i64 m 1 = IntKind.i64.wrap ((BitVec.ofInt 64 m ^^^ BitVec.ofInt 64 1).toNat : Int) := rfl
  rw [e0, BitVec.toNat_xor] at e
  have e1 : (BitVec.ofInt 64 1).toNat = 1 := by decide
  rw [e1, BitVec.toNat_ofInt, IntKind.wrap_i64] at e
  have e2 := Nat.xor_mod_two_pow (a := (m % ((2 ^ 64 : Nat) : Int)).toNat) (b := 1) (n := 1)
  have e3 : ((2 ^ 64 : Nat) : Int) = 18446744073709551616 := by decide
  rw [e3] at e e2
  generalize hx : (m % 18446744073709551616).toNat = x at *
  have hx2 : (x : Int) = m % 18446744073709551616 := by omega
  generalize hy : x ^^^ 1 = y at *
  have h2 : x % 2 = 0 ∨ x % 2 = 1 := by omega
  rcases h2 with h | h
  · have : y % 2 = 1 := by simpa [h] using e2
    omega
  · have : y % 2 = 0 := by simpa [h] using e2
    omega

set_option maxRecDepth 100000 in
set_option maxHeartbeats 4000000 in
theorem superNewest_core (A : Option Addr) (n c : Nat) (ss : List Sup) (g : Int) (a : Sup) (disk : Int) (W : World) (hr : n ≤ 1000 → RdV W A (cellsS ss)) (hl : ss.length = n)
    (lo1 : -9223372036854775808 ≤ g) (hi1 : g ≤ 9223372036854775807) (lom : -9223372036854775808 ≤ a.mark) (him : a.mark ≤ 9223372036854775807) :
    Calls Try.prog 17 #[.slice A n c, .int .i64 g, (.agg #[.int .i64 a.gen, .int .i64 a.members, .int .i64 a.disk, .int .i64 a.stripes, .int .i64 a.logs, .int .i64 a.spare, .int .i64 a.mark, .int .i64 a.cursor]), .int .i64 disk] W fun e W' => e = .returned (.bool true) ∧ Below W.heap.size W W' := by
  by_cases hbig : 1000 < n
  · clear hr hl
    go_enter Try.func17, Try.ntmps17
    go_wp2_with fail
    refine (lives04 _).mono ?_
    rintro e w1 ⟨rfl, hb1⟩
    go_wp2_with fail
    go_ret
    exact ⟨rfl, (below_made' W _).trans (hb1.mono (by simp))⟩
  have hn : n ≤ 1000 := by omega
  have HR := Lib.hid (hr hn)
  have HL := Lib.hid hl
  have hcl := cellsS_len ss
  have HCL := Lib.hid hcl
  clear hr hl hcl hbig
  have hrow0 := heap_alloc_new W (.cells #[.int .i64 a.gen, .int .i64 a.members, .int .i64 a.disk, .int .i64 a.stripes, .int .i64 a.logs, .int .i64 a.spare, .int .i64 a.mark, .int .i64 a.cursor] 47)
  have hB0 := below_made' W (.cells #[.int .i64 a.gen, .int .i64 a.members, .int .i64 a.disk, .int .i64 a.stripes, .int .i64 a.logs, .int .i64 a.spare, .int .i64 a.mark, .int .i64 a.cursor] 47)
  have hr0 := HR.out.below hB0
  have hsz0 : (W.alloc (.cells #[.int .i64 a.gen, .int .i64 a.members, .int .i64 a.disk, .int .i64 a.stripes, .int .i64 a.logs, .int .i64 a.spare, .int .i64 a.mark, .int .i64 a.cursor] 47)).heap.size = W.heap.size + 1 := by simp
  have hlit := ownsRow_none (W.alloc (.cells #[.int .i64 a.gen, .int .i64 a.members, .int .i64 a.disk, .int .i64 a.stripes, .int .i64 a.logs, .int .i64 a.spare, .int .i64 a.mark, .int .i64 a.cursor] 47)) 47 8
  rw [hsz0] at hlit
  go_enter Try.func17, Try.ntmps17
  go_wp2_with (at_builtin; refine wpList_append_k rfl (.tmp 21) (.tmp 22) 57 rfl (W.heap.size + 1) 47 _ 8 64 Try.underlying57 Try.infoSup rfl (by omega) (.slice (some ⟨W.heap.size + 1, 0, none⟩) 0 0) 0 [] (cellsS ss) A n c rfl rfl hlit (hr0.below (below_made' _ _)) (cellsS_one ss) (by rw [HCL.out, HL.out]) (by unfold maxLen; omega) (by omega) (by simp) ?_; intro v2 w2 hown2 hg2 hb2)
  rw [Nat.zero_add, List.nil_append] at hown2
  obtain ⟨A2, c2, rfl, _, _⟩ := ownsRow_form hown2
  have hr2 := ownsRow_rd hown2 (by rw [HCL.out, HL.out]; omega)
  have hrow2 : w2.heap[W.heap.size]? = some (.cells #[.int .i64 a.gen, .int .i64 a.members, .int .i64 a.disk, .int .i64 a.stripes, .int .i64 a.logs, .int .i64 a.spare, .int .i64 a.mark, .int .i64 a.cursor] 47) := (hb2.block _ (by omega)).trans (hrow_keep hrow0 (below_made' _ _))
  have hB2 : Below W.heap.size W w2 := (hB0.trans ((below_made' _ _).mono (by simp))).trans (hb2.mono (by omega))
  clear hown2 hg2 hb2 hlit hsz0 hrow0 hB0 hr0
  refine (newest_any A2 n c2 ss w2 hr2 HL.out hn).mono ?_
  rintro e w3 ⟨rfl, hb3⟩
  have hrow3 := hrow_keep hrow2 hb3
  have hB3 := hB2.trans (hb3.mono hB2.size)
  clear hrow2 hB2 hb3 hr2
  go_wp2_with fail
  refine (rnewest_any A n c ss w3 (HR.out.below hB3) HL.out hn).mono ?_
  rintro e w4 ⟨rfl, hb4⟩
  have hrow4 := hrow_keep hrow3 hb4
  have hB4 := hB3.trans (hb4.mono hB3.size)
  clear hrow3 hB3 hb4
  generalize newestTo ss n = at_ at *
  generalize decide (0 < n) = has at *
  obtain ⟨c0, c1, c2', c3, c4, c5, c6, c7, -⟩ := row8_cells w4 _ _ _ _ _ _ _ _ _ _ hrow4
  have hlt4 := lt_of_row hrow4
  have hand := and_one_i64 g lo1 hi1
  have hne := xor_one_ne a.mark lom him
  obtain ⟨mk, hmk⟩ : ∃ mk, bits .xor .i64 a.mark 1 = mk := ⟨_, rfl⟩
  rw [hmk] at hne
  have hcase : (g % 2 = 0 ∧ (g.tmod 2 == 0) = true) ∨ (g % 2 = 1 ∧ (g.tmod 2 == 0) = false) := by
    by_cases h : g % 2 = 0
    · left; exact ⟨h, by rw [beq_iff_eq]; exact Int.tmod_eq_zero_of_dvd (by omega)⟩
    · right; exact ⟨by omega, by rw [beq_eq_false_iff_ne]; intro e; have := Int.dvd_of_tmod_eq_zero e; omega⟩
  have HNE := Lib.hid hne
  clear hne
  have hb45 : Below w4.heap.size w4 ((w4.alloc (.cells #[.int .i64 a.gen, .int .i64 a.members, .int .i64 disk, .int .i64 a.stripes, .int .i64 a.logs, .int .i64 a.spare, .int .i64 a.mark, .int .i64 a.cursor] 47)).alloc (.cells #[.int .i64 a.gen, .int .i64 a.members, .int .i64 a.disk, .int .i64 a.stripes, .int .i64 a.logs, .int .i64 a.spare, .int .i64 mk, .int .i64 a.cursor] 47)) := ((Below.refl _ _).alloc (Nat.le_refl _) _).alloc (by simp) _
  rcases hcase with ⟨hg1, hg2⟩ | ⟨hg1, hg2⟩
  · rw [hg1] at hand
    clear hg1
    go_wp2_with fail
    refine (lives04 _).mono ?_
    rintro e w6 ⟨rfl, hb6⟩
    have hb46 := hb45.trans (hb6.mono hb45.size)
    have hrow6 := hrow_keep hrow4 hb46
    have hB6 := hB4.trans (hb46.mono hB4.size)
    have hrowb6 := hrow_keep (hrow_keep (heap_alloc_new w4 (.cells #[.int .i64 a.gen, .int .i64 a.members, .int .i64 disk, .int .i64 a.stripes, .int .i64 a.logs, .int .i64 a.spare, .int .i64 a.mark, .int .i64 a.cursor] 47)) (below_made' _ (.cells #[.int .i64 a.gen, .int .i64 a.members, .int .i64 a.disk, .int .i64 a.stripes, .int .i64 a.logs, .int .i64 a.spare, .int .i64 mk, .int .i64 a.cursor] 47))) hb6
    have hrowc6 := hrow_keep (heap_alloc_new (w4.alloc (.cells #[.int .i64 a.gen, .int .i64 a.members, .int .i64 disk, .int .i64 a.stripes, .int .i64 a.logs, .int .i64 a.spare, .int .i64 a.mark, .int .i64 a.cursor] 47)) (.cells #[.int .i64 a.gen, .int .i64 a.members, .int .i64 a.disk, .int .i64 a.stripes, .int .i64 a.logs, .int .i64 a.spare, .int .i64 mk, .int .i64 a.cursor] 47)) hb6
    have e46 : (w4.alloc (.cells #[.int .i64 a.gen, .int .i64 a.members, .int .i64 disk, .int .i64 a.stripes, .int .i64 a.logs, .int .i64 a.spare, .int .i64 a.mark, .int .i64 a.cursor] 47)).heap.size = w4.heap.size + 1 := by simp
    rw [e46] at hrowc6
    clear e46 hb46 hb45 hb6 hrow4 hB4 c0 c1 c2' c3 c4 c5 c6 c7 hlt4
    obtain ⟨c0, c1, c2', c3, c4, c5, c6, c7, -⟩ := row8_cells w6 _ _ _ _ _ _ _ _ _ _ hrow6
    obtain ⟨d0, d1, d2, d3, d4, d5, d6, d7, -⟩ := row8_cells w6 _ _ _ _ _ _ _ _ _ _ hrowb6
    obtain ⟨f0, f1, f2, f3, f4, f5, f6, f7, -⟩ := row8_cells w6 _ _ _ _ _ _ _ _ _ _ hrowc6
    generalize w4.heap.size = g4 at *
    clear w4
    go_wp2_with fail
    refine (slot_any g _).mono ?_
    rintro e w7 ⟨rfl, rfl⟩
    rw [hand]
    go_wp2_with fail
    refine (alike_any a ⟨a.gen, a.members, disk, a.stripes, a.logs, a.spare, a.mark, a.cursor⟩ _).mono ?_
    rintro e w7 ⟨rfl, hb7⟩
    have hrow7 := hrow_keep hrow6 hb7
    have hrowc7 := hrow_keep hrowc6 hb7
    have hB7 := hB6.trans (hb7.mono hB6.size)
    clear c0 c1 c2' c3 c4 c5 c6 c7 d0 d1 d2 d3 d4 d5 d6 d7 f0 f1 f2 f3 f4 f5 f6 f7 hrow6 hrowb6 hrowc6 hb7 hB6
    obtain ⟨c0, c1, c2', c3, c4, c5, c6, c7, -⟩ := row8_cells w7 _ _ _ _ _ _ _ _ _ _ hrow7
    obtain ⟨f0, f1, f2, f3, f4, f5, f6, f7, -⟩ := row8_cells w7 _ _ _ _ _ _ _ _ _ _ hrowc7
    simp only [and_self, decide_true]
    go_wp2_with fail
    refine (alike_any a ⟨a.gen, a.members, a.disk, a.stripes, a.logs, a.spare, mk, a.cursor⟩ _).mono ?_
    rintro e w8 ⟨he, hb8⟩
    have hB8 := hB7.trans (hb8.mono hB7.size)
    have hdd : decide (a.gen = a.gen ∧ a.members = a.members ∧ a.stripes = a.stripes ∧ a.logs = a.logs ∧ a.spare = a.spare ∧ a.mark = mk ∧ a.cursor = a.cursor) = false := by
      rw [decide_eq_false_iff_not]
      rintro ⟨_, _, _, _, _, h, _⟩
      exact HNE.out h.symm
    have he2 : e = .returned (.bool false) := he.trans (congrArg (fun b => Ending.returned (Value.bool b)) hdd)
    subst he2
    clear c0 c1 c2' c3 c4 c5 c6 c7 f0 f1 f2 f3 f4 f5 f6 f7 hdd he
    go_wp2_with fail
    go_ret
    exact ⟨rfl, hB8⟩
  · rw [hg1] at hand
    clear hg1
    go_wp2_with fail
    refine (lives04 _).mono ?_
    rintro e w6 ⟨rfl, hb6⟩
    have hb46 := hb45.trans (hb6.mono hb45.size)
    have hrow6 := hrow_keep hrow4 hb46
    have hB6 := hB4.trans (hb46.mono hB4.size)
    have hrowb6 := hrow_keep (hrow_keep (heap_alloc_new w4 (.cells #[.int .i64 a.gen, .int .i64 a.members, .int .i64 disk, .int .i64 a.stripes, .int .i64 a.logs, .int .i64 a.spare, .int .i64 a.mark, .int .i64 a.cursor] 47)) (below_made' _ (.cells #[.int .i64 a.gen, .int .i64 a.members, .int .i64 a.disk, .int .i64 a.stripes, .int .i64 a.logs, .int .i64 a.spare, .int .i64 mk, .int .i64 a.cursor] 47))) hb6
    have hrowc6 := hrow_keep (heap_alloc_new (w4.alloc (.cells #[.int .i64 a.gen, .int .i64 a.members, .int .i64 disk, .int .i64 a.stripes, .int .i64 a.logs, .int .i64 a.spare, .int .i64 a.mark, .int .i64 a.cursor] 47)) (.cells #[.int .i64 a.gen, .int .i64 a.members, .int .i64 a.disk, .int .i64 a.stripes, .int .i64 a.logs, .int .i64 a.spare, .int .i64 mk, .int .i64 a.cursor] 47)) hb6
    have e46 : (w4.alloc (.cells #[.int .i64 a.gen, .int .i64 a.members, .int .i64 disk, .int .i64 a.stripes, .int .i64 a.logs, .int .i64 a.spare, .int .i64 a.mark, .int .i64 a.cursor] 47)).heap.size = w4.heap.size + 1 := by simp
    rw [e46] at hrowc6
    clear e46 hb46 hb45 hb6 hrow4 hB4 c0 c1 c2' c3 c4 c5 c6 c7 hlt4
    obtain ⟨c0, c1, c2', c3, c4, c5, c6, c7, -⟩ := row8_cells w6 _ _ _ _ _ _ _ _ _ _ hrow6
    obtain ⟨d0, d1, d2, d3, d4, d5, d6, d7, -⟩ := row8_cells w6 _ _ _ _ _ _ _ _ _ _ hrowb6
    obtain ⟨f0, f1, f2, f3, f4, f5, f6, f7, -⟩ := row8_cells w6 _ _ _ _ _ _ _ _ _ _ hrowc6
    generalize w4.heap.size = g4 at *
    clear w4
    go_wp2_with fail
    refine (slot_any g _).mono ?_
    rintro e w7 ⟨rfl, rfl⟩
    rw [hand]
    go_wp2_with fail
    refine (slot_any g _).mono ?_
    rintro e w7 ⟨rfl, rfl⟩
    rw [hand]
    go_wp2_with fail
    refine (alike_any a ⟨a.gen, a.members, disk, a.stripes, a.logs, a.spare, a.mark, a.cursor⟩ _).mono ?_
    rintro e w7 ⟨rfl, hb7⟩
    have hrow7 := hrow_keep hrow6 hb7
    have hrowc7 := hrow_keep hrowc6 hb7
    have hB7 := hB6.trans (hb7.mono hB6.size)
    clear c0 c1 c2' c3 c4 c5 c6 c7 d0 d1 d2 d3 d4 d5 d6 d7 f0 f1 f2 f3 f4 f5 f6 f7 hrow6 hrowb6 hrowc6 hb7 hB6
    obtain ⟨c0, c1, c2', c3, c4, c5, c6, c7, -⟩ := row8_cells w7 _ _ _ _ _ _ _ _ _ _ hrow7
    obtain ⟨f0, f1, f2, f3, f4, f5, f6, f7, -⟩ := row8_cells w7 _ _ _ _ _ _ _ _ _ _ hrowc7
    simp only [and_self, decide_true]
    go_wp2_with fail
    refine (alike_any a ⟨a.gen, a.members, a.disk, a.stripes, a.logs, a.spare, mk, a.cursor⟩ _).mono ?_
    rintro e w8 ⟨he, hb8⟩
    have hB8 := hB7.trans (hb8.mono hB7.size)
    have hdd : decide (a.gen = a.gen ∧ a.members = a.members ∧ a.stripes = a.stripes ∧ a.logs = a.logs ∧ a.spare = a.spare ∧ a.mark = mk ∧ a.cursor = a.cursor) = false := by
      rw [decide_eq_false_iff_not]
      rintro ⟨_, _, _, _, _, h, _⟩
      exact HNE.out h.symm
    have he2 : e = .returned (.bool false) := he.trans (congrArg (fun b => Ending.returned (Value.bool b)) hdd)
    subst he2
    clear c0 c1 c2' c3 c4 c5 c6 c7 f0 f1 f2 f3 f4 f5 f6 f7 hdd he
    go_wp2_with fail
    go_ret
    exact ⟨rfl, hB8⟩

theorem superNewest_walk (A : Option Addr) (n c : Nat) (ss : List Sup) (g : Int) (a : Sup) (disk : Int) (W : World) (hr : n ≤ 1000 → RdV W A (cellsS ss)) (hl : ss.length = n)
    (lo1 : -9223372036854775808 ≤ g) (hi1 : g ≤ 9223372036854775807) (hf : ∀ z ∈ [a.gen, a.members, a.disk, a.stripes, a.logs, a.spare, a.mark, a.cursor], -9223372036854775808 ≤ z ∧ z ≤ 9223372036854775807) (_lo3 : -9223372036854775808 ≤ disk) (_hi3 : disk ≤ 9223372036854775807) :
    Calls Try.prog 17 #[.slice A n c, .int .i64 g, (.agg #[.int .i64 a.gen, .int .i64 a.members, .int .i64 a.disk, .int .i64 a.stripes, .int .i64 a.logs, .int .i64 a.spare, .int .i64 a.mark, .int .i64 a.cursor]), .int .i64 disk] W fun e W' => e = .returned (.bool true) ∧ Below W.heap.size W W' :=
  superNewest_core A n c ss g a disk W hr hl lo1 hi1 (hf a.mark (by simp)).1 (hf a.mark (by simp)).2
end Go.Proofs.Ytnnpdndmcenfeaa

/-
 THE WALKS of Newest, the reference's Newest, and Alike.
-/
import Derived.Test.YtajnlhalanhicaaSupQ
import Derived.Test.YtajnlhalanhicaaSupLv
import Derived.Deep.RegionHeld3
import Derived.BigQuiet
namespace Go.Proofs.Ytajnlhalanhicaa
set_option linter.all false
set_option maxRecDepth 20000
open Go.RowKit
theorem RdV.spot {w : World} {ad : Addr} {vs : List Value} (h : RdV w (some ad) vs) (h0 : 0 < vs.length) : ∃ b o, ad = ⟨b, o, none⟩ := by
 have hc := h.cell 0 h0
 obtain ⟨b, o, s⟩ := ad
 cases s with
 | none => exact ⟨b, o, rfl⟩
 | some s =>
  exfalso
  have e : (⟨b, o, some s⟩ : Addr).add 0 = ⟨b, o, some s⟩ := rfl
  rw [e] at hc
  unfold World.cell? at hc
  split at hc
  ·simp at hc
  ·cases hc
theorem add_none (b o n : Nat) : (⟨b, o, none⟩ : Addr).add n = ⟨b, o + n, none⟩ := by unfold Addr.add; split <;> simp_all
theorem sups_cell {w : World} {b o : Nat} {ss : List Sup} (h : RdV w (some ⟨b, o, none⟩) (cellsS ss)) (i : Nat) (hi : i < ss.length) :
  w.cell? ⟨b, o + i * 8, none⟩ = some (.int .i64 ss[i].gen) ∧ w.cell? ⟨b, o + i * 8 + 1, none⟩ = some (.int .i64 ss[i].members) ∧ w.cell? ⟨b, o + i * 8 + 2, none⟩ = some (.int .i64 ss[i].disk) ∧ w.cell? ⟨b, o + i * 8 + 3, none⟩ = some (.int .i64 ss[i].stripes) ∧
  w.cell? ⟨b, o + i * 8 + 4, none⟩ = some (.int .i64 ss[i].logs) ∧ w.cell? ⟨b, o + i * 8 + 5, none⟩ = some (.int .i64 ss[i].spare) ∧ w.cell? ⟨b, o + i * 8 + 6, none⟩ = some (.int .i64 ss[i].mark) ∧ w.cell? ⟨b, o + i * 8 + 7, none⟩ = some (.int .i64 ss[i].cursor) := by
 have key : ∀ j v, (supCells ss[i])[j]? = some v → j < 8 → w.cell? ⟨b, o + i * 8 + j, none⟩ = some v := by
  intro j v hv hj
  have h1 := cellsS_get ss i j hi hj
  rw [hv] at h1
  have hlt := (List.getElem?_eq_some_iff.1 h1).1
  have h2 := h.cell _ hlt
  rw [add_none, (List.getElem?_eq_some_iff.1 h1).2, ← Nat.add_assoc] at h2
  exact h2
 exact ⟨key 0 _ rfl (by omega), key 1 _ rfl (by omega), key 2 _ rfl (by omega), key 3 _ rfl (by omega), key 4 _ rfl (by omega), key 5 _ rfl (by omega), key 6 _ rfl (by omega), key 7 _ rfl (by omega)⟩
set_option maxRecDepth 100000 in
set_option maxHeartbeats 2000000 in
theorem newest_any (A : Option Addr) (n c : Nat) (ss : List Sup) (w : World) (hr : RdV w A (cellsS ss)) (hl : ss.length = n) (hn : n ≤ 1000) :
  Calls Try.prog 62 #[.slice A n c] w fun e w' => e = .returned (.tuple #[.int .i64 (newestTo ss n : Nat), .bool (decide (0 < n))]) ∧ Below w.heap.size w w' := by
 have HR := Lib.hid hr
 have HL := Lib.hid hl
 clear hr hl
 go_enter Try.func62, Try.ntmps62
 go_wp2_with fail
 go_loopw [4, 9] (fun at_ i wr => ∃ k : Nat, k ≤ n ∧ i = .int .i64 k ∧ at_ = .int .i64 (newestTo ss k : Nat) ∧ Below w.heap.size w wr) (fun _ i _ => n - (intOf i).toNat)
 case atStart => exact ⟨0, by omega, rfl, rfl, Below.refl _ _⟩
 case round =>
  obtain ⟨k, hk, rfl, rfl, hbel⟩ := hrel
  by_cases hlt : k < n
  ·have hks : k < ss.length := by rw [HL.out]; exact hlt
   obtain ⟨ad, rfl⟩ := HR.out.some_ (i := 0) (by rw [cellsS_len]; omega)
   obtain ⟨b, o, rfl⟩ := HR.out.spot (by rw [cellsS_len]; omega)
   have hrd := HR.out.below hbel
   obtain ⟨c0, c1, c2, c3, c4, c5, c6, c7⟩ := sups_cell hrd k hks
   have hnk := (newestTo_spec ss k).1
   have hng := (sups_cell hrd (newestTo ss k) (by omega)).1
   have hg1 := gen_of ss k hks
   have hg2 := gen_of ss (newestTo ss k) (by omega)
   rw [← hg1] at c0
   rw [← hg2] at hng
   have hstep : newestTo ss (k + 1) = if gen ss (newestTo ss k) < gen ss k then k else newestTo ss k := rfl
   have HSP := Lib.hid hstep
   clear hstep hg1 hg2 hrd
   generalize newestTo ss k = m at *
   generalize gen ss k = gk at *
   generalize gen ss m = gm at *
   have hmn : m < n := by omega
   have hblt : b < wr.heap.size := World.block_lt_of_cell? wr _ c0
   have hbel2 := hbel.trans ((below_made' wr (.cells #[.int .i64 gk, .int .i64 ss[k].members, .int .i64 ss[k].disk, .int .i64 ss[k].stripes, .int .i64 ss[k].logs, .int .i64 ss[k].spare, .int .i64 ss[k].mark, .int .i64 ss[k].cursor] 53)).mono hbel.size)
   go_wp2_with fail
   by_cases hgt : gm < gk
   ·rw [if_pos hgt] at HSP
    go_quiet (fail)
    go_wp2
    go_roundw
    case rel => exact ⟨k + 1, by omega, by go_num, by rw [HSP.out], below_drewN hbel2 _⟩
    case measure => simp [intOf]; omega
   ·rw [if_neg hgt] at HSP
    go_quiet (fail)
    go_wp2
    go_roundw
    case rel => exact ⟨k + 1, by omega, by go_num, by rw [HSP.out], below_drewN hbel2 _⟩
    case measure => simp [intOf]; omega
  ·have hkn : k = n := by omega
   subst hkn
   go_wp2_with fail
   go_ret2
   exact ⟨by simp, hbel⟩
set_option maxRecDepth 100000 in
set_option maxHeartbeats 2000000 in
theorem alike_any (s t : Sup) (w : World) :
  Calls Try.prog 64 #[(.agg #[.int .i64 s.gen, .int .i64 s.members, .int .i64 s.disk, .int .i64 s.stripes, .int .i64 s.logs, .int .i64 s.spare, .int .i64 s.mark, .int .i64 s.cursor]), (.agg #[.int .i64 t.gen, .int .i64 t.members, .int .i64 t.disk, .int .i64 t.stripes, .int .i64 t.logs, .int .i64 t.spare, .int .i64 t.mark, .int .i64 t.cursor])] w fun e w' => e = .returned (.bool (decide (s.gen = t.gen ∧ s.members = t.members ∧ s.stripes = t.stripes ∧ s.logs = t.logs ∧ s.spare = t.spare ∧ s.mark = t.mark ∧ s.cursor = t.cursor))) ∧ Below w.heap.size w w' := by
 go_enter Try.func64, Try.ntmps64
 go_wp2
 all_goals
  go_ret
  refine ⟨?_, ((Below.refl _ _).alloc (Nat.le_refl _) _).alloc (by simp) _⟩
  first
  | (rw [decide_eq_false (by omega)]; try rfl)
  | (rw [decide_eq_true (by omega)]; try rfl)
end Go.Proofs.Ytajnlhalanhicaa

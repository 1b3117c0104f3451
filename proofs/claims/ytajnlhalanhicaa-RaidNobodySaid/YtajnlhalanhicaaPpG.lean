/-
  THE WALKS over a log's calls: Clear, Get; a nil log.
-/
import Derived.Test.YtajnlhalanhicaaPpL
namespace Go.Proofs.Ytajnlhalanhicaa
set_option linter.all false
set_option maxRecDepth 20000
open Go.RowKit

section
variable {X : Nat → Prop} {a g l slots : Nat} {w w1 w' : World} {s s' : ShM} {D : DevM}
theorem made_zero : ∀ W : World, (Instr.makeSlice 32 (.int .i64 128) (.int .i64 128)).run Try.prog W = .ok (.slice (some ⟨W.heap.size, 0, none⟩) 128 128) (W.alloc (.cells (bVs zeroSec).toArray 5)) := fun W => by
  have h := run_make_rd (P := Try.prog) 32 5 Try.underlying32 Try.infoU8 .i64 .i64 128 (by omega) W
  exact h
theorem zeroSec_len : zeroSec.length = 128 := by simp [zeroSec]
set_option maxRecDepth 100000 in
set_option maxHeartbeats 4000000 in
theorem lg_clear (h : DvX X a g w s D) (hl : LogRow w l a slots) (hX : X l) (hs8 : slots ≤ 8) (hroom : Room 999999999980 s) (slot : Int) :
    Calls Try.prog 44 #[.pointer (some ⟨l, 0, none⟩), .int .i64 slot] w (WrPost X a g w (logClear s D slots slot)) := by
  have hct := lg_at hl slot hs8
  unfold atN atE at hct
  cases hk : slotOk slots slot with
  | false =>
    rw [show logClear s D slots slot = (1, s, D) from by unfold logClear; rw [hk]; rfl]
    rw [hk] at hct
    simp only [Bool.false_eq_true, if_false] at hct
    replace h := Lib.hid h
    clear hl hk
    go_enter Try.func44, Try.ntmps44
    go_wp2_with fail
    refine hct.mono ?_
    rintro e wx ⟨rfl, rfl⟩
    go_wp2_with fail
    go_ret
    exact ⟨rfl, h.out, Kept.refl _ _⟩
  | true =>
    obtain ⟨n, rfl⟩ := Int.eq_ofNat_of_zero_le (of_decide_eq_true hk).1
    have hn8 : n < slots := by have := (of_decide_eq_true hk).2; omega
    rw [show logClear s D slots n = devWrite s D (2 + 2 * (n : Int)) zeroSec from by unfold logClear; rw [hk]; rfl]
    rw [hk] at hct
    simp only [if_true] at hct
    have hmk := made_zero
    have hzl := zeroSec_len
    have hlc := hl.c0
    have hllt := hl.lt
    have ho : Own (w.alloc (.cells (bVs zeroSec).toArray 5)).drew 5 w.heap.size (.slice (some ⟨w.heap.size, 0, none⟩) 128 128) zeroSec := Own.lit w 5 zeroSec 128 hzl (by omega)
    have hcw := su_write_new h (w1 := (w.alloc (.cells (bVs zeroSec).toArray 5)).drew) (below_made' _ _).drew (hroom.mono (by omega)) (2 + 2 * (n : Int)) (by omega) (by omega) _ 128 128 _ zeroSec ho hzl
    replace h := Lib.hid h
    generalize zeroSec = z0 at *
    clear hk hzl ho hroom hl
    have hS1 : (w.alloc (.cells (bVs z0).toArray 5)).drew.cell? ⟨l, 0, none⟩ = some (.pointer (some ⟨a, 0, none⟩)) := (World.cell?_alloc_lt _ _ _ hllt).trans hlc
    go_enter Try.func44, Try.ntmps44
    go_wp2_with fail
    refine hct.mono ?_
    rintro e wx ⟨rfl, rfl⟩
    clear hct
    go_wp2_with fail
    refine wp_region_held_drew (S := (fun W => W.cell? ⟨l, 0, none⟩ = some (.pointer (some ⟨a, 0, none⟩)))) (by kernel_rfl) ?_ (fun hHeld => ?_)
    · (try dsimp only)
      exact hlc
    refine wpAnyH_take (i := 0) (oi := ⟨_, _, _, _, _, _⟩) (v := ?v1) rfl (by kernel_rfl) (by kernel_rfl) (by kernel_rfl) (fun _ _ _ h => h) (Or.inl ⟨by rfl, ?hy1⟩) (by assumption) ?rest1
    case hy1 => (intro w hSw; (try dsimp only at hSw); go_simp; try with_reducible rfl)
    (try simp only [Act.put, List.setIfInBounds_toArray, List.set_cons_zero, List.set_cons_succ])
    refine wpAnyH_take (i := 1) (oi := ⟨_, _, _, _, _, _⟩) (v := ?v2) rfl (by kernel_rfl) (by kernel_rfl) (by kernel_rfl) (fun _ _ _ h => h) (Or.inl ⟨by rfl, ?hy2⟩) (by assumption) ?rest2
    case hy2 => (intro w hSw; (try dsimp only at hSw); go_simp; try with_reducible rfl)
    (try simp only [Act.put, List.setIfInBounds_toArray, List.set_cons_zero, List.set_cons_succ])
    refine wpAnyH_take (i := 2) (oi := ⟨_, _, _, _, _, _⟩) (v := ?v3) rfl (by kernel_rfl) (by kernel_rfl) (by kernel_rfl) (fun _ _ _ h => h) (Or.inl ⟨by rfl, ?hy3⟩) (by assumption) ?rest3
    case hy3 => (intro w hSw; (try dsimp only at hSw); go_simp; try with_reducible rfl)
    (try simp only [Act.put, List.setIfInBounds_toArray, List.set_cons_zero, List.set_cons_succ])
    refine wpAnyH_take (i := 3) (oi := ⟨_, _, _, _, _, _⟩) (v := ?v4) rfl (by kernel_rfl) (by kernel_rfl) (by kernel_rfl) (fun _ _ _ h => h) (Or.inl ⟨by rfl, ?hy4⟩) (by assumption) ?rest4
    case hy4 => (intro w hSw; (try dsimp only at hSw); go_simp; try with_reducible rfl)
    (try simp only [Act.put, List.setIfInBounds_toArray, List.set_cons_zero, List.set_cons_succ])
    refine wpAnyH_take (i := 4) (oi := ⟨_, _, _, _, _, _⟩) (v := ?v5) rfl (by kernel_rfl) (by kernel_rfl) (by kernel_rfl) (fun _ _ _ h => h) (Or.inl ⟨by rfl, ?hy5⟩) (by assumption) ?rest5
    case hy5 => (intro w hSw; (try dsimp only at hSw); go_simp; try with_reducible rfl)
    (try simp only [Act.put, List.setIfInBounds_toArray, List.set_cons_zero, List.set_cons_succ])
    refine wpAnyH_ready (rs := [5]) (by kernel_rfl) (by simp) ?_
    refine AllReadyH.cons (o := ⟨_, _, _, _, _, _⟩) rfl (fun K hK => ?_) AllReadyH.nil
    go_simp
    refine hK.out _ _ ?_ (fun hHeld2 => ?_)
    · (try dsimp only)
      first | exact hHeld | exact hS1 | exact hS2
    clear hK K
    replace hHeld := hHeld2
    clear hHeld2
    (try simp only [Act.put, List.setIfInBounds_toArray, List.set_cons_zero, List.set_cons_succ])
    refine wpAnyH_ready (rs := [6]) (by kernel_rfl) (by simp) ?_
    refine AllReadyH.cons (o := ⟨_, _, _, _, _, _⟩) rfl (fun K hK => ?_) AllReadyH.nil
    go_simp
    with_reducible refine hcw.mono ?_
    rintro e w2 ⟨rfl, hD2, hK2⟩
    have hS2 : w2.cell? ⟨l, 0, none⟩ = some (.pointer (some ⟨a, 0, none⟩)) := (World.cell?_of_block (hK2.block l hX)).trans hlc
    (try go_wp2_with fail)
    refine hK.out _ _ ?_ (fun hHeld2 => ?_)
    · (try dsimp only)
      first | exact hHeld | exact hS1 | exact hS2
    clear hK K
    replace hHeld := hHeld2
    clear hHeld2
    (try simp only [Act.put, List.setIfInBounds_toArray, List.set_cons_zero, List.set_cons_succ])
    refine wpAnyH_take (i := 7) (oi := ⟨_, _, _, _, _, _⟩) (v := ?v6) rfl (by kernel_rfl) (by kernel_rfl) (by kernel_rfl) (fun _ _ _ h => h) (Or.inl ⟨by rfl, ?hy6⟩) (by assumption) ?rest6
    case hy6 => (intro w hSw; (try dsimp only at hSw); go_simp; try with_reducible rfl)
    (try simp only [Act.put, List.setIfInBounds_toArray, List.set_cons_zero, List.set_cons_succ])
    refine wpAnyH_done (by kernel_rfl) ?_ _
    go_wp2
    go_ret
    exact ⟨rfl, hD2, hK2⟩
theorem lg_put_nil (slot : Int) (r : Rec) (A : Option Addr) (L c : Nat) (w : World) : Calls Try.prog 82 #[.pointer none, .int .i64 slot, .agg #[.int .i64 r.stripe, .int .i64 r.place, .slice A L c]] w fun e w' => e = .returned (.int .i64 2) ∧ Below w.heap.size w w' := by
  have hct := lg_at_nil slot (w.alloc (.cells #[.int .i64 r.stripe, .int .i64 r.place, .slice A L c] 150))
  have hb := below_made' w (.cells #[.int .i64 r.stripe, .int .i64 r.place, .slice A L c] 150)
  go_enter Try.func82, Try.ntmps82
  go_wp2_with fail
  refine hct.mono ?_
  rintro e wx ⟨rfl, rfl⟩
  go_wp2_with fail
  go_ret
  exact ⟨rfl, hb⟩
theorem lg_clear_nil (slot : Int) (w : World) : Calls Try.prog 44 #[.pointer none, .int .i64 slot] w fun e w' => e = .returned (.int .i64 2) ∧ w = w' := by
  have hct := lg_at_nil slot w
  go_enter Try.func44, Try.ntmps44
  go_wp2_with fail
  refine hct.mono ?_
  rintro e wx ⟨rfl, rfl⟩
  go_wp2_with fail
  go_ret
  exact ⟨rfl, rfl⟩
theorem lg_get_nil (slot : Int) (w : World) : Calls Try.prog 93 #[.pointer none, .int .i64 slot] w fun e w' => e = .returned (.tuple #[.agg #[.int .i64 0, .int .i64 0, .slice none 0 0], .int .i64 2]) ∧ Below w.heap.size w w' := by
  have hct := lg_at_nil slot (w.alloc (.cells #[.int .i64 0, .int .i64 0, .slice none 0 0] 150))
  go_enter Try.func93, Try.ntmps93
  go_wp2_with fail
  refine hct.mono ?_
  rintro e wx ⟨rfl, rfl⟩
  go_wp2_with fail
  exact bodyPost_ret (results_row_tmp rfl _ _ w.heap.size 150 _ _ _ rfl (heap_alloc_new _ _) Try.underlying150 rfl (by kernel_rfl)) rfl ⟨rfl, below_made' _ _⟩
end
end Go.Proofs.Ytajnlhalanhicaa

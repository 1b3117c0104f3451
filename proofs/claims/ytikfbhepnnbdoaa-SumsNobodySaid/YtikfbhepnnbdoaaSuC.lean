/-
  A disk's blocks in memory; THE WALKS over Flush, Dead, Blocks, Open, sector, Read.
-/
import Derived.Test.YtikfbhepnnbdoaaSuB
import Derived.Test.YtikfbhepnnbdoaaShTwo
import Derived.Test.YtikfbhepnnbdoaaShLen
import Derived.StillTailTactics
namespace Go.Proofs.Ytikfbhepnnbdoaa
set_option linter.all false
open Go.RowKit

/-- the block a says D of the shelf at g, which holds s; whatever lies in X lies elsewhere -/
structure DvX (X : Nat → Prop) (a g : Nat) (w : World) (s : ShM) (D : DevM) : Prop where
  sh : ShX (fun b => X b ∨ b = a) g w s
  row : w.heap[a]? = some (.cells (devR g D) 78)
  out : ¬ X a
  disk : D.disk < s.disks.length
  size : D.size < 4096
section
variable {X : Nat → Prop} {a g : Nat} {w w' : World} {s s' : ShM} {D : DevM}
theorem DvX.lt (h : DvX X a g w s D) : ∀ b, X b → b < w.heap.size := fun b hb => h.sh.lt b (.inl hb)
theorem DvX.alt (h : DvX X a g w s D) : a < w.heap.size := lt_of_blk h.row
theorem DvX.mono (h : DvX X a g w s D) {Y : Nat → Prop} (hY : ∀ b, Y b → X b) : DvX Y a g w s D :=
  ⟨h.sh.mono fun b hb => hb.imp (hY b) id, h.row, fun hb => h.out (hY a hb), h.disk, h.size⟩
theorem DvX.below (h : DvX X a g w s D) (hb : Below w.heap.size w w') : DvX X a g w' s D :=
  ⟨h.sh.below hb, (hb.block a h.alt).trans h.row, h.out, h.disk, h.size⟩
theorem DvX.drew (h : DvX X a g w s D) : DvX X a g w.drew s D := h.below (Below.refl _ _).drew
theorem DvX.alloc (h : DvX X a g w s D) (o : Obj) : DvX X a g (w.alloc o) s D := h.below ((Below.refl _ _).alloc (Nat.le_refl _) _)
/-- a call of the shelf -/
theorem DvX.step (h : DvX X a g w s D) (hS : ShX (fun b => X b ∨ b = a) g w' s') (hK : Kept (fun b => X b ∨ b = a) w w') (hl : s'.disks.length = s.disks.length) : DvX X a g w' s' D ∧ Kept X w w' :=
  ⟨⟨hS, (hK.block a (.inr rfl)).trans h.row, h.out, by rw [hl]; exact h.disk, h.size⟩, hK.mono fun b hb => .inl hb⟩
theorem DvX.more (h : DvX X a g w s D) (hb : Below w.heap.size w w') {Y : Nat → Prop} (hY : ∀ b, Y b → b < w'.heap.size ∧ (X b ∨ w.heap.size ≤ b)) : DvX Y a g w' s D := by
  refine ⟨h.sh.more hb.size (fun b hlt _ => hb.block b hlt) fun b hx => ?_, (hb.block a h.alt).trans h.row, fun hx => ?_, h.disk, h.size⟩
  · rcases hx with hx | hx
    · obtain ⟨h1, h2⟩ := hY b hx
      exact ⟨h1, h2.imp (fun h => .inl h) id⟩
    · subst hx
      exact ⟨Nat.lt_of_lt_of_le h.alt hb.size, .inl (.inr rfl)⟩
  · rcases (hY a hx).2 with h1 | h1
    · exact h.out h1
    · have := h.alt; omega
theorem DvX.c0 (h : DvX X a g w s D) : w.cell? ⟨a, 0, none⟩ = some (.pointer (some ⟨g, 0, none⟩)) := (cell_of_row w a 0 _ _ _ h.row).trans rfl
theorem DvX.c1 (h : DvX X a g w s D) : w.cell? ⟨a, 1, none⟩ = some (.int .i64 (D.disk : Int)) := (cell_of_row w a 1 _ _ _ h.row).trans rfl
theorem DvX.c2 (h : DvX X a g w s D) : w.cell? ⟨a, 2, none⟩ = some (.int .i64 (D.size : Int)) := (cell_of_row w a 2 _ _ _ h.row).trans rfl
theorem DvX.c3 (h : DvX X a g w s D) : w.cell? ⟨a, 3, none⟩ = some (.int .i64 D.opn) := (cell_of_row w a 3 _ _ _ h.row).trans rfl
theorem DvX.fr (h : DvX X a g w s D) (i : Nat) : w.frozen? ⟨a, i, none⟩ = false := frozen_of_row w a i _ _ h.row
/-- the open block is another one -/
theorem DvX.setOpn (h : DvX X a g w s D) (z : Int) : DvX X a g (w.setCell ⟨a, 3, none⟩ (.int .i64 z)) s { D with opn := z } := by
  refine ⟨?_, (heap_setCell_same w a 3 _ _ _ h.row).trans rfl, h.out, h.disk, h.size⟩
  obtain ⟨h0, F, h1, h2, h3⟩ := h.sh
  refine ⟨fun b hb => by simpa [World.setCell] using h0 b hb, F, h1.of_blocks fun b hb => heap_setCell_other w ⟨a, 3, none⟩ b _ (fun e => h3 b hb (.inr e)), h2, h3⟩
theorem Kept.setCell {a : Addr} (hx : ¬ X a.block) (u : Value) : Kept X w (w.setCell a u) :=
  ⟨rfl, rfl, rfl, by simp [World.setCell], fun k hk => heap_setCell_other w a k u (fun e => hx (e ▸ hk))⟩

theorem flush_len (s : ShM) (d : Int) : (s.flushR d).2.disks.length = s.disks.length := by
  simp only [ShM.flushR]
  split
  · split
    · rw [ShM.set_len, spend_disks]
    · rfl
  · rfl
theorem write_len (s : ShM) (d n : Int) (b : Bytes) : (s.writeR d n b).2.disks.length = s.disks.length := by
  simp only [ShM.writeR]
  split
  · split
    · rw [ShM.set_len, spend_disks]
    · rfl
  · rfl
theorem readR_disks (s : ShM) (d n : Int) : (s.readR d n).2.2.disks = s.disks := by
  simp only [ShM.readR]
  split
  · split <;> rfl
  · rfl

set_option maxRecDepth 10000 in
set_option maxHeartbeats 1000000 in
theorem su_flush (h : DvX X a g w s D) : Calls Try.prog 23 #[.pointer (some ⟨a, 0, none⟩)] w fun e w' =>
    e = .returned (.int .i64 (devFlush s D).1) ∧ DvX X a g w' (devFlush s D).2.1 (devFlush s D).2.2 ∧ Kept X w w' := by
  have c0 := h.c0
  have c1 := h.c1
  have hct := lx_flush h.drew.sh D.disk
  have hlen := flush_len s D.disk
  have halt := h.alt
  go_enter Try.func23, Try.ntmps23
  go_wp2_with fail
  go_still_tail 8, (by kernel_rfl)
  change wpList _ _ _ _ _ w.drew
  go_wp2_with fail
  refine hct.mono ?_
  rintro e w1 ⟨rfl, hS1, hK1⟩
  obtain ⟨h1, hK1⟩ := h.drew.step hS1 hK1 hlen
  clear hct hS1
  by_cases he : (s.flushR D.disk).1 = 0
  · have hb : ((s.flushR D.disk).1 == 0) = true := by rw [he]; rfl
    have f3 := h1.fr 3
    have f0 := h1.alt
    have c3 := h1.c3
    replace he := Lib.hid he
    go_wp2
    go_ret
    refine ⟨rfl, ?_, (Kept.drew X w).trans (hK1.trans (Kept.setCell h1.out _))⟩
    have h2 := h1.setOpn (-1)
    simp only [devFlush, he.out, if_true]
    exact h2
  · have hb : ((s.flushR D.disk).1 == 0) = false := beq_eq_false_iff_ne.2 he
    replace he := Lib.hid he
    go_wp2
    go_ret
    refine ⟨rfl, ?_, (Kept.drew X w).trans hK1⟩
    simp only [devFlush, he.out, if_false]
    exact h1
theorem su_flush_nil (w : World) : Calls Try.prog 23 #[.pointer none] w fun e w' => e = .returned (.int .i64 2) ∧ w = w' := by
  go_enter Try.func23, Try.ntmps23
  go_wp2
  go_ret
  exact ⟨rfl, rfl⟩
theorem su_dblocks (h : DvX X a g w s D) : Calls Try.prog 20 #[.pointer (some ⟨a, 0, none⟩)] w fun e w' => e = .returned (.int .i64 (D.size : Nat)) ∧ w = w' := by
  have c2 := h.c2
  have halt := h.alt
  go_enter Try.func20, Try.ntmps20
  go_wp2
  go_ret
  exact ⟨rfl, rfl⟩
theorem su_dblocks_nil (w : World) : Calls Try.prog 20 #[.pointer none] w fun e w' => e = .returned (.int .i64 0) ∧ w = w' := by
  go_enter Try.func20, Try.ntmps20
  go_wp2
  go_ret
  exact ⟨rfl, rfl⟩
theorem su_dead_nil (w : World) : Calls Try.prog 28 #[.pointer none] w fun e w' => e = .returned (.bool false) ∧ ∃ n, w' = w.drewN n := by
  go_enter Try.func28, Try.ntmps28
  go_wp2_with fail
  go_quiet (fail)
  go_wp2
  go_ret
  exact ⟨rfl, _, rfl⟩
theorem su_dead (h : DvX X a g w s D) : Calls Try.prog 28 #[.pointer (some ⟨a, 0, none⟩)] w fun e w' => e = .returned (.bool (s.disk D.disk).dead) ∧ ∃ n, w' = w.drewN n := by
  have c0 := h.c0
  have c1 := h.c1
  have halt := h.alt
  have hdd : s.deadR D.disk = (s.disk D.disk).dead := by
    have hok := h.sh.ok
    have hh : s.has D.disk 0 = true := by
      simp only [ShM.has, decide_eq_true_eq]
      exact ⟨by omega, by have := h.disk; omega, by omega, by have := hok.sectors1; omega⟩
    simp [ShM.deadR, hh]
  have hct := lx_dead h.sh.drew D.disk
  rw [hdd] at hct
  clear hdd
  go_enter Try.func28, Try.ntmps28
  go_wp2_with fail
  go_region_held3 (fun w' => w'.cell? ⟨a, 0, none⟩ = some (.pointer (some ⟨g, 0, none⟩)) ∧ w'.cell? ⟨a, 1, none⟩ = some (.int .i64 (D.disk : Int))) (first | assumption | exact ⟨c0, c1⟩) (first | (go_at_call 47; with_reducible refine hct.mono ?_; rintro e wx ⟨rfl, rfl⟩))
  all_goals
    go_wp2
    go_ret
    exact ⟨rfl, 1, rfl⟩
end
end Go.Proofs.Ytikfbhepnnbdoaa

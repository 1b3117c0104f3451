/-
  ShelfSure's plain facts: what was flushed stays.
-/
import Derived.Test.YtffdpipmfdkaoaaShS
import Derived.Test.YtffdpipmfdkaoaaShV
namespace Go.Proofs.Ytffdpipmfdkaoaa
set_option linter.all false
open Go.RowKit

theorem settleL_not (keeps : Nat → Bool) (n : Nat) : ∀ (l : List (Nat × Bytes)) (j : Nat) (sure : List Bytes), (∀ x ∈ l, x.1 ≠ n) → (settleL keeps j l sure).getD n [] = sure.getD n []
  | [], _, _, _ => rfl
  | x :: l, j, sure, h => by
    rw [settleL, settleL_not keeps n l _ _ (fun y hy => h y (List.mem_cons_of_mem _ hy))]
    split
    · have hx := h x List.mem_cons_self
      simp only [List.getD_eq_getElem?_getD, List.getElem?_set_ne hx]
    · rfl

structure SureInv (n : Nat) (b : UInt8) (s : ShM) : Prop where
  disks : s.disks.length = 3
  sectors : s.sectors = 8
  alive : (s.disk 2).dead = false
  sure : (s.disk 2).sure.getD n [] = secOf b
  none_ : ∀ x ∈ (s.disk 2).waits, x.1 ≠ n
section
variable {n : Nat} {b : UInt8} {s t : ShM}
theorem SureInv.same (h : SureInv n b s) (hd : t.disks = s.disks) (hs : t.sectors = s.sectors) : SureInv n b t :=
  ⟨by rw [hd]; exact h.disks, hs.trans h.sectors, by rw [disk_of_disks hd]; exact h.alive, by rw [disk_of_disks hd]; exact h.sure, by rw [disk_of_disks hd]; exact h.none_⟩
theorem SureInv.set (h : SureInv n b s) (d : Nat) (k : DiskM) (hk : d = 2 → k.dead = false ∧ k.sure.getD n [] = secOf b ∧ ∀ x ∈ k.waits, x.1 ≠ n) : SureInv n b (s.setDisk d k) := by
  by_cases e : d = 2
  · subst e
    have h2 := s.disk_set (d := 2) (by rw [h.disks]; omega) k
    obtain ⟨k1, k2, k3⟩ := hk rfl
    exact ⟨by rw [s.set_len]; exact h.disks, h.sectors, by rw [h2]; exact k1, by rw [h2]; exact k2, by rw [h2]; exact k3⟩
  · have h2 := s.disk_set_ne (d := d) (e := 2) (fun x => e x.symm) k
    exact ⟨by rw [s.set_len]; exact h.disks, h.sectors, by rw [h2]; exact h.alive, by rw [h2]; exact h.sure, by rw [h2]; exact h.none_⟩
theorem spend_sectors (s : ShM) : s.spend.tick.sectors = s.sectors := by simp only [ShM.tick, ShM.spend]; split <;> rfl
theorem has_nonneg {d m : Int} (h : s.has d m = true) : 0 ≤ d ∧ 0 ≤ m := by
  simp only [ShM.has, decide_eq_true_eq] at h
  exact ⟨h.1, h.2.2.1⟩
theorem SureInv.write (h : SureInv n b s) (d m : Int) (bs : Bytes) (hx : ¬ (d = 2 ∧ m = n)) : SureInv n b (s.writeR d m bs).2 := by
  simp only [ShM.writeR]
  split
  · rename_i hh
    split
    · refine (h.same (spend_disks s) (spend_sectors s)).set _ _ fun e => ?_
      obtain ⟨h0, h1⟩ := has_nonneg hh.1
      have hm : m.toNat ≠ n := fun e' => hx ⟨by omega, by omega⟩
      rw [e]
      refine ⟨h.alive, h.sure, fun x hx => ?_⟩
      rcases List.mem_append.1 hx with hx | hx
      · exact h.none_ x hx
      · rw [List.mem_singleton.1 hx]
        exact hm
    · exact h
  · exact h
theorem SureInv.flush (h : SureInv n b s) (d : Int) : SureInv n b (s.flushR d).2 := by
  simp only [ShM.flushR]
  split
  · split
    · refine (h.same (spend_disks s) (spend_sectors s)).set _ _ fun e => ?_
      rw [e]
      exact ⟨h.alive, (settleL_not _ n _ _ _ h.none_).trans h.sure, fun x hx => by cases hx⟩
    · exact h
  · exact h
theorem SureInv.crash (h : SureInv n b s) (keep : List (List Int)) : SureInv n b (s.crash keep) := by
  have hd := crash_disk s keep (e := 2) (by rw [h.disks]; omega)
  exact ⟨by simp [ShM.crash, h.disks], h.sectors, by rw [hd]; exact h.alive, by rw [hd]; exact (settleL_not _ n _ _ _ h.none_).trans h.sure, by rw [hd]; exact fun x hx => by cases hx⟩
theorem SureInv.stop (h : SureInv n b s) (m : Int) : SureInv n b (s.stop m) := by
  simp only [ShM.stop]
  split
  · exact h
  · exact h.same rfl rfl
theorem sure_read (h : SureInv n b s) (hn : n < 8) (keep : List (List Int)) : (s.crash keep).readR 2 n = (secOf b, 0, (s.crash keep).tick) := by
  have hi := h.crash keep
  have hd := crash_disk s keep (e := 2) (by rw [h.disks]; omega)
  have hh : (s.crash keep).has 2 n = true := by
    simp only [ShM.has, hi.disks, hi.sectors, decide_eq_true_eq]
    omega
  have hst : (s.crash keep).stops = false := rfl
  have ho : (s.crash keep).off = false := by simp only [ShM.off, hst, Bool.false_and]
  have hw : (s.crash keep).why 2 = 0 := by simp only [ShM.why, ho, hi.alive, Bool.false_eq_true, if_false]
  have h2 : ((2 : Int).toNat) = 2 := rfl
  have hr : ((s.crash keep).disk 2).read n = secOf b := by
    have hs := hi.sure
    have hn : ((s.crash keep).disk 2).waits = [] := by rw [hd]; rfl
    simp only [DiskM.read, hn, lastOf, List.reverse_nil, List.find?_nil, Option.map_none, Option.getD_none]
    exact hs
  simp only [ShM.readR, hh, if_true, h2, hw, Int.toNat_natCast, hr]

def ss1 (n : Nat) (b : UInt8) : ShM := ((freshSh 3 8).writeR 2 n (secOf b)).2
def ss2 (n : Nat) (b : UInt8) : ShM := ((ss1 n b).flushR 2).2
theorem ss_cases {n : Nat} (hn : n < 8) : n = 0 ∨ n = 1 ∨ n = 2 ∨ n = 3 ∨ n = 4 ∨ n = 5 ∨ n = 6 ∨ n = 7 := by omega
set_option maxRecDepth 5000 in
theorem ss_write (hn : n < 8) (b : UInt8) : ((freshSh 3 8).writeR 2 n (secOf b)).1 = 0 := by
  rcases ss_cases hn with rfl | rfl | rfl | rfl | rfl | rfl | rfl | rfl <;> kernel_rfl
set_option maxRecDepth 5000 in
theorem ss_flush (hn : n < 8) (b : UInt8) : ((ss1 n b).flushR 2).1 = 0 := by
  rcases ss_cases hn with rfl | rfl | rfl | rfl | rfl | rfl | rfl | rfl <;> kernel_rfl
set_option maxRecDepth 5000 in
theorem ss_start (hn : n < 8) (b : UInt8) : SureInv n b (ss2 n b) := by
  have hw : ((ss2 n b).disk 2).waits = [] := by rcases ss_cases hn with rfl | rfl | rfl | rfl | rfl | rfl | rfl | rfl <;> kernel_rfl
  refine ⟨?_, ?_, ?_, ?_, fun x hx => by rw [hw] at hx; cases hx⟩ <;> (rcases ss_cases hn with rfl | rfl | rfl | rfl | rfl | rfl | rfl | rfl <;> kernel_rfl)
theorem ss_not (m : Int) (hm : ¬ (0 ≤ m ∧ m < 8)) (b : UInt8) : ((freshSh 3 8).writeR 2 m (secOf b)).1 = 1 := by
  have hs : (freshSh 3 8).sectors = 8 := rfl
  simp only [ShM.writeR, ShM.has, hs]
  rw [if_neg]
  simp only [decide_eq_true_eq]
  omega
theorem ss_room (n : Nat) (b : UInt8) (m : Int) : Room 1 ((ss2 n b).stop m) := room_stop (room_flush (room_write (room_fresh 3 8) _ _ _) _) m
end
end Go.Proofs.Ytffdpipmfdkaoaa

/-
  ShelfStops' plain facts: how much power is left.
-/
import Derived.Test.YtffdpipmfdkaoaaShS
import Derived.Test.YtffdpipmfdkaoaaShV
namespace Go.Proofs.Ytffdpipmfdkaoaa
set_option linter.all false
open Go.RowKit

/-- so many writes and flushes were done since Stop(n) -/
structure StopInv (n : Int) (k : Nat) (s : ShM) : Prop where
  disks : s.disks.length = 2
  sectors : s.sectors = 8
  alive : (s.disk 0).dead = false
  free : n < 0 → s.stops = false
  left : 0 ≤ n → s.stops = true ∧ s.left = n - k ∧ (k : Int) ≤ n
theorem StopInv.off {n : Int} {k : Nat} {s : ShM} (h : StopInv n k s) : s.off = decide (0 ≤ n ∧ n ≤ (k : Int)) := by
  by_cases hn : 0 ≤ n
  · obtain ⟨h1, h2, h3⟩ := h.left hn
    simp only [ShM.off, h1, h2, Bool.true_and, hn, true_and]
    congr 1
    apply propext
    constructor <;> intro h <;> omega
  · simp only [ShM.off, h.free (by omega), Bool.false_and, hn, false_and, decide_false]
theorem StopInv.spend {n : Int} {k : Nat} {s : ShM} (h : StopInv n k s) (hn : n ≤ 9223372036854775807) (ho : ¬ (0 ≤ n ∧ n ≤ (k : Int))) : StopInv n (k + 1) s.spend.tick := by
  by_cases h0 : 0 ≤ n
  · obtain ⟨h1, h2, h3⟩ := h.left h0
    have hs : s.spend.tick.left = wrap64 (s.left - 1) ∧ s.spend.tick.stops = s.stops := ⟨by simp only [ShM.spend, ShM.tick, h1, if_true], by simp only [ShM.spend, ShM.tick, h1, if_true]⟩
    refine ⟨by rw [spend_disks]; exact h.disks, ?_, by rw [disk_of_disks (spend_disks s)]; exact h.alive, fun h => by omega, fun _ => ⟨hs.2.trans h1, ?_, by omega⟩⟩
    · simp only [ShM.spend, ShM.tick, h1, if_true]
      exact h.sectors
    · rw [hs.1, h2]
      unfold wrap64
      omega
  · have hst := h.free (by omega)
    have hs : s.spend = s := by simp only [ShM.spend, hst, Bool.false_eq_true, if_false]
    rw [hs]
    exact ⟨h.disks, h.sectors, h.alive, fun _ => hst, fun h => absurd h h0⟩
theorem StopInv.set {n : Int} {k : Nat} {s : ShM} (h : StopInv n k s) (x : DiskM) (hx : x.dead = false) : StopInv n k (s.setDisk 0 x) := by
  refine ⟨by rw [s.set_len]; exact h.disks, h.sectors, ?_, h.free, h.left⟩
  rw [s.disk_set (by rw [h.disks]; omega)]
  exact hx
theorem StopInv.why {n : Int} {k : Nat} {s : ShM} (h : StopInv n k s) : s.why 0 = if 0 ≤ n ∧ n ≤ (k : Int) then 3 else 0 := by
  simp only [ShM.why, h.off, h.alive, Bool.false_eq_true, if_false, decide_eq_true_eq]
theorem StopInv.has {n : Int} {k : Nat} {s : ShM} (h : StopInv n k s) : s.has 0 1 = true ∧ s.has 0 0 = true := by
  simp only [ShM.has, h.disks, h.sectors]
  exact ⟨by decide, by decide⟩
theorem stop_write {n : Int} {k : Nat} {s : ShM} (h : StopInv n k s) (hn : n ≤ 9223372036854775807) (b : Bytes) (hb : b.length = 128) :
    if 0 ≤ n ∧ n ≤ (k : Int) then s.writeR 0 1 b = (3, s) else (s.writeR 0 1 b).1 = 0 ∧ StopInv n (k + 1) (s.writeR 0 1 b).2 := by
  have hw := h.why
  have h00 : ((0 : Int).toNat) = 0 := rfl
  by_cases ho : 0 ≤ n ∧ n ≤ (k : Int)
  · rw [if_pos ho] at hw ⊢
    simp [ShM.writeR, h.has.1, hb, hw, h00]
  · rw [if_neg ho] at hw ⊢
    have e : s.writeR 0 1 b = (0, (s.spend.tick).setDisk 0 ((s.disk 0).write 1 b)) := by
      simp [ShM.writeR, h.has.1, hb, hw, h00]
    rw [e]
    exact ⟨rfl, (h.spend hn ho).set _ h.alive⟩
theorem stop_flush {n : Int} {k : Nat} {s : ShM} (h : StopInv n k s) (hn : n ≤ 9223372036854775807) :
    if 0 ≤ n ∧ n ≤ (k : Int) then s.flushR 0 = (3, s) else (s.flushR 0).1 = 0 ∧ StopInv n (k + 1) (s.flushR 0).2 := by
  have hw := h.why
  have h00 : ((0 : Int).toNat) = 0 := rfl
  by_cases ho : 0 ≤ n ∧ n ≤ (k : Int)
  · rw [if_pos ho] at hw ⊢
    simp [ShM.flushR, h.has.2, hw, h00]
  · rw [if_neg ho] at hw ⊢
    have e : s.flushR 0 = (0, (s.spend.tick).setDisk 0 ((s.disk 0).settle fun _ => true)) := by
      simp [ShM.flushR, h.has.2, hw, h00]
    rw [e]
    exact ⟨rfl, (h.spend hn ho).set _ h.alive⟩
theorem stop_again {n : Int} {k : Nat} {s : ShM} (h : StopInv n k s) (ho : 0 ≤ n ∧ n ≤ (k : Int)) (m : Int) : s.stop m = s := by
  simp only [ShM.stop, h.off, ho, and_self, decide_true, if_true]
theorem stop_start (n : Int) : StopInv n 0 ((freshSh 2 8).stop n) := by
  have h0 : (freshSh 2 8).off = false := rfl
  have e : (freshSh 2 8).stop n = { freshSh 2 8 with left := max n 0, stops := decide (0 ≤ n) } := by simp only [ShM.stop, h0, Bool.false_eq_true, if_false]
  rw [e]
  refine ⟨rfl, rfl, rfl, fun h => by simp; omega, fun h => ⟨by simp; omega, ?_, by omega⟩⟩
  show max n 0 = n - ((0 : Nat) : Int)
  omega
theorem stop_crash {n : Int} {k : Nat} {s : ShM} (h : StopInv n k s) : (s.crash []).off = false ∧ ((s.crash []).writeR 0 1 (secOf 1)).1 = 0 := by
  have hl : (s.crash []).disks.length = 2 := by simp [ShM.crash, h.disks]
  have hst : (s.crash []).stops = false := rfl
  have ho : (s.crash []).off = false := by simp only [ShM.off, hst, Bool.false_and]
  have hd : ((s.crash []).disk 0).dead = false := by
    rw [crash_disk s [] (by rw [h.disks]; omega)]
    exact h.alive
  refine ⟨ho, ?_⟩
  have hh : (s.crash []).has 0 1 = true := by
    simp only [ShM.has, hl]
    have : (s.crash []).sectors = 8 := h.sectors
    rw [this]
    decide
  have h00 : ((0 : Int).toNat) = 0 := rfl
  have hw : (s.crash []).why 0 = 0 := by simp only [ShM.why, ho, hd, Bool.false_eq_true, if_false]
  simp [ShM.writeR, hh, secOf_len, h00, hw]
end Go.Proofs.Ytffdpipmfdkaoaa

/-
  Plain laws of the shelf: how many writes wait.
-/
import Derived.Test.YtikfbhepnnbdoaaShQ
namespace Go.Proofs.Ytikfbhepnnbdoaa
set_option linter.all false

def Room (N : Nat) (s : ShM) : Prop := ∀ e, (s.disk e).waits.length ≤ N
theorem Room.mono {N M : Nat} {s : ShM} (h : Room N s) (hm : N ≤ M) : Room M s := fun e => Nat.le_trans (h e) hm
theorem Room.at_ {N : Nat} {s : ShM} (h : Room N s) (e : Nat) : (s.disk e).waits.length ≤ N := h e
theorem disk_of_disks {s t : ShM} (h : s.disks = t.disks) (e : Nat) : s.disk e = t.disk e := by simp only [ShM.disk, h]
theorem Room.same {N : Nat} {s t : ShM} (h : Room N s) (ht : t.disks = s.disks) : Room N t := fun e => by rw [disk_of_disks ht]; exact h e
theorem Room.set {N : Nat} {s : ShM} (h : Room N s) (d : Nat) (k : DiskM) (hk : k.waits.length ≤ N) : Room N (s.setDisk d k) := by
  intro e
  by_cases hd : d < s.disks.length
  · by_cases he : e = d
    · subst he
      rw [s.disk_set hd]
      exact hk
    · rw [s.disk_set_ne he]
      exact h e
  · have : s.setDisk d k = s := by
      simp only [ShM.setDisk, List.set_eq_of_length_le (Nat.le_of_not_lt hd)]
    rw [this]
    exact h e
theorem spend_disks (s : ShM) : s.spend.tick.disks = s.disks := by simp only [ShM.tick, ShM.spend]; split <;> rfl
theorem room_fresh (d n : Nat) : Room 0 (freshSh d n) := by
  intro e
  simp only [freshSh, ShM.disk, List.getD_eq_getElem?_getD, List.getElem?_replicate]
  split <;> simp [freshDisk, noDisk]
theorem room_write {N : Nat} {s : ShM} (h : Room N s) (d n : Int) (b : Bytes) : Room (N + 1) (s.writeR d n b).2 := by
  simp only [ShM.writeR]
  split
  · split
    · refine Room.set ((h.mono (Nat.le_succ _)).same (spend_disks s)) _ _ ?_
      simp only [DiskM.write, List.length_append, List.length_singleton]
      have := h d.toNat
      omega
    · exact h.mono (Nat.le_succ _)
  · exact h.mono (Nat.le_succ _)
theorem room_flush {N : Nat} {s : ShM} (h : Room N s) (d : Int) : Room N (s.flushR d).2 := by
  simp only [ShM.flushR]
  split
  · split
    · exact Room.set (h.same (spend_disks s)) _ _ (by simp [DiskM.settle])
    · exact h
  · exact h
theorem room_kill {N : Nat} {s : ShM} (h : Room N s) (d : Int) : Room N (s.killR d).2 := by
  simp only [ShM.killR]
  split
  · exact Room.set h _ _ (h _)
  · exact h
theorem room_corrupt {N : Nat} {s : ShM} (h : Room N s) (d n a : Int) (b : UInt8) : Room N (s.corruptR d n a b).2 := by
  simp only [ShM.corruptR]
  split
  · split
    · exact Room.set h _ _ (h _)
    · exact h
  · exact h
theorem room_stop {N : Nat} {s : ShM} (h : Room N s) (n : Int) : Room N (s.stop n) := by
  simp only [ShM.stop]
  split
  · exact h
  · exact h.same rfl
theorem room_read {N : Nat} {s : ShM} (h : Room N s) (d n : Int) : Room N (s.readR d n).2.2 := by
  simp only [ShM.readR]
  split
  · split
    · exact h.same rfl
    · exact h
  · exact h
theorem crash_disk (s : ShM) (keep : List (List Int)) {e : Nat} (he : e < s.disks.length) : (s.crash keep).disk e = (s.disk e).settle (keepsOf keep e) := by
  simp only [ShM.crash, ShM.disk, List.getD_eq_getElem?_getD, List.getElem?_mapIdx, List.getElem?_eq_getElem he, Option.map_some, Option.getD_some]
theorem room_crash (s : ShM) (keep : List (List Int)) (N : Nat) : Room N (s.crash keep) := by
  intro e
  by_cases he : e < s.disks.length
  · rw [crash_disk s keep he]
    simp [DiskM.settle]
  · have : (s.crash keep).disk e = noDisk := by
      simp only [ShM.crash, ShM.disk, List.getD_eq_getElem?_getD, List.getElem?_mapIdx, List.getElem?_eq_none (Nat.le_of_not_lt he)]
      rfl
    rw [this]
    simp [noDisk]
end Go.Proofs.Ytikfbhepnnbdoaa

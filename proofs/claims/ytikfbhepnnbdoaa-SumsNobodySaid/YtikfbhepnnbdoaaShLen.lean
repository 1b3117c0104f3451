/-
  How long what a shelf's Read hands back is.
-/
import Derived.Test.YtikfbhepnnbdoaaShX
import Derived.Test.YtikfbhepnnbdoaaShS
namespace Go.Proofs.Ytikfbhepnnbdoaa
set_option linter.all false
theorem readR_len {s : ShM} (hok : s.Ok) (d n : Int) : (s.readR d n).1.length ≤ 128 := by
  simp only [ShM.readR]
  split
  · rename_i h
    obtain ⟨⟨h1, h2⟩, h3, h4⟩ := has_of h
    split
    · exact Nat.le_of_eq (read_len hok (by omega) (by omega))
    · simp
  · simp
/-- how much waits, told by a list -/
theorem room_list {s : ShM} {l : List Nat} {N : Nat} (h : (s.disks.map fun k => k.waits.length) = l) (hl : l.all (· ≤ N) = true) : Room N s := by
  intro e
  by_cases he : e < s.disks.length
  · have hm : (s.disk e).waits.length ∈ l := by
      rw [← h, ← s.disk_eq he]
      exact List.mem_map.2 ⟨_, List.getElem_mem he, rfl⟩
    have := List.all_eq_true.1 hl _ hm
    simpa using this
  · have : s.disk e = noDisk := by simp only [ShM.disk, List.getD_eq_getElem?_getD, List.getElem?_eq_none (Nat.le_of_not_lt he)]; rfl
    rw [this]
    exact Nat.zero_le _
end Go.Proofs.Ytikfbhepnnbdoaa

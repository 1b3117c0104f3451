/-
  ShelfApart's plain facts: two shelves whose disk 1 is the same.
-/
import Derived.Test.YtffdpipmfdkaoaaShOne
import Derived.Test.YtffdpipmfdkaoaaShSureM
namespace Go.Proofs.Ytffdpipmfdkaoaa
set_option linter.all false

structure ApartInv (s t : ShM) : Prop where
  s4 : s.disks.length = 4
  t4 : t.disks.length = 4
  s8 : s.sectors = 8
  t8 : t.sectors = 8
  same : s.disk 1 = t.disk 1
  runs : s.stops = false
  runt : t.stops = false
section
variable {s t : ShM}
theorem apart_start : ApartInv (freshSh 4 8) (freshSh 4 8) := ⟨rfl, rfl, rfl, rfl, rfl, rfl, rfl⟩
theorem spend_stops (s : ShM) : s.spend.tick.stops = s.stops := by simp only [ShM.tick, ShM.spend]; split <;> rfl
/-- what a call leaves of a shelf's form -/
structure FormOf (s s' : ShM) (d : Int) : Prop where
  len : s'.disks.length = s.disks.length
  sec : s'.sectors = s.sectors
  stops : s'.stops = s.stops
  other : ∀ e : Nat, (e : Int) ≠ d → s'.disk e = s.disk e
theorem FormOf.refl (s : ShM) (d : Int) : FormOf s s d := ⟨rfl, rfl, rfl, fun _ _ => rfl⟩
theorem FormOf.set {s s' : ShM} {d : Int} (h : FormOf s s' d) (hd : 0 ≤ d) (k : DiskM) : FormOf s (s'.setDisk d.toNat k) d :=
  ⟨by rw [s'.set_len]; exact h.len, h.sec, h.stops, fun e he => by rw [s'.disk_set_ne (by omega)]; exact h.other e he⟩
theorem FormOf.spend (s : ShM) (d : Int) : FormOf s s.spend.tick d := ⟨by rw [spend_disks], spend_sectors s, spend_stops s, fun e _ => disk_of_disks (spend_disks s) e⟩
theorem FormOf.tick (s : ShM) (d : Int) : FormOf s s.tick d := ⟨rfl, rfl, rfl, fun _ _ => rfl⟩
theorem form_read (s : ShM) (d n : Int) : FormOf s (s.readR d n).2.2 d := by
  simp only [ShM.readR]
  split
  · split
    · exact FormOf.tick s d
    · exact FormOf.refl s d
  · exact FormOf.refl s d
theorem form_write (s : ShM) (d n : Int) (b : Bytes) : FormOf s (s.writeR d n b).2 d := by
  simp only [ShM.writeR]
  split
  · rename_i h
    split
    · exact (FormOf.spend s d).set (has_nonneg h.1).1 _
    · exact FormOf.refl s d
  · exact FormOf.refl s d
theorem form_flush (s : ShM) (d : Int) : FormOf s (s.flushR d).2 d := by
  simp only [ShM.flushR]
  split
  · rename_i h
    split
    · exact (FormOf.spend s d).set (has_nonneg h).1 _
    · exact FormOf.refl s d
  · exact FormOf.refl s d
theorem form_kill (s : ShM) (d : Int) : FormOf s (s.killR d).2 d := by
  simp only [ShM.killR]
  split
  · rename_i h
    exact (FormOf.refl s d).set (has_nonneg h).1 _
  · exact FormOf.refl s d
theorem form_corrupt (s : ShM) (d n a : Int) (b : UInt8) : FormOf s (s.corruptR d n a b).2 d := by
  simp only [ShM.corruptR]
  split
  · rename_i h
    split
    · exact (FormOf.refl s d).set (has_nonneg h.1).1 _
    · exact FormOf.refl s d
  · exact FormOf.refl s d
theorem form_one (s : ShM) (o : OpM) : FormOf s (oneM s o) o.d := by
  unfold oneM
  split
  · exact form_read _ _ _
  · split
    · exact form_write _ _ _ _
    · split
      · exact form_flush _ _
      · split
        · exact form_kill _ _
        · split
          · exact form_corrupt _ _ _ _ _
          · exact FormOf.refl _ _
theorem apart_other (h : ApartInv s t) (o : OpM) (hd : o.d ≠ 1) : ApartInv (oneM s o) t := by
  have hf := form_one s o
  exact ⟨hf.len.trans h.s4, h.t4, hf.sec.trans h.s8, h.t8, (hf.other 1 (fun e => hd e.symm)).trans h.same, hf.stops.trans h.runs, h.runt⟩
theorem apart_has (h : ApartInv s t) (n : Int) : s.has 1 n = t.has 1 n := by simp only [ShM.has, h.s4, h.t4, h.s8, h.t8]
theorem apart_why (h : ApartInv s t) : s.why 1 = t.why 1 := by simp only [ShM.why, ShM.off, h.runs, h.runt, h.same, Bool.false_and]
theorem apart_set (h : ApartInv s t) {s' t' : ShM} (hs : s'.disks.length = 4) (ht : t'.disks.length = 4) (k : DiskM) : (s'.setDisk 1 k).disk 1 = (t'.setDisk 1 k).disk 1 := by
  rw [s'.disk_set (by omega), t'.disk_set (by omega)]
theorem apart_both (h : ApartInv s t) (o : OpM) (hd : o.d = 1) : ApartInv (oneM s o) (oneM t o) := by
  have hf := form_one s o
  have hg := form_one t o
  refine ⟨hf.len.trans h.s4, hg.len.trans h.t4, hf.sec.trans h.s8, hg.sec.trans h.t8, ?_, hf.stops.trans h.runs, hg.stops.trans h.runt⟩
  have e1 : ((1 : Int).toNat) = 1 := rfl
  have hss : s.spend.tick.disks.length = 4 := by rw [spend_disks]; exact h.s4
  have hst : t.spend.tick.disks.length = 4 := by rw [spend_disks]; exact h.t4
  clear hf hg
  unfold oneM
  rw [hd]
  split
  · simp only [ShM.readR, apart_has h, e1, apart_why h]
    split
    · split
      · exact h.same
      · exact h.same
    · exact h.same
  · split
    · simp only [ShM.writeR, apart_has h, e1, apart_why h, h.same]
      split
      · split
        · exact apart_set h hss hst _
        · exact h.same
      · exact h.same
    · split
      · simp only [ShM.flushR, apart_has h, e1, apart_why h, h.same]
        split
        · split
          · exact apart_set h hss hst _
          · exact h.same
        · exact h.same
      · split
        · simp only [ShM.killR, apart_has h, e1, h.same]
          split
          · exact apart_set h h.s4 h.t4 _
          · exact h.same
        · split
          · simp only [ShM.corruptR, apart_has h, e1, h.same]
            split
            · split
              · exact apart_set h h.s4 h.t4 _
              · exact h.same
            · exact h.same
          · exact h.same
theorem apart_crash (h : ApartInv s t) (keep : List (List Int)) : ApartInv (s.crash keep) (t.crash keep) :=
  ⟨by simp [ShM.crash, h.s4], by simp [ShM.crash, h.t4], h.s8, h.t8, by rw [crash_disk s keep (by rw [h.s4]; omega), crash_disk t keep (by rw [h.t4]; omega), h.same], rfl, rfl⟩
theorem apart_read (h : ApartInv s t) (n : Int) : (s.readR 1 n).1 = (t.readR 1 n).1 ∧ (s.readR 1 n).2.1 = (t.readR 1 n).2.1 ∧ ApartInv (s.readR 1 n).2.2 (t.readR 1 n).2.2 := by
  have hf := form_read s 1 n
  have hg := form_read t 1 n
  refine ⟨?_, ?_, hf.len.trans h.s4, hg.len.trans h.t4, hf.sec.trans h.s8, hg.sec.trans h.t8, ?_, hf.stops.trans h.runs, hg.stops.trans h.runt⟩
  all_goals
    have e1 : ((1 : Int).toNat) = 1 := rfl
    clear hf hg
    simp only [ShM.readR, apart_has h, e1, apart_why h, h.same]
    split
    · split <;> first | rfl | exact h.same
    · first | rfl | exact h.same
theorem apart_dead (h : ApartInv s t) : s.deadR 1 = t.deadR 1 := by
  have e1 : ((1 : Int).toNat) = 1 := rfl
  simp only [ShM.deadR, apart_has h, e1, h.same]
theorem room_one {N : Nat} (h : Room N s) (o : OpM) : Room (N + 1) (oneM s o) := by
  unfold oneM
  split
  · exact (room_read h _ _).mono (Nat.le_succ _)
  · split
    · exact room_write h _ _ _
    · split
      · exact (room_flush h _).mono (Nat.le_succ _)
      · split
        · exact (room_kill h _).mono (Nat.le_succ _)
        · split
          · exact (room_corrupt h _ _ _ _).mono (Nat.le_succ _)
          · exact h.mono (Nat.le_succ _)
theorem readR_len (hok : s.Ok) (d n : Int) : (s.readR d n).1.length ≤ 128 := by
  simp only [ShM.readR]
  split
  · rename_i h
    obtain ⟨⟨h1, h2⟩, h3, h4⟩ := has_of h
    split
    · exact Nat.le_of_eq (read_len hok (by omega) (by omega))
    · simp
  · simp
end
end Go.Proofs.Ytffdpipmfdkaoaa

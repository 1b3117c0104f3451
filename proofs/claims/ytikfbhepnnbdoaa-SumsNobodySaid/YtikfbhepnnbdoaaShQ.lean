/-
  A shelf in memory, said of the d-th disk without bounds in the terms; clearing what waits.
-/
import Derived.Test.YtikfbhepnnbdoaaShP
namespace Go.Proofs.Ytikfbhepnnbdoaa
set_option linter.all false
open Go.RowKit

def ShF.at_ (F : ShF) (d : Nat) : DiskF := F.fs.getD d ⟨0, 0, .slice none 0 0⟩
theorem ShF.at_eq (F : ShF) {d : Nat} (h : d < F.fs.length) : F.fs[d] = F.at_ d := by simp [ShF.at_, List.getD_eq_getElem?_getD, h]
theorem ShM.disk_eq (s : ShM) {d : Nat} (h : d < s.disks.length) : s.disks[d] = s.disk d := by simp [ShM.disk, List.getD_eq_getElem?_getD, h]
theorem ShM.disk_set (s : ShM) {d : Nat} (h : d < s.disks.length) (k : DiskM) : (s.setDisk d k).disk d = k := by simp [ShM.disk, ShM.setDisk, List.getD_eq_getElem?_getD, h]
theorem ShM.disk_set_ne (s : ShM) {d e : Nat} (h : e ≠ d) (k : DiskM) : (s.setDisk d k).disk e = s.disk e := by
  have h' : ¬ d = e := fun x => h x.symm
  simp [ShM.disk, ShM.setDisk, List.getD_eq_getElem?_getD, List.getElem?_set, h']
theorem ShM.set_set (s : ShM) (d : Nat) (k k' : DiskM) : (s.setDisk d k).setDisk d k' = s.setDisk d k' := by simp [ShM.setDisk]
theorem ShM.set_len (s : ShM) (d : Nat) (k : DiskM) : (s.setDisk d k).disks.length = s.disks.length := by simp [ShM.setDisk]
theorem ShM.set_self (s : ShM) (d : Nat) : s.setDisk d (s.disk d) = s := by
  obtain ⟨l, st, ds, se, co⟩ := s
  simp only [ShM.setDisk, ShM.disk, ShM.mk.injEq, true_and, and_true]
  apply List.ext_getElem?
  intro i
  rw [List.getElem?_set]
  split
  · subst d
    split
    · rename_i h
      simp [List.getD_eq_getElem?_getD, h]
    · rename_i h
      simp [List.getElem?_eq_none (Nat.le_of_not_lt h)]
  · rfl

section
variable {w w' : World} {F : ShF} {s : ShM} {f : Nat → Nat → Nat}
theorem ShAtM.okd (h : ShAtM w F s f) {d : Nat} (hd : d < s.disks.length) : (s.disk d).sure.length = s.sectors ∧ (∀ b ∈ (s.disk d).sure, b.length = 128) ∧ ∀ x ∈ (s.disk d).waits, x.1 < s.sectors ∧ x.2.length = 128 := by
  rw [← s.disk_eq hd]
  exact ⟨h.ok.sure _ (List.getElem_mem hd), h.ok.sec _ (List.getElem_mem hd), h.ok.waits _ (List.getElem_mem hd)⟩
theorem ShAtM.fd (h : ShAtM w F s f) {d : Nat} (hd : d < s.disks.length) : d < F.fs.length := by rw [h.fs]; exact hd
theorem ShAtM.e0 (h : ShAtM w F s f) {d : Nat} (hd : d < s.disks.length) : w.cell? ⟨F.gd, d * 3, none⟩ = some (.slice (some ⟨(F.at_ d).gs, 0, none⟩) (s.disk d).sure.length (F.at_ d).cs) := by
  rw [← s.disk_eq hd, ← F.at_eq (h.fd hd)]; exact h.d0 hd
theorem ShAtM.e1 (h : ShAtM w F s f) {d : Nat} (hd : d < s.disks.length) : w.cell? ⟨F.gd, d * 3 + 1, none⟩ = some (F.at_ d).wv := by
  rw [← F.at_eq (h.fd hd)]; exact h.d1 hd
theorem ShAtM.e2 (h : ShAtM w F s f) {d : Nat} (hd : d < s.disks.length) : w.cell? ⟨F.gd, d * 3 + 2, none⟩ = some (.bool (s.disk d).dead) := by
  rw [← s.disk_eq hd]; exact h.d2 hd
theorem ShAtM.esure (h : ShAtM w F s f) {d n : Nat} (hd : d < s.disks.length) (hn : n < (s.disk d).sure.length) : w.cell? ⟨(F.at_ d).gs, n, none⟩ = some (strV ((s.disk d).sure.getD n [])) := by
  rw [← F.at_eq (h.fd hd)]
  have hn' : n < (s.disks[d]).sure.length := by rw [s.disk_eq hd]; exact hn
  rw [h.sureC hd hn']
  congr 2
  simp only [s.disk_eq hd, List.getD_eq_getElem?_getD]
  simp [hn]
theorem ShAtM.efrozen (h : ShAtM w F s f) {d : Nat} (hd : d < s.disks.length) (i : Nat) : w.frozen? ⟨(F.at_ d).gs, i, none⟩ = false := by
  rw [← F.at_eq (h.fd hd)]; exact h.sfrozen hd i
theorem ShAtM.ewaits (h : ShAtM w F s f) {d : Nat} (hd : d < s.disks.length) : w.ownsRow 0 92 2 (F.at_ d).wv (s.disk d).waits.length (waitsV (s.disk d).waits) := by
  rw [← s.disk_eq hd, ← F.at_eq (h.fd hd)]; exact h.waits d hd
theorem ShF.mem_gs (F : ShF) {d : Nat} (h : d < F.fs.length) : (F.at_ d).gs ∈ F.blocks := by rw [← F.at_eq h]; exact F.mem_f h (by simp [DiskF.blocks])
theorem ShF.mem_wv (F : ShF) {d b : Nat} (h : d < F.fs.length) (hb : (F.at_ d).wv.ownBlock = some b) : b ∈ F.blocks := by rw [← F.at_eq h] at hb; exact F.mem_f h (by simp [DiskF.blocks, hb])
theorem ShAtM.gs_ne (h : ShAtM w F s f) {d : Nat} (hd : d < s.disks.length) : (F.at_ d).gs ≠ F.g ∧ (F.at_ d).gs ≠ F.gd ∧ (F.at_ d).gs ≠ F.gm := by
  rw [← F.at_eq (h.fd hd)]; exact h.sep.out d (h.fd hd) _ (by simp [DiskF.blocks])
theorem ShAtM.wv_ne (h : ShAtM w F s f) {d b : Nat} (hd : d < s.disks.length) (hb : (F.at_ d).wv.ownBlock = some b) : b ≠ F.g ∧ b ≠ F.gd ∧ b ≠ F.gm := by
  rw [← F.at_eq (h.fd hd)] at hb; exact h.sep.out d (h.fd hd) _ (by simp [DiskF.blocks, hb])
theorem ShAtM.esetSure (h : ShAtM w F s f) {d n : Nat} (hd : d < s.disks.length) (b : Bytes) (hb : b.length = 128) :
    ShAtM (w.setCell ⟨(F.at_ d).gs, n, none⟩ (strV b)) F (s.setDisk d { s.disk d with sure := (s.disk d).sure.set n b }) f := by
  have := h.setSure (n := n) hd b hb
  rw [F.at_eq (h.fd hd)] at this
  simp only [s.disk_eq hd] at this
  exact this
theorem ShAtM.eclear (h : ShAtM w F s f) {d : Nat} (hd : d < s.disks.length) :
    ShAtM (w.setCell ⟨F.gd, d * 3 + 1, none⟩ (.slice none 0 0)) (F.setF d { F.at_ d with wv := .slice none 0 0 }) (s.setDisk d { s.disk d with waits := [] }) f := by
  have := h.storeW (w' := w) hd (.slice none 0 0) [] (fun x hx => by simp at hx) (World.ownsRow_nil _ _ _ _) (Nat.le_refl _) (fun _ _ _ => rfl) (fun b hb => by simp [Value.ownBlock] at hb)
  rw [F.at_eq (h.fd hd)] at this
  simp only [s.disk_eq hd] at this
  exact this
theorem ShF.clear_news (F : ShF) (d : Nat) : ∀ b ∈ (F.setF d { F.at_ d with wv := .slice none 0 0 }).blocks, b ∈ F.blocks := by
  intro b hb
  rcases ShF.mem_cases hb with rfl | rfl | rfl | ⟨e, he, hb⟩
  · exact F.mem_g
  · exact F.mem_gd
  · exact F.mem_gm
  · have he' : e < F.fs.length := by simpa [ShF.setF] using he
    simp only [ShF.setF, List.getElem_set] at hb
    split at hb
    · subst d
      simp only [DiskF.blocks, Value.ownBlock, Option.toList_none, List.mem_singleton] at hb
      subst hb
      exact F.mem_gs he'
    · exact F.mem_f he' hb
end

/-! settling, write by write -/
theorem settleL_snoc (keeps : Nat → Bool) (x : Nat × Bytes) : ∀ (l : List (Nat × Bytes)) (j : Nat) (sure : List Bytes),
    settleL keeps j (l ++ [x]) sure = if keeps (j + l.length) then (settleL keeps j l sure).set x.1 x.2 else settleL keeps j l sure
  | [], j, sure => by simp [settleL]
  | y :: l, j, sure => by
    rw [List.cons_append, settleL, settleL, settleL_snoc keeps x l (j + 1)]
    simp only [List.length_cons, show j + 1 + l.length = j + (l.length + 1) from by omega]
theorem settleL_take (keeps : Nat → Bool) (ws : List (Nat × Bytes)) (i : Nat) (hi : i < ws.length) (sure : List Bytes) :
    settleL keeps 0 (ws.take (i + 1)) sure = if keeps i then (settleL keeps 0 (ws.take i) sure).set ws[i].1 ws[i].2 else settleL keeps 0 (ws.take i) sure := by
  rw [List.take_succ_eq_append_getElem hi, settleL_snoc]
  simp only [List.length_take, Nat.zero_add, Nat.min_eq_left (Nat.le_of_lt hi)]
theorem settleL_len (keeps : Nat → Bool) : ∀ (l : List (Nat × Bytes)) (j : Nat) (sure : List Bytes), (settleL keeps j l sure).length = sure.length
  | [], _, _ => rfl
  | y :: l, j, sure => by rw [settleL, settleL_len keeps l]; split <;> simp
theorem settleL_mem (keeps : Nat → Bool) : ∀ (l : List (Nat × Bytes)) (j : Nat) (sure : List Bytes), ∀ b ∈ settleL keeps j l sure, b ∈ sure ∨ ∃ x ∈ l, x.2 = b
  | [], _, _ => fun b hb => .inl hb
  | y :: l, j, sure => fun b hb => by
    rw [settleL] at hb
    rcases settleL_mem keeps l _ _ b hb with h | ⟨x, hx, h⟩
    · split at h
      · rcases List.mem_or_eq_of_mem_set h with h | h
        · exact .inl h
        · exact .inr ⟨y, by simp, h.symm⟩
      · exact .inl h
    · exact .inr ⟨x, by simp [hx], h⟩

/-- the map's function without the sectors of some writes -/
def delF (f : Nat → Nat → Nat) (d : Nat) (ws : List (Nat × Bytes)) : Nat → Nat → Nat := fun x y => if x = d ∧ y ∈ ws.map (·.1) then 0 else f x y
theorem delF_nil (f : Nat → Nat → Nat) (d : Nat) : delF f d [] = f := by funext x y; simp [delF]
theorem delF_snoc (f : Nat → Nat → Nat) (d : Nat) (ws : List (Nat × Bytes)) (x : Nat × Bytes) : updF (delF f d ws) d x.1 0 = delF f d (ws ++ [x]) := by
  funext a b
  simp only [updF, delF, List.map_append, List.mem_append, List.map_cons, List.map_nil, List.mem_singleton]
  by_cases h1 : a = d
  · subst h1
    by_cases h2 : b = x.1
    · simp [h2]
    · simp only [h2, and_false, or_false, if_false]
  · simp [h1]
theorem waitsOf_zero (ws : List (Nat × Bytes)) (n : Nat) : waitsOf ws n ≠ 0 → n ∈ ws.map (·.1) := by
  intro h
  have h' : 0 < (ws.filter fun w => w.1 == n).length := Nat.pos_of_ne_zero h
  obtain ⟨x, hx⟩ := List.exists_mem_of_length_pos h'
  rw [List.mem_filter] at hx
  exact List.mem_map.2 ⟨x, hx.1, by simpa using hx.2⟩
theorem delF_all (s : ShM) {d : Nat} (hd : d < s.disks.length) (k : DiskM) (hk : k.waits = []) : delF (seenF s) d (s.disk d).waits = seenF (s.setDisk d k) := by
  funext x y
  simp only [delF, seenF, ShM.set_len]
  by_cases hx : x = d
  · subst hx
    rw [if_pos hd, if_pos hd, s.disk_set hd, hk]
    by_cases hy : y ∈ (s.disk x).waits.map (·.1)
    · simp only [hy, and_self, if_true]
      rfl
    · simp only [hy, and_false, if_false]
      have : ¬ waitsOf (s.disk x).waits y ≠ 0 := fun h => hy (waitsOf_zero _ _ h)
      rw [Classical.not_not.1 this]
      rfl
  · rw [s.disk_set_ne hx]
    simp [hx]
end Go.Proofs.Ytikfbhepnnbdoaa

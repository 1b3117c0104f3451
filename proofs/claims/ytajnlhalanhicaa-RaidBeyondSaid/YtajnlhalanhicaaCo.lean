/-
 Several texts of this work in one (merge.py): CoA, CoB, CoC, CoD, CoE, CoF.
-/
import Derived.Test.YtajnlhalanhicaaRaM
import Derived.Test.YtajnlhalanhicaaSuJ
import Derived.Test.YtajnlhalanhicaaRgA
import Derived.Test.YtajnlhalanhicaaRgB
import Derived.Test.YtajnlhalanhicaaRp
import Derived.Test.YtajnlhalanhicaaPpM
import Derived.Test.YtajnlhalanhicaaRq
namespace Go.Proofs.Ytajnlhalanhicaa
set_option linter.all false
set_option maxRecDepth 20000
section
open Go.RowKit
section
variable {s s' s'' : ShM} {D : DevM} {k j : Nat} {d : Nat} {e : Int}
structure St (k : Nat) (s s' : ShM) : Prop where
 len : s'.disks.length = s.disks.length
 sec : s'.sectors = s.sectors
 dead : ∀ j, (s'.disk j).dead = (s.disk j).dead
 stops : s'.stops = s.stops
 off : s.off = true → s'.off = true
 cnt : 0 ≤ s.count → s.count + k ≤ 4611686018427387904 → s.count ≤ s'.count ∧ s'.count ≤ s.count + k
 wts : ∀ e, (s'.disk e).waits.length ≤ (s.disk e).waits.length + k
theorem St.refl (s : ShM) : St 0 s s := ⟨rfl, rfl, fun _ => rfl, rfl, id, fun _ _ => ⟨Int.le_refl _, by omega⟩, fun _ => Nat.le_refl _⟩
theorem St.trans (h : St j s s') (g : St k s' s'') : St (j + k) s s'' :=
 ⟨g.len.trans h.len, g.sec.trans h.sec, fun i => (g.dead i).trans (h.dead i), g.stops.trans h.stops, fun o => g.off (h.off o), fun h0 h1 => by
  have a := h.cnt h0 (by omega)
  have b := g.cnt (by omega) (by omega)
  omega, fun e => by have := h.wts e; have := g.wts e; omega⟩
theorem St.mono (h : St j s s') (hk : j ≤ k) : St k s s' := ⟨h.len, h.sec, h.dead, h.stops, h.off, fun h0 h1 => by have := h.cnt h0 (by omega); omega, fun e => by have := h.wts e; omega⟩
theorem St.room (h : St k s s') {N : Nat} (hr : Room N s) : Room (N + k) s' := fun e => by have := h.wts e; have := hr e; omega
def Why (s : ShM) (d : Nat) (e : Int) : Prop := e = 0 ∨ (e = 3 ∧ s.off = true) ∨ (e = 4 ∧ (s.disk d).dead = true)
theorem Why.st (h : Why s d e) (g : St k s s') : Why s' d e := h.imp id fun h => h.imp (fun h => ⟨h.1, g.off h.2⟩) fun h => ⟨h.1, (g.dead d).trans h.2⟩
theorem why_of (s : ShM) (d : Nat) : Why s d (s.why d) := by
 unfold ShM.why
 split
 ·exact .inr (.inl ⟨rfl, by assumption⟩)
 ·split
  ·exact .inr (.inr ⟨rfl, by assumption⟩)
  ·exact .inl rfl
theorem wrap64_in {x : Int} (h0 : 0 ≤ x) (h1 : x ≤ 9223372036854775807) : wrap64 x = x := by
 unfold wrap64
 omega
theorem st_tick (s : ShM) : St 1 s s.tick := ⟨rfl, rfl, fun _ => rfl, rfl, id, fun h0 h1 => by
 have : s.tick.count = s.count + 1 := wrap64_in (by omega) (by omega)
 omega, fun _ => Nat.le_add_right _ _⟩
theorem on_of_why (h : s.why d = 0) : s.off = false ∧ (s.disk d).dead = false := by
 unfold ShM.why at h
 split at h
 ·cases h
 ·split at h
  ·cases h
  ·exact ⟨by simp_all, by simp_all⟩
theorem set_dead (s : ShM) (d : Nat) (k : DiskM) (hk : k.dead = (s.disk d).dead) (j : Nat) : ((s.setDisk d k).disk j).dead = (s.disk j).dead := by
 unfold ShM.setDisk ShM.disk at *
 by_cases e : j = d
 ·subst e
  by_cases h : j < s.disks.length
  ·simp [List.getD_eq_getElem?_getD, List.getElem?_set_self h] at *
   exact hk
  ·simp [List.getD_eq_getElem?_getD, List.set_eq_of_length_le (Nat.le_of_not_lt h)]
 ·simp [List.getD_eq_getElem?_getD, List.getElem?_set_ne (Ne.symm e)]
theorem set_wts (s : ShM) (d : Nat) (k : DiskM) (hk : k.waits.length ≤ (s.disk d).waits.length + 1) (j : Nat) : ((s.setDisk d k).disk j).waits.length ≤ (s.disk j).waits.length + 1 := by
 unfold ShM.setDisk ShM.disk at *
 by_cases e : j = d
 ·subst e
  by_cases h : j < s.disks.length
  ·simp [List.getD_eq_getElem?_getD, List.getElem?_set_self h] at *
   exact hk
  ·simp [List.getD_eq_getElem?_getD, List.set_eq_of_length_le (Nat.le_of_not_lt h)]
 ·simp [List.getD_eq_getElem?_getD, List.getElem?_set_ne (Ne.symm e)]
theorem spend_disk (s : ShM) (d : Nat) : s.spend.disk d = s.disk d := by unfold ShM.spend; split <;> rfl
theorem st_put (s : ShM) (d : Nat) (kd : DiskM) (hw : s.why d = 0) (hk : kd.dead = (s.disk d).dead) (hk2 : kd.waits.length ≤ (s.disk d).waits.length + 1) : St 1 s ((s.spend.tick).setDisk d kd) := by
 obtain ⟨ho, _⟩ := on_of_why hw
 have e1 : s.spend.stops = s.stops := by unfold ShM.spend; split <;> rfl
 have e2 : s.spend.disks = s.disks := by unfold ShM.spend; split <;> rfl
 have e3 : s.spend.sectors = s.sectors := by unfold ShM.spend; split <;> rfl
 have e4 : s.spend.count = s.count := by unfold ShM.spend; split <;> rfl
 refine ⟨?_, e3, fun j => ?_, e1, fun h => ?_, fun h0 h1 => ?_, fun j => ?_⟩
 ·show (s.spend.disks.set d kd).length = _
  rw [List.length_set, e2]
 ·rw [set_dead]
  ·show (s.spend.disk j).dead = _
   rw [spend_disk]
  ·show kd.dead = (s.spend.disk d).dead
   rw [spend_disk]; exact hk
 ·rw [ho] at h; cases h
 ·have : ((s.spend.tick).setDisk d kd).count = s.count + 1 := by
   show wrap64 (s.spend.count + 1) = _
   rw [e4]
   exact wrap64_in (by omega) (by omega)
  omega
 ·have hq : ∀ i, s.spend.tick.disk i = s.disk i := fun i => spend_disk s i
  have := set_wts s.spend.tick d kd (by rw [hq]; exact hk2) j
  rw [hq] at this
  exact this
theorem st_read (s : ShM) (d n : Int) : St 1 s (s.readR d n).2.2 := by
 unfold ShM.readR
 repeat' split
 ·exact st_tick s
 ·exact (St.refl s).mono (by omega)
 ·exact (St.refl s).mono (by omega)
theorem why_read (s : ShM) (d n : Int) (hh : s.has d n = true) : Why (s.readR d n).2.2 d.toNat (s.readR d n).2.1 := by
 unfold ShM.readR
 rw [if_pos hh]
 split
 ·exact .inl rfl
 ·exact why_of s _
theorem st_write (s : ShM) (d n : Int) (b : Bytes) : St 1 s (s.writeR d n b).2 := by
 unfold ShM.writeR
 repeat' split
 ·exact st_put s _ _ (by assumption) rfl (by show ((s.disk d.toNat).waits ++ [_]).length ≤ _; simp)
 ·exact (St.refl s).mono (by omega)
 ·exact (St.refl s).mono (by omega)
theorem why_write (s : ShM) (d n : Int) (b : Bytes) (hh : s.has d n = true) (hb : b.length = 128) : Why (s.writeR d n b).2 d.toNat (s.writeR d n b).1 := by
 unfold ShM.writeR
 rw [if_pos ⟨hh, hb⟩]
 split
 ·exact .inl rfl
 ·exact why_of s _
theorem st_flush (s : ShM) (d : Int) : St 1 s (s.flushR d).2 := by
 unfold ShM.flushR
 repeat' split
 ·exact st_put s _ _ (by assumption) rfl (by show ([] : List (Nat × Bytes)).length ≤ _; simp)
 ·exact (St.refl s).mono (by omega)
 ·exact (St.refl s).mono (by omega)
theorem why_flush (s : ShM) (d : Int) (hh : s.has d 0 = true) : Why (s.flushR d).2 d.toNat (s.flushR d).1 := by
 unfold ShM.flushR
 rw [if_pos hh]
 split
 ·exact .inl rfl
 ·exact why_of s _
theorem disk_mem {d : Nat} (h : d < s.disks.length) : s.disk d ∈ s.disks := by rw [← s.disk_eq h]; exact List.getElem_mem _
theorem ok_spend (h : s.Ok) : s.spend.tick.Ok := by
 have e2 : s.spend.disks = s.disks := by unfold ShM.spend; split <;> rfl
 have e3 : s.spend.sectors = s.sectors := by unfold ShM.spend; split <;> rfl
 have d2 : s.spend.tick.disks = s.disks := e2
 have d3 : s.spend.tick.sectors = s.sectors := e3
 exact ⟨by rw [d2]; exact h.disks1, by rw [d2]; exact h.disks17, by rw [d3]; exact h.sectors1, by rw [d3]; exact h.sectors4096, by rw [d2, d3]; exact h.sure, by rw [d2]; exact h.sec, by rw [d2, d3]; exact h.waits⟩
theorem ok_write (h : s.Ok) (d n : Int) (b : Bytes) : (s.writeR d n b).2.Ok := by
 unfold ShM.writeR
 split
 ·next hh =>
  split
  ·have hd : d.toNat < s.disks.length := by
    have := hh.1
    simp only [ShM.has, decide_eq_true_eq] at this
    omega
   have hn : n.toNat < s.sectors := by
    have := hh.1
    simp only [ShM.has, decide_eq_true_eq] at this
    omega
   have hm := disk_mem hd
   have e3 : s.spend.sectors = s.sectors := by unfold ShM.spend; split <;> rfl
   refine ok_set (ok_spend h) _ _ ?_ ?_ ?_
   ·show (s.disk d.toNat).sure.length = s.spend.sectors
    rw [e3]; exact h.sure _ hm
   ·exact fun y hy => h.sec _ hm y hy
   ·intro x hx
    show x.1 < s.spend.sectors ∧ _
    rw [e3]
    rcases List.mem_append.1 hx with hx | hx
    ·exact h.waits _ hm _ hx
    ·rw [List.mem_singleton.1 hx]; exact ⟨hn, hh.2⟩
  ·exact h
 ·exact h
theorem settle_sure (keeps : Nat → Bool) (n : Nat) : ∀ (ws : List (Nat × Bytes)) (i : Nat) (sure : List Bytes), sure.length = n → (∀ b ∈ sure, b.length = 128) → (∀ x ∈ ws, x.2.length = 128) →
  (settleL keeps i ws sure).length = n ∧ ∀ b ∈ settleL keeps i ws sure, b.length = 128
 | [], _, sure, h1, h2, _ => ⟨h1, h2⟩
 | w :: ws, i, sure, h1, h2, h3 => by
  unfold settleL
  refine settle_sure keeps n ws (i + 1) _ ?_ ?_ fun x hx => h3 x (.tail _ hx)
  ·split <;> simp [h1]
  ·split
   ·intro b hb
    rcases List.mem_or_eq_of_mem_set hb with hb | rfl
    ·exact h2 _ hb
    ·exact h3 _ (.head _)
   ·exact h2
theorem ok_flush (h : s.Ok) (d : Int) : (s.flushR d).2.Ok := by
 unfold ShM.flushR
 split
 ·next hh =>
  split
  ·have hd : d.toNat < s.disks.length := by
    simp only [ShM.has, decide_eq_true_eq] at hh
    omega
   have hm := disk_mem hd
   have e3 : s.spend.sectors = s.sectors := by unfold ShM.spend; split <;> rfl
   obtain ⟨a, b⟩ := settle_sure (fun _ => true) s.sectors (s.disk d.toNat).waits 0 (s.disk d.toNat).sure (h.sure _ hm) (h.sec _ hm) fun x hx => (h.waits _ hm _ hx).2
   refine ok_set (ok_spend h) _ _ ?_ ?_ ?_
   ·show (settleL (fun _ => true) 0 (s.disk d.toNat).waits (s.disk d.toNat).sure).length = s.spend.sectors
    rw [e3]; exact a
   ·exact b
   ·exact fun x hx => absurd hx List.not_mem_nil
  ·exact h
 ·exact h
structure DevOk (s : ShM) (D : DevM) : Prop where
 ok : s.Ok
 disk : D.disk < s.disks.length
 size : D.size = (blocksI s.sectors).toNat
theorem DevOk.st (h : DevOk s D) (g : St k s s') (o : s'.Ok) {D' : DevM} (e1 : D'.disk = D.disk) (e2 : D'.size = D.size) : DevOk s' D' := ⟨o, by rw [e1, g.len]; exact h.disk, by rw [e2, g.sec]; exact h.size⟩
theorem DevOk.place (h : DevOk s D) {n : Nat} (hn : n < D.size) : sumAt n < s.sectors ∧ dataAt n < s.sectors := by
 have h2 := h.size
 have h1 := h.ok.sectors1
 unfold blocksI at h2
 rw [if_neg (by omega)] at h2
 unfold sumAt dataAt
 omega
theorem DevOk.has (h : DevOk s D) {n : Nat} (hn : n < s.sectors) : s.has (D.disk : Nat) (n : Nat) = true := by
 have := h.disk
 simp only [ShM.has, decide_eq_true_eq]
 omega
theorem readR_l128 (h : s.Ok) {d n : Nat} (hd : d < s.disks.length) (hn : n < s.sectors) (he : (s.readR d n).2.1 = 0) : (s.readR (d : Nat) (n : Nat)).1.length = 128 := by
 have hh : s.has (d : Nat) (n : Nat) = true := by simp only [ShM.has, decide_eq_true_eq]; omega
 unfold ShM.readR at he ⊢
 rw [if_pos hh] at he ⊢
 split at he
 ·rw [if_pos (by assumption)]
  simp only [Int.toNat_natCast]
  exact read_len h hd hn
 ·next h1 => exact absurd he h1
theorem st_sector (s : ShM) (D : DevM) (n : Int) : St 2 s (devSector s D n).2.2.2 := by
 unfold devSector
 dsimp only
 split
 ·split
  ·exact (st_read _ _ _).trans (st_read _ _ _)
  ·exact (st_read _ _ _).mono (by omega)
 ·exact (St.refl s).mono (by omega)
theorem ok_sector (h : s.Ok) (D : DevM) (n : Int) : (devSector s D n).2.2.2.Ok := by
 unfold devSector
 dsimp only
 split
 ·split
  ·exact ok_read (ok_read h _ _) _ _
  ·exact ok_read h _ _
 ·exact h
theorem why_sector (h : DevOk s D) {n : Nat} (hn : n < D.size) : Why (devSector s D n).2.2.2 D.disk (devSector s D n).2.2.1 ∧
  ((devSector s D n).2.2.1 = 0 → (devSector s D n).1.length = 128 ∧ (devSector s D n).2.1.length = 128 ∧ (s.disk D.disk).dead = false) := by
 obtain ⟨p1, p2⟩ := h.place hn
 have h1 := why_read s (D.disk : Nat) (sumAt n : Nat) (h.has p1)
 have g1 := st_read s (D.disk : Nat) (sumAt n : Nat)
 have l1 := readR_l128 h.ok h.disk p1
 have o1 := ok_read h.ok (D.disk : Nat) (sumAt n : Nat)
 unfold devSector
 rw [if_pos ⟨by omega, by omega⟩]
 simp only [Int.toNat_natCast] at *
 split
 ·next e1 =>
  have h' := h.st g1 o1 rfl rfl
  have h2 := why_read (s.readR (D.disk : Nat) (sumAt n : Nat)).2.2 (D.disk : Nat) (dataAt n : Nat) (h'.has (by rw [g1.sec]; exact p2))
  refine ⟨by simpa using h2, fun e2 => ⟨l1 e1, readR_l128 o1 h'.disk (by rw [g1.sec]; exact p2) e2, ?_⟩⟩
  have e3 := e1
  unfold ShM.readR at e3
  split at e3
  ·split at e3
   ·next h4 => simpa using (on_of_why h4).2
   ·next h4 => exact absurd e3 h4
  ·cases e3
 ·next e1 => exact ⟨h1, fun e => absurd e e1⟩
theorem st_dread (s : ShM) (D : DevM) (n : Int) : St 2 s (devRead s D n).2.2 := by
 have h := st_sector s D n
 unfold devRead
 dsimp only
 repeat' split
 all_goals exact h
theorem ok_dread (h : s.Ok) (D : DevM) (n : Int) : (devRead s D n).2.2.Ok := by
 have h := ok_sector h D n
 unfold devRead
 dsimp only
 repeat' split
 all_goals exact h
theorem why_dread (h : DevOk s D) {n : Nat} (hn : n < D.size) : (Why (devRead s D n).2.2 D.disk (devRead s D n).2.1 ∨ ((devRead s D n).2.1 = 5 ∧ (s.disk D.disk).dead = false)) ∧ ((devRead s D n).2.1 = 0 → (devRead s D n).1.length = 128) ∧ ((devRead s D n).2.1 ≠ 0 → (devRead s D n).1 = []) := by
 obtain ⟨h1, h2⟩ := why_sector h hn
 unfold devRead
 dsimp only
 split
 ·next e =>
  obtain ⟨a, b, c⟩ := h2 e
  split
  ·exact ⟨.inl (.inl rfl), fun _ => b, fun h => absurd rfl h⟩
  ·refine ⟨.inr ⟨rfl, c⟩, fun h => ?_, fun _ => rfl⟩
   cases h
 ·next e => exact ⟨.inl h1, fun h => absurd h e, fun _ => rfl⟩
structure Dd (k : Nat) (s : ShM) (D : DevM) (r : Int × ShM × DevM) : Prop where
 st : St k s r.2.1
 ok : r.2.1.Ok
 disk : r.2.2.disk = D.disk
 size : r.2.2.size = D.size
 why : Why r.2.1 D.disk r.1
theorem dd_flush (h : DevOk s D) : Dd 1 s D (devFlush s D) := by
 have hh := h.has (n := 0) (by have := h.ok.sectors1; omega)
 have w := why_flush s (D.disk : Nat) hh
 unfold devFlush
 dsimp only
 refine ⟨st_flush _ _, ok_flush h.ok _, ?_, ?_, by simpa using w⟩ <;> split <;> rfl
theorem DevOk.dd (h : DevOk s D) {r : Int × ShM × DevM} (g : Dd k s D r) : DevOk r.2.1 r.2.2 := h.st g.st g.ok g.disk g.size
theorem dd_put (h : DevOk s D) {n : Nat} (hn : n < D.size) {S b : Bytes} (hS : S.length = 128) (hb : b.length = 128) : Dd 3 s D (devPut s D n S b) := by
 obtain ⟨p1, p2⟩ := h.place hn
 have g1 := st_write s (D.disk : Nat) (sumAt n : Nat) S
 have o1 := ok_write h.ok (D.disk : Nat) (sumAt n : Nat) S
 have w1 := why_write s (D.disk : Nat) (sumAt n : Nat) S (h.has p1) hS
 unfold devPut
 generalize s.writeR (D.disk : Nat) (sumAt n : Nat) S = r at *
 dsimp only
 split
 ·have h' := h.st g1 o1 (D' := D) rfl rfl
  have f := dd_flush h'
  have h'' := h'.dd f
  generalize devFlush r.2 D = q at *
  split
  ·have p3 : dataAt n < q.2.1.sectors := by rw [f.st.sec, g1.sec]; exact p2
   have g3 := st_write q.2.1 (D.disk : Nat) (dataAt n : Nat) b
   have o3 := ok_write f.ok (D.disk : Nat) (dataAt n : Nat) b
   have w3 := why_write q.2.1 (D.disk : Nat) (dataAt n : Nat) b (by rw [← f.disk]; exact h''.has p3) hb
   refine ⟨((g1.trans f.st).trans g3).mono (by omega), o3, ?_, ?_, by simpa using w3⟩
   ·dsimp only; split <;> exact f.disk
   ·dsimp only; split <;> exact f.size
  ·exact ⟨(g1.trans f.st).mono (by omega), f.ok, f.disk, f.size, f.why⟩
 ·exact ⟨g1.mono (by omega), o1, rfl, rfl, by simpa using w1⟩
theorem spoilB_l (f : Bytes → Bool) : ∀ (k : Nat) (b : Bytes), (spoilB f k b).length = b.length
 | 0, b => rfl
 | k + 1, b => by
  unfold spoilB
  split
  ·rw [spoilB_l f k]; simp
  ·rfl
theorem spoil_l (D : DevM) (n : Nat) (p : Nat × Nat) (sum : Nat) (was : Bytes) : (spoilOf D n p sum was).length = was.length := spoilB_l _ _ _
theorem dd_spoil (h : DevOk s D) {n : Nat} (hn : n < D.size) (p : Nat × Nat) {was : Bytes} (hw : was.length = 128) (sum : Nat) : Dd 2 s D (devSpoil s D n p was sum) := by
 obtain ⟨p1, p2⟩ := h.place hn
 have g1 := st_write s (D.disk : Nat) (dataAt n : Nat) (spoilOf D n p sum was)
 have o1 := ok_write h.ok (D.disk : Nat) (dataAt n : Nat) (spoilOf D n p sum was)
 have w1 := why_write s (D.disk : Nat) (dataAt n : Nat) (spoilOf D n p sum was) (h.has p2) (by rw [spoil_l]; exact hw)
 unfold devSpoil
 generalize s.writeR (D.disk : Nat) (dataAt n : Nat) (spoilOf D n p sum was) = r at *
 dsimp only
 split
 ·have f := dd_flush (h.st g1 o1 (D' := D) rfl rfl)
  exact ⟨g1.trans f.st, f.ok, f.disk, f.size, f.why⟩
 ·exact ⟨g1.mono (by omega), o1, rfl, rfl, by simpa using w1⟩
theorem Dd.same (h : DevOk s D) : Dd 0 s D (0, s, D) := ⟨St.refl s, h.ok, rfl, rfl, .inl rfl⟩
theorem Dd.mono {r : Int × ShM × DevM} (h : Dd j s D r) (hk : j ≤ k) : Dd k s D r := ⟨h.st.mono hk, h.ok, h.disk, h.size, h.why⟩
theorem Dd.after {r q : Int × ShM × DevM} (h : Dd j s D r) (g : Dd k r.2.1 r.2.2 q) : Dd (j + k) s D q :=
 ⟨h.st.trans g.st, g.ok, g.disk.trans h.disk, g.size.trans h.size, by rw [← h.disk]; exact g.why⟩
theorem dd_first (h : DevOk s D) {n : Nat} (hn : n < D.size) (S b : Bytes) {was : Bytes} (hw : was.length = 128) : Dd 2 s D (devFirst s D n S was b) := by
 unfold devFirst
 repeat' split
 ·exact (Dd.same h).mono (by omega)
 ·exact dd_spoil h hn _ hw _
 ·exact (Dd.same h).mono (by omega)
theorem dd_open (h : DevOk s D) (n : Int) : Dd 1 s D (devOpen s D n) := by
 unfold devOpen
 split
 ·exact dd_flush h
 ·exact (Dd.same h).mono (by omega)
theorem dd_write (h : DevOk s D) {n : Nat} (hn : n < D.size) {b : Bytes} (hb : b.length = 128) : Dd 8 s D (devWrite s D n b) := by
 obtain ⟨w1, w2⟩ := why_sector h hn
 have g1 := st_sector s D n
 have o1 := ok_sector h.ok D n
 unfold devWrite
 rw [if_pos hb]
 generalize devSector s D n = r at *
 dsimp only
 split
 ·next e =>
  obtain ⟨l1, l2, _⟩ := w2 e
  have h1 := h.st g1 o1 (D' := D) rfl rfl
  have f := dd_open h1 n
  have h2 := h1.dd f
  generalize devOpen r.2.2.2 D n = q at *
  split
  ·have x := dd_first h2 (n := n) (by rw [f.size]; exact hn) r.1 b l2
   have h3 := h2.dd x
   rw [Int.toNat_natCast]
   generalize devFirst q.2.1 q.2.2 n r.1 r.2.1 b = y at *
   split
   ·have hS : (putSums r.1 n (nextP D n (standP r.1 n) r.2.1 b)).length = 128 := by
     refine (stand_put r.1 n _ l1 ?_ (sumB_lt _ _ _)).2
     unfold nextP
     dsimp only
     split <;> exact sumB_lt _ _ _
    have z := dd_put h3 (n := n) (by rw [x.size, f.size]; exact hn) hS hb
    have a := (f.after x).after z
    exact ⟨(g1.trans a.st).mono (by omega), a.ok, a.disk, a.size, a.why⟩
   ·have a := f.after x
    exact ⟨(g1.trans a.st).mono (by omega), a.ok, a.disk, a.size, a.why⟩
  ·exact ⟨(g1.trans f.st).mono (by omega), f.ok, f.disk, f.size, f.why⟩
 ·exact ⟨g1.mono (by omega), o1, rfl, rfl, w1⟩
end
end
section
open Go.RowKit
section
variable {s s' s'' : ShM} {V V' V'' : VolM} {k j : Nat} {d : Nat} {e : Int}
structure Vd (s : ShM) (V : VolM) : Prop where
 ok : s.Ok
 slen : s.disks.length = V.devs.length
 dd : ∀ i, i < V.devs.length → (V.dev i).disk = i
 dz : ∀ i, i < V.devs.length → (V.dev i).size = (blocksI s.sectors).toNat
 need : V.base + V.stripes ≤ (blocksI s.sectors).toNat
 m3 : 3 ≤ V.m
 m16 : V.m ≤ 16
 st1 : 1 ≤ V.stripes
 st1024 : V.stripes ≤ 1024
 l1 : 1 ≤ V.logs
 l8 : V.logs ≤ 8
 len : V.m ≤ V.devs.length
 on : ∀ j st, j < V.m → V.diskOf j st < V.devs.length
structure Vs (k : Nat) (s : ShM) (V : VolM) (s' : ShM) (V' : VolM) : Prop where
 st : St k s s'
 vd : Vd s' V'
 sup : V'.sup = V.sup
theorem Vs.refl (h : Vd s V) : Vs 0 s V s V := ⟨St.refl s, h, rfl⟩
theorem Vs.trans (h : Vs j s V s' V') (g : Vs k s' V' s'' V'') : Vs (j + k) s V s'' V'' := ⟨h.st.trans g.st, g.vd, g.sup.trans h.sup⟩
theorem Vs.mono (h : Vs j s V s' V') (hk : j ≤ k) : Vs k s V s' V' := ⟨h.st.mono hk, h.vd, h.sup⟩
theorem Vs.len (h : Vs j s V s' V') (g : Vd s V) : V'.devs.length = V.devs.length := by rw [← h.vd.slen, h.st.len, g.slen]
theorem Vs.m (h : Vs j s V s' V') : V'.m = V.m := by unfold VolM.m; rw [h.sup]
theorem Vs.logs (h : Vs j s V s' V') : V'.logs = V.logs := by unfold VolM.logs; rw [h.sup]
theorem Vs.stripes (h : Vs j s V s' V') : V'.stripes = V.stripes := by unfold VolM.stripes; rw [h.sup]
theorem Vs.base (h : Vs j s V s' V') : V'.base = V.base := by unfold VolM.base; rw [h.sup]
theorem Vs.diskOf (h : Vs j s V s' V') (a b : Nat) : V'.diskOf a b = V.diskOf a b := by unfold VolM.diskOf VolM.m; rw [h.sup]
theorem Vd.sets (h : Vd s V) {V' : VolM} (g : St k s s') (o : s'.Ok) (hs : V'.sup = V.sup) (hl : V'.devs.length = V.devs.length) (hdd : ∀ i, i < V.devs.length → (V'.dev i).disk = (V.dev i).disk ∧ (V'.dev i).size = (V.dev i).size) : Vd s' V' := by
 have em : V'.m = V.m := by unfold VolM.m; rw [hs]
 have es : V'.stripes = V.stripes := by unfold VolM.stripes; rw [hs]
 have el : V'.logs = V.logs := by unfold VolM.logs; rw [hs]
 have eb : V'.base = V.base := by unfold VolM.base; rw [hs]
 refine ⟨o, by rw [g.len, hl]; exact h.slen, fun i hi => ?_, fun i hi => ?_, by rw [eb, es, g.sec]; exact h.need, by rw [em]; exact h.m3, by rw [em]; exact h.m16, by rw [es]; exact h.st1, by rw [es]; exact h.st1024, by rw [el]; exact h.l1, by rw [el]; exact h.l8, by rw [em, hl]; exact h.len, fun j st hj => ?_⟩
 ·rw [hl] at hi; rw [(hdd i hi).1]; exact h.dd i hi
 ·rw [hl] at hi; rw [(hdd i hi).2, g.sec]; exact h.dz i hi
 ·have : V'.diskOf j st = V.diskOf j st := by unfold VolM.diskOf VolM.m; rw [hs]
  rw [this, hl]
  exact h.on j st (by rw [← em]; exact hj)
theorem Vd.ticked (h : Vd s V) (g : St k s s') (o : s'.Ok) : Vs k s V s' V := ⟨g, h.sets g o rfl rfl fun _ _ => ⟨rfl, rfl⟩, rfl⟩
theorem Vd.devOk (h : Vd s V) (hd : d < V.devs.length) : DevOk s (V.dev d) := ⟨h.ok, by rw [h.dd d hd, h.slen]; exact hd, h.dz d hd⟩
theorem vs_dev (h : Vd s V) (hd : d < V.devs.length) {r : Int × ShM × DevM} (g : Dd k s (V.dev d) r) : Vs k s V r.2.1 (V.setDev d r.2.2) ∧ Why r.2.1 d r.1 := by
 refine ⟨⟨g.st, h.sets g.st g.ok rfl (by simp [VolM.setDev]) fun i hi => ?_, rfl⟩, by have := g.why; rwa [h.dd d hd] at this⟩
 rw [dev_set V _ hi]
 split
 ·next e => subst e; exact ⟨g.disk, g.size⟩
 ·exact ⟨rfl, rfl⟩
theorem vs_wr (h : Vd s V) (hd : d < V.devs.length) {n : Nat} (hn : n < (blocksI s.sectors).toNat) {b : Bytes} (hb : b.length = 128) : Vs 8 s V (volWr s V d n b).2.1 (volWr s V d n b).2.2 ∧ Why (volWr s V d n b).2.1 d (volWr s V d n b).1 :=
 vs_dev h hd (dd_write (h.devOk hd) (by rw [h.dz d hd]; exact hn) hb)
theorem vs_fl (h : Vd s V) (hd : d < V.devs.length) : Vs 1 s V (volFl s V d).2.1 (volFl s V d).2.2 ∧ Why (volFl s V d).2.1 d (volFl s V d).1 := vs_dev h hd (dd_flush (h.devOk hd))
def Off3 (s : ShM) (e : Int) : Prop := e = 0 ∨ (e = 3 ∧ s.off = true)
theorem Why.pass (h : Why s d e) (h0 : ¬ (e = 0 ∨ e = 4)) : Off3 s e := by
 rcases h with h | h | h
 ·exact .inl h
 ·exact .inr h
 ·exact absurd (.inr h.1) h0
theorem Why.live (h : Why s d e) (h0 : (s.disk d).dead = false) : Off3 s e := by
 rcases h with h | h | h
 ·exact .inl h
 ·exact .inr h
 ·rw [h0] at h; cases h.2
theorem vs_sync : ∀ (f i : Nat) {s : ShM} {V : VolM}, Vd s V → i + f ≤ V.devs.length → Vs f s V (syncFrom s V i f).2.1 (syncFrom s V i f).2.2 ∧ Off3 (syncFrom s V i f).2.1 (syncFrom s V i f).1
 | 0, i, s, V, h, _ => ⟨Vs.refl h, .inl rfl⟩
 | f + 1, i, s, V, h, hf => by
  obtain ⟨a, b⟩ := vs_fl h (d := i) (by omega)
  unfold syncFrom
  dsimp only
  split
  ·obtain ⟨x, y⟩ := vs_sync f (i + 1) a.vd (by rw [a.len h]; omega)
   exact ⟨(a.trans x).mono (by omega), y⟩
  ·next hx => exact ⟨a.mono (by omega), b.pass hx⟩
theorem vs_volSync (h : Vd s V) : Vs V.devs.length s V (volSync s V).2.1 (volSync s V).2.2 ∧ Off3 (volSync s V).2.1 (volSync s V).1 := vs_sync _ 0 h (by omega)
theorem vs_clr (h : Vd s V) (hd : d < V.devs.length) {n : Nat} (hn : n < V.logs) : Vs 8 s V (volClr s V d n).2.1 (volClr s V d n).2.2 ∧ Why (volClr s V d n).2.1 d (volClr s V d n).1 := by
 have hne := h.need
 have hb : V.base = 2 + 2 * V.logs := rfl
 have e : logClear s (V.dev d) V.logs (n : Int) = devWrite s (V.dev d) ((2 + 2 * n : Nat) : Int) zeroSec := by
  unfold logClear slotOk
  rw [if_pos (by simp; omega)]
  congr 1
 unfold volClr
 dsimp only
 rw [e]
 exact vs_dev h hd (dd_write (h.devOk hd) (by rw [h.dz d hd]; omega) zeroSec_l)
theorem vs_clrIn (i : Nat) : ∀ (f n : Nat) {s : ShM} {V : VolM}, Vd s V → i < V.devs.length → n + f ≤ V.logs → Vs (8 * f) s V (clrIn s V i n f).2.1 (clrIn s V i n f).2.2 ∧ Off3 (clrIn s V i n f).2.1 (clrIn s V i n f).1
 | 0, n, s, V, h, _, _ => ⟨Vs.refl h, .inl rfl⟩
 | f + 1, n, s, V, h, hi, hf => by
  unfold clrIn
  dsimp only
  split
  ·obtain ⟨a, b⟩ := vs_clr h hi (n := n) (by omega)
   split
   ·obtain ⟨x, y⟩ := vs_clrIn i f (n + 1) a.vd (by rw [a.len h]; exact hi) (by rw [a.logs]; omega)
    exact ⟨(a.trans x).mono (by omega), y⟩
   ·next hx => exact ⟨a.mono (by omega), b.pass hx⟩
  ·obtain ⟨x, y⟩ := vs_clrIn i f (n + 1) h hi (by omega)
   exact ⟨x.mono (by omega), y⟩
theorem vs_clrFrom (l : Nat) : ∀ (f i : Nat) {s : ShM} {V : VolM}, Vd s V → V.logs = l → i + f ≤ V.devs.length → Vs (8 * l * f) s V (clrFrom s V i f).2.1 (clrFrom s V i f).2.2 ∧ Off3 (clrFrom s V i f).2.1 (clrFrom s V i f).1
 | 0, i, s, V, h, _, _ => ⟨Vs.refl h, .inl rfl⟩
 | f + 1, i, s, V, h, hl, hf => by
  obtain ⟨a, b⟩ := vs_clrIn i V.logs 0 h (by omega) (by omega)
  unfold clrFrom
  dsimp only
  split
  ·obtain ⟨x, y⟩ := vs_clrFrom l f (i + 1) a.vd (by rw [a.logs]; exact hl) (by rw [a.len h]; omega)
   refine ⟨(a.trans x).mono ?_, y⟩
   rw [hl, Nat.mul_add, Nat.mul_one, Nat.add_comm]
   exact Nat.le_refl _
  ·refine ⟨a.mono ?_, b⟩
   rw [hl, Nat.mul_add, Nat.mul_one]
   exact Nat.le_add_left _ _
theorem Vd.clean (h : Vd s V) : Vs 0 s V s V.clean := ⟨St.refl s, h.sets (St.refl s) h.ok rfl rfl fun _ _ => ⟨rfl, rfl⟩, rfl⟩
def flK (V : VolM) : Nat := V.devs.length * (2 + 8 * V.logs)
theorem vs_flush (h : Vd s V) : Vs (flK V) s V (volFlush s V).2.1 (volFlush s V).2.2 ∧ Off3 (volFlush s V).2.1 (volFlush s V).1 := by
 obtain ⟨a, b⟩ := vs_volSync h
 have k1 : V.devs.length ≤ flK V := by unfold flK; exact Nat.le_mul_of_pos_right _ (by omega)
 have k2 : V.devs.length + 8 * V.logs * V.devs.length + V.devs.length = flK V := by
  unfold flK
  rw [Nat.mul_add, Nat.mul_comm V.devs.length (8 * V.logs)]
  omega
 unfold volFlush
 generalize volSync s V = r at *
 dsimp only
 split
 ·split
  ·exact ⟨(a.trans a.vd.clean).mono (by omega), .inl rfl⟩
  ·obtain ⟨x, y⟩ := vs_clrFrom V.logs r.2.2.devs.length 0 a.vd a.logs (by omega)
   rw [a.len h] at x y ⊢
   generalize clrFrom r.2.1 r.2.2 0 V.devs.length = c at *
   split
   ·obtain ⟨p, q⟩ := vs_volSync x.vd
    have el : c.2.2.devs.length = V.devs.length := by rw [x.len a.vd, a.len h]
    rw [el] at p
    generalize volSync c.2.1 c.2.2 = t at *
    split
    ·exact ⟨(((a.trans x).trans p).trans p.vd.clean).mono (by omega), .inl rfl⟩
    ·exact ⟨((a.trans x).trans p).mono (by omega), q⟩
   ·exact ⟨(a.trans x).mono (by omega), y⟩
 ·exact ⟨a.mono k1, b⟩
theorem vs_get (h : Vd s V) {a st : Nat} (ha : a < V.m) (hst : st < V.stripes) : St 2 s (volGet s V a st).2.2 ∧ (volGet s V a st).2.2.Ok ∧
  (Why (volGet s V a st).2.2 (V.diskOf a st) (volGet s V a st).2.1 ∨ ((volGet s V a st).2.1 = 5 ∧ (s.disk (V.diskOf a st)).dead = false)) ∧ ((volGet s V a st).2.1 = 0 → (volGet s V a st).1.length = 128) ∧ ((volGet s V a st).2.1 ≠ 0 → (volGet s V a st).1 = []) := by
 have hd := h.on a st ha
 have hne := h.need
 obtain ⟨w1, w2, w3⟩ := why_dread (h.devOk hd) (n := V.base + st) (by rw [h.dz _ hd]; omega)
 rw [h.dd _ hd] at w1
 exact ⟨st_dread _ _ _, ok_dread h.ok _ _, w1, w2, w3⟩
theorem vs_put (h : Vd s V) {a st : Nat} (ha : a < V.m) (hst : st < V.stripes) {b : Bytes} (hb : b.length = 128) : Vs 8 s V (volPut s V a st b).2.1 (volPut s V a st b).2.2 ∧ Why (volPut s V a st b).2.1 (V.diskOf a st) (volPut s V a st b).1 := by
 have hne := h.need
 exact vs_wr h (h.on a st ha) (n := V.base + st) (by omega) hb
def Lack (s : ShM) (e : Int) : Prop := e = 0 ∨ (e = 3 ∧ s.off = true) ∨ e = 10
theorem Off3.lack (h : Off3 s e) : Lack s e := h.imp id .inl
theorem vs_tog (st : Nat) : ∀ (l : List Nat) {s : ShM} {V : VolM} (sum : Bytes), Vd s V → st < V.stripes → (∀ a ∈ l, a < V.m) → sum.length = 128 →
  St (2 * l.length) s (togL s V st sum l).2.2 ∧ (togL s V st sum l).2.2.Ok ∧ Lack (togL s V st sum l).2.2 (togL s V st sum l).2.1 ∧ ((togL s V st sum l).2.1 = 0 → (togL s V st sum l).1.length = 128) ∧ ((togL s V st sum l).2.1 ≠ 0 → (togL s V st sum l).1 = [])
 | [], s, V, sum, h, _, _, hl => ⟨St.refl s, h.ok, .inl rfl, fun _ => hl, fun h => absurd rfl h⟩
 | a :: l, s, V, sum, h, hst, hm, hl => by
  obtain ⟨g1, g2, g3, g4, g5⟩ := vs_get h (hm a (.head _)) hst
  unfold togL
  generalize volGet s V a st = r at *
  dsimp only
  split
  ·next e =>
   refine ⟨g1.mono (by simp only [List.length_cons]; omega), g2, .inr (.inl ⟨rfl, ?_⟩), (fun h => Int.noConfusion (h : Int.ofNat _ = Int.ofNat 0) (fun h => Nat.noConfusion h)), fun _ => rfl⟩
   rcases g3 with (g | g | g) | g
   ·omega
   ·exact g.2
   ·omega
   ·omega
  ·split
   ·exact ⟨g1.mono (by simp only [List.length_cons]; omega), g2, .inr (.inr rfl), (fun h => Int.noConfusion (h : Int.ofNat _ = Int.ofNat 0) (fun h => Nat.noConfusion h)), fun _ => rfl⟩
   ·next e =>
    obtain ⟨x1, x2, x3, x4, x5⟩ := vs_tog st l (xorB sum r.1) (h.ticked g1 g2).vd hst (fun b hb => hm b (.tail _ hb)) (xorB_l128 hl (g4 (by omega)))
    exact ⟨(g1.trans x1).mono (by simp; omega), x2, x3, x4, x5⟩
theorem vs_lost (h : Vd s V) {a st : Nat} (hst : st < V.stripes) :
  St (2 * V.m) s (volLost s V a st).2.2 ∧ (volLost s V a st).2.2.Ok ∧ Lack (volLost s V a st).2.2 (volLost s V a st).2.1 ∧ ((volLost s V a st).2.1 = 0 → (volLost s V a st).1.length = 128) ∧ ((volLost s V a st).2.1 ≠ 0 → (volLost s V a st).1 = []) := by
 obtain ⟨x1, x2⟩ := vs_tog st ((memL V.m st).filter fun k => !(k == a)) zeroSec h hst (fun b hb => memL_below (List.mem_filter.1 hb).1) zeroSec_l
 refine ⟨x1.mono ?_, x2⟩
 have := List.length_filter_le (fun k => !(k == a)) (memL V.m st)
 rw [memL_len] at this
 omega
theorem vs_read (h : Vd s V) {b : Nat} (hb : b < V.size) :
  Vs (10 + 2 * V.m) s V (volRead s V b).2.2.1 (volRead s V b).2.2.2 ∧ Lack (volRead s V b).2.2.1 (volRead s V b).2.1 ∧ ((volRead s V b).2.1 = 0 → (volRead s V b).1.length = 128) ∧ ((volRead s V b).2.1 ≠ 0 → (volRead s V b).1 = []) := by
 obtain ⟨q1, q2, _⟩ := spot_in h.m3 (show b < V.stripes * (V.m - 1) from hb)
 unfold volRead
 rw [if_pos ⟨by omega, by omega⟩, Int.toNat_natCast]
 generalize spotN V.m b = at_ at *
 obtain ⟨g1, g2, g3, g4, g5⟩ := vs_get h q2 q1
 have hv := h.ticked g1 g2
 dsimp only
 generalize volGet s V at_.member at_.stripe = r at *
 split
 ·next e =>
  refine ⟨hv.mono (by omega), ?_, g4, g5⟩
  rcases g3 with (g | g | g) | g
  ·exact .inl g
  ·exact .inr (.inl g)
  ·omega
  ·omega
 ·next e =>
  obtain ⟨x1, x2, x3, x4, x5⟩ := vs_lost hv.vd (a := at_.member) q1
  have hx := hv.vd.ticked x1 x2
  generalize volLost r.2.2 V at_.member at_.stripe = x at *
  split
  ·next ex =>
   split
   ·next e5 =>
    obtain ⟨p1, p2⟩ := vs_put hx.vd q2 q1 (x4 ex)
    have hal : (x.2.2.disk (V.diskOf at_.member at_.stripe)).dead = false := by
     rw [x1.dead, g1.dead]
     rcases g3 with (g | g | g) | g
     ·omega
     ·omega
     ·omega
     ·exact g.2
    have p3 := p2.live (by rw [p1.st.dead]; exact hal)
    generalize volPut x.2.2 V at_.member at_.stripe x.1 = p at *
    split
    ·exact ⟨((hv.trans hx).trans p1).mono (by omega), .inl rfl, fun _ => x4 ex, fun h => absurd rfl h⟩
    ·next ep => exact ⟨((hv.trans hx).trans p1).mono (by omega), p3.lack, fun h => absurd h ep, fun _ => rfl⟩
   ·exact ⟨(hv.trans hx).mono (by omega), .inl rfl, fun _ => x4 ex, fun h => absurd rfl h⟩
  ·next ex => exact ⟨(hv.trans hx).mono (by omega), x3, fun h => absurd h ex, fun _ => rfl⟩
theorem vs_read_bad (s : ShM) (V : VolM) {b : Int} (hb : ¬ (0 ≤ b ∧ b < V.size)) : volRead s V b = ([], 1, s, V) := by
 unfold volRead
 rw [if_neg hb]
end
end
section
open Go.RowKit
section
variable {s s' s'' : ShM} {V V' V'' : VolM} {k j : Nat} {d : Nat} {e : Int}
theorem vs_log (h : Vd s V) (hd : d < V.devs.length) {n : Nat} (hn : n < V.logs) {r : Rec} (hr : mayB r = true) : Vs 16 s V (volLog s V d n r).2.1 (volLog s V d n r).2.2 ∧ Why (volLog s V d n r).2.1 d (volLog s V d n r).1 := by
 have hne := h.need
 have hb : V.base = 2 + 2 * V.logs := rfl
 have hsl : slotOk V.logs (n : Int) = true := by unfold slotOk; simp; omega
 have hp : r.part.length = 128 := (of_decide_eq_true hr).2.2.2.2
 have c2 : (2 + 2 * (n : Int) + 1) = ((2 + 2 * n + 1 : Nat) : Int) := by omega
 have c1 : (2 + 2 * (n : Int)) = ((2 + 2 * n : Nat) : Int) := by omega
 have g : Dd 16 s (V.dev d) (logPut s (V.dev d) V.logs n r) := by
  unfold logPut
  rw [if_pos hsl, if_pos hr, c2, c1]
  have a := dd_write (h.devOk hd) (n := 2 + 2 * n + 1) (by rw [h.dz d hd]; omega) hp
  have o := (h.devOk hd).dd a
  generalize devWrite s (V.dev d) ((2 + 2 * n + 1 : Nat) : Int) r.part = x at *
  dsimp only
  split
  ·exact a.after (dd_write o (n := 2 + 2 * n) (by rw [a.size, h.dz d hd]; omega) (hdBytes_len r))
  ·exact a.mono (by omega)
 exact vs_dev h hd g
theorem slot_lt (V : VolM) (d : Nat) : ∀ (f n k : Nat), slotFrom V d n f = some k → k < n + f
 | 0, n, k, h => by cases h
 | f + 1, n, k, h => by
  unfold slotFrom at h
  split at h
  ·have := slot_lt V d f (n + 1) k h; omega
  ·cases h; omega
theorem vs_free (h : Vd s V) (d : Nat) : Vs (flK V) s V (volFree s V d).2.2.1 (volFree s V d).2.2.2 ∧ Off3 (volFree s V d).2.2.1 (volFree s V d).2.1 ∧ (volFree s V d).1 < V.logs := by
 unfold volFree
 split
 ·next n e => exact ⟨(Vs.refl h).mono (by omega), .inl rfl, by have := slot_lt V d _ _ _ e; omega⟩
 ·obtain ⟨a, b⟩ := vs_flush h
  exact ⟨a, b, by have := h.l1; show 0 < _; omega⟩
theorem Vd.use (h : Vd s V) (q : Nat × Nat) : Vs 0 s V s (V.use q) := ⟨St.refl s, h.sets (St.refl s) h.ok rfl rfl fun _ _ => ⟨rfl, rfl⟩, rfl⟩
theorem Vd.opn (h : Vd s V) (q : Nat) : Vs 0 s V s (V.opn q) := ⟨St.refl s, h.sets (St.refl s) h.ok rfl rfl fun _ _ => ⟨rfl, rfl⟩, rfl⟩
theorem vs_putL (h : Vd s V) {a st : Nat} (ha : a < V.m) (hst : st < V.stripes) (hd : (s.disk (V.diskOf a st)).dead = false) {b : Bytes} (hb : b.length = 128) : Vs 8 s V (volPut s V a st b).2.1 (volPut s V a st b).2.2 ∧ Off3 (volPut s V a st b).2.1 (volPut s V a st b).1 := by
 obtain ⟨x, y⟩ := vs_put h ha hst hb
 exact ⟨x, y.live (by rw [x.st.dead]; exact hd)⟩
theorem Off3.st (h : Off3 s e) (g : St k s s') : Off3 s' e := h.imp id fun h => ⟨h.1, g.off h.2⟩
theorem vs_both (h : Vd s V) {at_ : SpotM} {p : Nat} (hm : at_.member < V.m) (hst : at_.stripe < V.stripes) (hp : p < V.m) (hd : (s.disk (V.diskOf at_.member at_.stripe)).dead = false) (hdp : (s.disk (V.diskOf p at_.stripe)).dead = false) {part b : Bytes} (hl : part.length = 128) (hb : b.length = 128) :
  Vs 16 s V (volBoth s V at_ p part b).2.1 (volBoth s V at_ p part b).2.2 ∧ Off3 (volBoth s V at_ p part b).2.1 (volBoth s V at_ p part b).1 := by
 obtain ⟨x, y⟩ := vs_putL h hm hst hd hb
 unfold volBoth
 generalize volPut s V at_.member at_.stripe b = r at *
 dsimp only
 split
 ·obtain ⟨u, v⟩ := vs_putL x.vd (a := p) (st := at_.stripe) (by rw [x.m]; exact hp) (by rw [x.stripes]; exact hst) (by rw [x.diskOf, x.st.dead]; exact hdp) (xorB_l128 hl hb)
  exact ⟨(x.trans u).mono (by omega), v⟩
 ·exact ⟨x.mono (by omega), y⟩
theorem mayB_at (h : Vd s V) {at_ : SpotM} (hst : at_.stripe < V.stripes) (hpl : at_.place < V.m - 1) {part : Bytes} (hl : part.length = 128) : mayB ⟨at_.stripe, at_.place, part⟩ = true := by
 have a := h.st1024
 have b := h.m16
 exact decide_eq_true ⟨by show (0 : Int) ≤ (at_.stripe : Int); omega, by show (at_.stripe : Int) < 1024; omega, by show (0 : Int) ≤ (at_.place : Int); omega, by show (at_.place : Int) < 15; omega, hl⟩
theorem vs_note (h : Vd s V) {at_ : SpotM} {p : Nat} (hm : at_.member < V.m) (hst : at_.stripe < V.stripes) (hpl : at_.place < V.m - 1) (hp : p < V.m) (hd : (s.disk (V.diskOf at_.member at_.stripe)).dead = false) (hdp : (s.disk (V.diskOf p at_.stripe)).dead = false) {part b : Bytes} (hl : part.length = 128) (hb : b.length = 128) {n : Nat} (hn : n < V.logs) :
  Vs 33 s V (volNote s V at_ p part b (V.diskOf p at_.stripe) n).2.1 (volNote s V at_ p part b (V.diskOf p at_.stripe) n).2.2 ∧ Off3 (volNote s V at_ p part b (V.diskOf p at_.stripe) n).2.1 (volNote s V at_ p part b (V.diskOf p at_.stripe) n).1 := by
 have hon := h.on p at_.stripe hp
 obtain ⟨x, y⟩ := vs_log h hon hn (mayB_at h hst hpl hl)
 have y := y.live (by rw [x.st.dead]; exact hdp)
 unfold volNote
 generalize volLog s V (V.diskOf p at_.stripe) n ⟨at_.stripe, at_.place, part⟩ = q at *
 dsimp only
 split
 ·have u := x.trans (x.vd.use (V.diskOf p at_.stripe, n))
  obtain ⟨v, w⟩ := vs_fl u.vd (d := V.diskOf p at_.stripe) (by rw [u.len h]; exact hon)
  have z := u.trans v
  have w := w.live (by rw [z.st.dead]; exact hdp)
  generalize volFl q.2.1 (q.2.2.use (V.diskOf p at_.stripe, n)) (V.diskOf p at_.stripe) = f at *
  split
  ·have t := z.trans (z.vd.opn at_.stripe)
   obtain ⟨a, b⟩ := vs_both t.vd (at_ := at_) (p := p) (by rw [t.m]; exact hm) (by rw [t.stripes]; exact hst) (by rw [t.m]; exact hp) (by rw [t.diskOf, z.st.dead]; exact hd) (by rw [t.diskOf, z.st.dead]; exact hdp) hl hb
   exact ⟨(t.trans a).mono (by omega), b⟩
  ·exact ⟨z.mono (by omega), w⟩
 ·exact ⟨x.mono (by omega), y⟩
theorem vs_part (h : Vd s V) {at_ : SpotM} {p : Nat} (hm : at_.member < V.m) (hst : at_.stripe < V.stripes) (hp : p < V.m) {rest : List Nat} (hr : ∀ a ∈ rest, a < V.m) (hrl : rest.length ≤ V.m) :
  St (2 * V.m + 4) s (volPart s V at_ p rest).2.2 ∧ (volPart s V at_ p rest).2.2.Ok ∧ Lack (volPart s V at_ p rest).2.2 (volPart s V at_ p rest).2.1 ∧ ((volPart s V at_ p rest).2.1 = 0 → (volPart s V at_ p rest).1.length = 128) := by
 obtain ⟨x1, x2, x3, x4, _⟩ := vs_tog at_.stripe rest zeroSec h hst hr zeroSec_l
 unfold volPart volTog
 generalize togL s V at_.stripe zeroSec rest = x at *
 dsimp only
 split
 ·obtain ⟨y1, y2, y3, y4, _⟩ := vs_tog at_.stripe [p, at_.member] zeroSec (h.ticked x1 x2).vd hst (fun a ha => by
   rcases List.mem_cons.1 ha with rfl | ha
   ·exact hp
   ·rw [List.mem_singleton.1 ha]; exact hm) zeroSec_l
  exact ⟨(x1.trans y1).mono (by simp; omega), y2, y3, y4⟩
 ·exact ⟨x1.mono (by omega), x2, x3, x4⟩
theorem vs_update (h : Vd s V) {at_ : SpotM} {p : Nat} (hm : at_.member < V.m) (hst : at_.stripe < V.stripes) (hpl : at_.place < V.m - 1) (hp : p < V.m) (hd : (s.disk (V.diskOf at_.member at_.stripe)).dead = false) (hdp : (s.disk (V.diskOf p at_.stripe)).dead = false) {rest : List Nat} (hr : ∀ a ∈ rest, a < V.m) (hrl : rest.length ≤ V.m) {b : Bytes} (hb : b.length = 128) :
  Vs (2 * V.m + 37 + flK V) s V (volUpdate s V at_ p rest b).2.1 (volUpdate s V at_ p rest b).2.2 ∧ Lack (volUpdate s V at_ p rest b).2.1 (volUpdate s V at_ p rest b).1 := by
 obtain ⟨x1, x2, x3, x4⟩ := vs_part h hm hst hp hr hrl
 have hx := h.ticked x1 x2
 unfold volUpdate
 generalize volPart s V at_ p rest = x at *
 dsimp only
 split
 ·next e =>
  obtain ⟨f1, f2, f3⟩ := vs_free hx.vd (V.diskOf p at_.stripe)
  have t := hx.trans f1
  generalize volFree x.2.2 V (V.diskOf p at_.stripe) = f at *
  split
  ·have hdo := t.diskOf p at_.stripe
   obtain ⟨a, b⟩ := vs_note t.vd (at_ := at_) (p := p) (by rw [t.m]; exact hm) (by rw [t.stripes]; exact hst) (by rw [t.m]; exact hpl) (by rw [t.m]; exact hp) (by rw [t.diskOf, t.st.dead]; exact hd) (by rw [t.diskOf, t.st.dead]; exact hdp) (x4 e) hb (n := f.1) (by rw [t.logs]; exact f3)
   rw [hdo] at a b
   exact ⟨(t.trans a).mono (by omega), b.lack⟩
  ·exact ⟨t.mono (by omega), f2.lack⟩
 ·exact ⟨hx.mono (by omega), x3⟩
theorem vs_only (h : Vd s V) {p st : Nat} (hst : st < V.stripes) (hp : p < V.m) (hdp : (s.disk (V.diskOf p st)).dead = false) {rest : List Nat} (hr : ∀ a ∈ rest, a < V.m) (hrl : rest.length ≤ V.m) {b : Bytes} (hb : b.length = 128) :
  Vs (2 * V.m + 8) s V (volOnly s V p st rest b).2.1 (volOnly s V p st rest b).2.2 ∧ Lack (volOnly s V p st rest b).2.1 (volOnly s V p st rest b).1 := by
 obtain ⟨x1, x2, x3, x4, _⟩ := vs_tog st rest zeroSec h hst hr zeroSec_l
 have hx := h.ticked x1 x2
 unfold volOnly volTog
 generalize togL s V st zeroSec rest = x at *
 dsimp only
 split
 ·next e =>
  obtain ⟨u, v⟩ := vs_putL hx.vd hp hst (by rw [x1.dead]; exact hdp) (xorB_l128 (x4 e) hb)
  exact ⟨(hx.trans u).mono (by omega), v.lack⟩
 ·exact ⟨hx.mono (by omega), x3⟩
theorem rest_below {m st j a : Nat} (h : a ∈ ((memL m st).take (m - 1)).filter fun k => !(k == j)) : a < m := memL_below (List.mem_of_mem_take (List.mem_filter.1 h).1)
theorem rest_length (m st j : Nat) : (((memL m st).take (m - 1)).filter fun k => !(k == j)).length ≤ m := by
 have a := List.length_filter_le (fun k => !(k == j)) ((memL m st).take (m - 1))
 have b := List.length_take_le' (m - 1) (memL m st)
 rw [memL_len] at b
 omega
theorem vs_do (h : Vd s V) {at_ : SpotM} (hm : at_.member < V.m) (hst : at_.stripe < V.stripes) (hpl : at_.place < V.m - 1) {b : Bytes} (hb : b.length = 128) :
  Vs (2 * V.m + 37 + flK V) s V (volDo s V at_ b).2.1 (volDo s V at_ b).2.2 ∧ Lack (volDo s V at_ b).2.1 (volDo s V at_ b).1 := by
 have hp : parN V.m at_.stripe < V.m := parN_lt (by omega)
 have ed : ∀ a, a < V.m → volDead s V a at_.stripe = (s.disk (V.diskOf a at_.stripe)).dead := fun a ha => by unfold volDead; rw [h.dd _ (h.on _ _ ha)]
 unfold volDo
 dsimp only
 rw [ed _ hm, ed _ hp]
 split
 ·exact ⟨(Vs.refl h).mono (by omega), .inr (.inr rfl)⟩
 ·next h1 =>
  split
  ·next h2 =>
   obtain ⟨x, y⟩ := vs_putL h hm hst (by simpa [h2] using h1) hb
   exact ⟨x.mono (by omega), y.lack⟩
  ·next h2 =>
   split
   ·obtain ⟨x, y⟩ := vs_only h hst hp (by simpa using h2) (fun a ha => rest_below ha) (rest_length V.m at_.stripe at_.member) hb
    exact ⟨x.mono (by omega), y⟩
   ·next h3 => exact vs_update h hm hst hpl hp (by simpa using h3) (by simpa using h2) (fun a ha => rest_below ha) (rest_length V.m at_.stripe at_.member) hb
theorem vs_once (h : Vd s V) {at_ : SpotM} (hm : at_.member < V.m) (hst : at_.stripe < V.stripes) (hpl : at_.place < V.m - 1) {b : Bytes} (hb : b.length = 128) :
  Vs (2 * V.m + 37 + flK V) s V (volOnce s V at_ b).2.1 (volOnce s V at_ b).2.2 ∧ Lack (volOnce s V at_ b).2.1 (volOnce s V at_ b).1 := by
 obtain ⟨x, y⟩ := vs_do h hm hst hpl hb
 unfold volOnce
 generalize volDo s V at_ b = r at *
 split
 ·next ho => exact ⟨(Vs.refl h).mono (by omega), .inr (.inl ⟨rfl, ho⟩)⟩
 ·dsimp only
  split
  ·exact ⟨(x.trans (x.vd.opn at_.stripe)).mono (by omega), .inl rfl⟩
  ·exact ⟨x, y⟩
theorem vs_write (h : Vd s V) {n : Nat} (hn : n < V.size) {b : Bytes} (hb : b.length = 128) :
  Vs (2 * V.m + 37 + 2 * flK V) s V (volWrite s V n b).2.1 (volWrite s V n b).2.2 ∧ Lack (volWrite s V n b).2.1 (volWrite s V n b).1 := by
 obtain ⟨q1, q2, q3⟩ := spot_in h.m3 (show n < V.stripes * (V.m - 1) from hn)
 unfold volWrite
 rw [if_pos ⟨by omega, by omega⟩, if_pos hb, Int.toNat_natCast]
 dsimp only
 split
 ·obtain ⟨x, y⟩ := vs_flush h
  have ef : flK (volFlush s V).2.2 = flK V := by unfold flK; rw [x.len h, x.logs]
  generalize volFlush s V = r at *
  split
  ·obtain ⟨u, v⟩ := vs_once x.vd (at_ := spotN V.m n) (by rw [x.m]; exact q2) (by rw [x.stripes]; exact q1) (by rw [x.m]; exact q3) hb
   rw [ef, x.m] at u
   exact ⟨(x.trans u).mono (by omega), v⟩
  ·exact ⟨x.mono (by omega), y.lack⟩
 ·obtain ⟨u, v⟩ := vs_once h (at_ := spotN V.m n) q2 q1 q3 hb
  exact ⟨u.mono (by omega), v⟩
end
end
section
open Go.RowKit
section
variable {s s' s'' : ShM} {V V' V'' : VolM} {U U' D : Nat → Nat → Bytes} {M : Nat → Nat → Bytes → Prop}
def ShM.Gone2 (s : ShM) : Prop := s.off = true ∧ Room 100 s
def Has (s : ShM) (V : VolM) (D : Nat → Nat → Bytes) : Prop := ∃ U M, ArrS s V U M ∧ Stripes s V U D
theorem Stripes.kn (h : Stripes s V U D) (k : Kn s V s' V') (hU : ∀ i t, i < V.m → t < V.stripes → (s.disk i).dead = false → U' i (V.base + t) = U i (V.base + t)) : Stripes s' V' U' D := by
 have em : V'.m = V.m := by unfold VolM.m; rw [k.sup]
 have es : V'.stripes = V.stripes := by unfold VolM.stripes; rw [k.sup]
 have eb : V'.base = V.base := by unfold VolM.base; rw [k.sup]
 refine ⟨by rw [k.sup]; exact h.sp, by rw [em]; exact h.m3, by rw [em, k.len]; exact h.len, fun j hj => by rw [eb, es, k.sz]; exact h.room j (by rw [← k.len]; exact hj), fun st hst j hj => h.dl st (by rw [← es]; exact hst) j (by rw [← em]; exact hj), fun st hst => by rw [em]; exact h.zero st (by rw [← es]; exact hst), fun st hst j hj hd => ?_⟩
 rw [em] at hj
 rw [es] at hst
 rw [k.dead] at hd
 rw [eb, hU j st hj hst hd]
 exact h.same st hst j hj hd
theorem Stripes.low (h : Stripes s V U D) (k : Kn s V s' V') {i n : Nat} (hn : n < V.base) (b : Bytes) : Stripes s' V' (updM U i (updV (U i) n b)) D :=
 h.kn k fun a t ha ht hd => by
  by_cases e : a = i
  ·subst e; rw [updM_same, updV, if_neg (by omega)]
  ·rw [updM_ne _ _ e]
theorem has_sync (h : Has s V D) : ((volSync s V).1 = 0 ∧ Has (volSync s V).2.1 (volSync s V).2.2 D ∧ Kn s V (volSync s V).2.1 (volSync s V).2.2) ∨ ((volSync s V).1 = 3 ∧ (volSync s V).2.1.Gone2) := by
 obtain ⟨U, M, a, st⟩ := h
 obtain ⟨k, q⟩ := a.sync
 rcases q with ⟨e, a'⟩ | ⟨e, o, fl⟩
 ·exact .inl ⟨e, ⟨U, _, a', st.kn k.kn fun _ _ _ _ _ => rfl⟩, k.kn⟩
 ·exact .inr ⟨e, o, fl.room⟩
theorem Has.room (h : Has s V D) : V.m ≤ V.devs.length ∧ 3 ≤ V.m ∧ ∀ j, j < V.devs.length → V.base + V.stripes ≤ (V.dev j).size := by
 obtain ⟨U, M, a, st⟩ := h
 exact ⟨st.len, st.m3, st.room⟩
theorem Has.arrRoom (h : Has s V D) : Room 100 s := by
 obtain ⟨U, M, a, _⟩ := h
 exact a.room
theorem has_clr (h : Has s V D) {i k : Nat} (hi : i < V.devs.length) (hk : k < V.logs) : (((volClr s V i k).1 = 0 ∨ (volClr s V i k).1 = 4) ∧ Has (volClr s V i k).2.1 (volClr s V i k).2.2 D ∧ Kn s V (volClr s V i k).2.1 (volClr s V i k).2.2) ∨ ((volClr s V i k).1 = 3 ∧ (volClr s V i k).2.1.Gone2) := by
 obtain ⟨_, _, hr⟩ := h.room
 have hr := hr i hi
 have hb : V.base = 2 + 2 * V.logs := rfl
 obtain ⟨U, M, a, st⟩ := h
 obtain ⟨k1, q⟩ := a.clr hi hk (by omega)
 rcases q with ⟨_, e, a'⟩ | ⟨_, _, e⟩ | ⟨e, o, fl⟩
 ·exact .inl ⟨.inl e, ⟨_, _, a', st.low k1.kn (by omega) _⟩, k1.kn⟩
 ·refine .inl ⟨.inr (by rw [e]), ?_, k1.kn⟩
  rw [e]
  exact ⟨U, M, a, st⟩
 ·exact .inr ⟨e, o, fl.room⟩
theorem has_clrIn (i : Nat) : ∀ (f n : Nat) {s : ShM} {V : VolM}, Has s V D → i < V.devs.length → n + f ≤ V.logs → ((clrIn s V i n f).1 = 0 ∧ Has (clrIn s V i n f).2.1 (clrIn s V i n f).2.2 D ∧ Kn s V (clrIn s V i n f).2.1 (clrIn s V i n f).2.2) ∨ ((clrIn s V i n f).1 = 3 ∧ (clrIn s V i n f).2.1.Gone2)
 | 0, n, s, V, h, _, _ => .inl ⟨rfl, h, Kn.refl s V⟩
 | f + 1, n, s, V, h, hi, hf => by
  unfold clrIn
  dsimp only
  split
  ·rcases has_clr h hi (k := n) (by omega) with ⟨e, h', k1⟩ | ⟨e, o⟩
   ·rw [if_pos e]
    have el : (volClr s V i n).2.2.logs = V.logs := by unfold VolM.logs; rw [k1.sup]
    rcases has_clrIn i f (n + 1) h' (by rw [k1.len]; exact hi) (by rw [el]; omega) with ⟨a, b, c⟩ | q
    ·exact .inl ⟨a, b, k1.trans c⟩
    ·exact .inr q
   ·rw [if_neg (by omega)]
    exact .inr ⟨e, o⟩
  ·exact has_clrIn i f (n + 1) h hi (by omega)
theorem has_clrFrom : ∀ (f i : Nat) {s : ShM} {V : VolM}, Has s V D → i + f ≤ V.devs.length → ((clrFrom s V i f).1 = 0 ∧ Has (clrFrom s V i f).2.1 (clrFrom s V i f).2.2 D ∧ Kn s V (clrFrom s V i f).2.1 (clrFrom s V i f).2.2) ∨ ((clrFrom s V i f).1 = 3 ∧ (clrFrom s V i f).2.1.Gone2)
 | 0, i, s, V, h, _ => .inl ⟨rfl, h, Kn.refl s V⟩
 | f + 1, i, s, V, h, hf => by
  unfold clrFrom
  dsimp only
  rcases has_clrIn i V.logs 0 h (by omega) (by omega) with ⟨e, h', k1⟩ | ⟨e, o⟩
  ·rw [if_pos e]
   rcases has_clrFrom f (i + 1) h' (by rw [k1.len]; omega) with ⟨a, b, c⟩ | q
   ·exact .inl ⟨a, b, k1.trans c⟩
   ·exact .inr q
  ·rw [if_neg (by omega)]
   exact .inr ⟨e, o⟩
theorem Has.same (h : Has s V D) (e1 : V'.sup = V.sup) (e2 : V'.devs = V.devs) : Has s V' D := by
 obtain ⟨U, M, a, st⟩ := h
 exact ⟨U, M, a.devs e2, st.kn ((Kn.refl s V).same e1 e2) fun _ _ _ _ _ => rfl⟩
theorem has_flush (h : Has s V D) : ((volFlush s V).1 = 0 ∧ Has (volFlush s V).2.1 (volFlush s V).2.2 D ∧ Kn s V (volFlush s V).2.1 (volFlush s V).2.2) ∨ ((volFlush s V).1 = 3 ∧ (volFlush s V).2.1.Gone2) := by
 unfold volFlush
 dsimp only
 rcases has_sync h with ⟨e, h', k1⟩ | ⟨e, o⟩
 ·rw [if_pos e]
  generalize volSync s V = r at *
  split
  ·exact .inl ⟨rfl, h'.same rfl rfl, k1.same rfl rfl⟩
  ·rcases has_clrFrom r.2.2.devs.length 0 h' (by omega) with ⟨e2, h2, k2⟩ | ⟨e2, o2⟩
   ·rw [if_pos e2]
    generalize clrFrom r.2.1 r.2.2 0 r.2.2.devs.length = c at *
    rcases has_sync h2 with ⟨e3, h3, k3⟩ | ⟨e3, o3⟩
    ·rw [if_pos e3]
     exact .inl ⟨rfl, h3.same rfl rfl, ((k1.trans k2).trans k3).same rfl rfl⟩
    ·rw [if_neg (by omega)]
     exact .inr ⟨e3, o3⟩
   ·rw [if_neg (by omega)]
    exact .inr ⟨e2, o2⟩
 ·rw [if_neg (by omega)]
  exact .inr ⟨e, o⟩
theorem Stripes.write (h : Stripes s V U D) (k : Kn s V s' V') {st j : Nat} (hst : st < V.stripes) (hj : j < V.m) (hp : j ≠ parN V.m st) {b : Bytes} (hb : b.length = 128)
  (hU : ∀ i t, i < V.m → t < V.stripes → (s.disk i).dead = false → U' i (V.base + t) = newD V D st j b i t) : Stripes s' V' U' (newD V D st j b) := by
 have em : V'.m = V.m := by unfold VolM.m; rw [k.sup]
 have es : V'.stripes = V.stripes := by unfold VolM.stripes; rw [k.sup]
 have eb : V'.base = V.base := by unfold VolM.base; rw [k.sup]
 have hf : ∀ t, t < V.stripes → Fits1 V.m t (fun i => newD V D st j b i t) := fun t ht => by
  by_cases e : t = st
  ·subst e; exact newD_fits h.m3 ⟨h.dl t ht, h.zero t ht⟩ hj hp hb
  ·have : (fun i => newD V D st j b i t) = fun i => D i t := funext fun i => newD_other V D st j b (.inl e)
   rw [this]
   exact ⟨h.dl t ht, h.zero t ht⟩
 refine ⟨by rw [k.sup]; exact h.sp, by rw [em]; exact h.m3, by rw [em, k.len]; exact h.len, fun q hq => by rw [eb, es, k.sz]; exact h.room q (by rw [← k.len]; exact hq), fun t ht q hq => (hf t (by rw [← es]; exact ht)).len q (by rw [← em]; exact hq), fun t ht => by rw [em]; exact (hf t (by rw [← es]; exact ht)).zero, fun t ht q hq hd => ?_⟩
 rw [em] at hq
 rw [es] at ht
 rw [k.dead] at hd
 rw [eb]
 exact hU q t hq ht hd
theorem Stripes.partU (h : Stripes s V U D) {st j : Nat} (hst : st < V.stripes) (hl : ∀ a ∈ restL V.m st j, (s.disk a).dead = false) : xorF (fun i => U i (V.base + st)) (restL V.m st j) zeroSec = partD V D st j :=
 xorF_congr _ (fun a ha => h.same st hst a ((restL_mem (by have := h.m3; omega)).1 ha).1 (hl a ha)) _
theorem any_dead (s : ShM) (l : List Nat) : (∃ a ∈ l, (s.disk a).dead = true) ∨ ∀ a ∈ l, (s.disk a).dead = false := by
 by_cases h : ∃ a ∈ l, (s.disk a).dead = true
 ·exact .inl h
 ·refine .inr fun a ha => ?_
  cases hd : (s.disk a).dead with
  | false => rfl
  | true => exact absurd ⟨a, ha, hd⟩ h
theorem has_tog (a : ArrS s V U M) (st' : Stripes s V U D) {st : Nat} (hst : st < V.stripes) {l : List Nat} (hl : ∀ i ∈ l, i < V.m) :
  ((volTog s V st l).2.1 = 0 ∧ s.off = false ∨ l = []) ∧ (volTog s V st l).1 = xorF (fun i => U i (V.base + st)) l zeroSec ∧ (volTog s V st l).2.1 = 0 ∧ Ticked s (volTog s V st l).2.2 ∧ (∀ i ∈ l, (s.disk i).dead = false) ∨ ((volTog s V st l).2.1 = 10 ∧ Ticked s (volTog s V st l).2.2) ∨ ((volTog s V st l).2.1 = 3 ∧ (volTog s V st l).2.2.Gone2) := by
 have hz : ∀ i ∈ l, i < V.devs.length ∧ V.base + st < (V.dev i).size := fun i hi => by
  have h1 := hl i hi
  have h2 := st'.len
  have h3 := st'.room i (by omega)
  omega
 cases ho : s.off with
 | true =>
  by_cases e : l = []
  ·subst e; exact .inl ⟨.inr rfl, rfl, rfl, Ticked.refl s, fun _ h => absurd h List.not_mem_nil⟩
  ·have := tog_off st'.sp st (sum := zeroSec) e a ho hz
   unfold volTog
   rw [this]
   exact .inr (.inr ⟨rfl, ho, a.room⟩)
 | false =>
  rcases any_dead s l with hd | hd
  ·obtain ⟨_, e2, e3⟩ := tog_dead st'.sp st l s zeroSec a ho hz hd
   exact .inr (.inl ⟨e2, e3⟩)
  ·obtain ⟨e1, e2, e3⟩ := tog_on st'.sp st l s zeroSec a ho hz hd
   exact .inl ⟨.inl ⟨e2, rfl⟩, e1, e2, e3, hd⟩
theorem Stripes.ticked (h : Stripes s V U D) (t : Ticked s s') : Stripes s' V U D := h.kn (Kin.ticked t V).kn fun _ _ _ _ _ => rfl
theorem Has.ticked (h : Has s V D) (t : Ticked s s') : Has s' V D := by
 obtain ⟨U, M, a, st⟩ := h
 exact ⟨U, M, a.ticked t, st.ticked t⟩
theorem has_read (h : Has s V D) {b : Nat} (hb : b < V.size) :
  ((volRead s V b).2.1 = 0 ∧ (volRead s V b).1 = D (spotN V.m b).member (spotN V.m b).stripe ∧ Has (volRead s V b).2.2.1 (volRead s V b).2.2.2 D) ∨ ((volRead s V b).2.1 = 10 ∧ Has (volRead s V b).2.2.1 (volRead s V b).2.2.2 D) ∨ ((volRead s V b).2.1 = 3 ∧ (volRead s V b).2.2.1.Gone2) := by
 have h0 := h
 obtain ⟨U, M, a, st⟩ := h
 cases ho : s.off with
 | true =>
  rw [st.readOff a ho hb]
  exact .inr (.inr ⟨rfl, ho, a.room⟩)
 | false =>
  obtain ⟨q1, q2, _⟩ := spot_in st.m3 hb
  have hr := st.room (spotN V.m b).member (by have := st.len; omega)
  have e := a.read (i := (spotN V.m b).member) (by have := st.len; omega) (n := V.base + (spotN V.m b).stripe) (by omega)
  rw [ho, if_neg Bool.false_ne_true] at e
  have hg : volGet s V (spotN V.m b).member (spotN V.m b).stripe = devRead s (V.dev (spotN V.m b).member) ((V.base + (spotN V.m b).stripe : Nat) : Int) := by unfold volGet; rw [disk_plain st.sp]
  unfold volRead
  rw [if_pos ⟨by omega, by omega⟩, Int.toNat_natCast]
  dsimp only
  rw [hg, e]
  cases hd : (s.disk (spotN V.m b).member).dead with
  | false =>
   rw [if_neg Bool.false_ne_true]
   dsimp only
   rw [if_pos (.inl rfl)]
   exact .inl ⟨rfl, st.same _ q1 _ q2 hd, h0.ticked (Ticked.tick2 s)⟩
  | true =>
   rw [if_pos rfl]
   dsimp only
   rw [if_neg (by omega)]
   unfold volLost
   have hmem : ∀ i ∈ (memL V.m (spotN V.m b).stripe).filter (fun k => !(k == (spotN V.m b).member)), i < V.m := fun i hi => memL_below (List.mem_filter.1 hi).1
   rcases has_tog a st q1 hmem with ⟨_, e1, e2, e3, e4⟩ | ⟨e1, e2⟩ | ⟨e1, e2⟩
   ·rw [if_pos e2, if_neg (by omega)]
    refine .inl ⟨rfl, ?_, h0.ticked e3⟩
    show (volTog s V _ _).1 = _
    rw [e1, xorF_congr _ (g := fun i => D i (spotN V.m b).stripe) (fun i hi => st.same _ q1 i (hmem i hi) (e4 i hi))]
    exact xorF_lost (f := fun i => D i (spotN V.m b).stripe) (memL V.m _) _ (memL_nodup _ _) (memL_mem q2) (fun i hi => st.dl _ q1 i (memL_below hi)) (st.zero _ q1)
   ·rw [if_neg (by omega)]
    exact .inr (.inl ⟨e1, h0.ticked e2⟩)
   ·rw [if_neg (by omega)]
    exact .inr (.inr ⟨e1, e2⟩)
def WroteB (D D' : Nat → Nat → Bytes) (r : Int × ShM × VolM) : Prop := (r.1 = 0 ∧ Has r.2.1 r.2.2 D') ∨ (r.1 = 10 ∧ Has r.2.1 r.2.2 D) ∨ (r.1 = 3 ∧ r.2.1.Gone2)
theorem has_both (a : ArrS s V U M) (h : Stripes s V U D) (k0 : Kn s' V' s V) {at_ : SpotM} {st j : Nat} (e1 : at_.stripe = st) (e2 : at_.member = j) (hst : st < V.stripes) (hj : j < V.m) (hp : j ≠ parN V.m st) {b : Bytes} (hb : b.length = 128)
  (hd : (s.disk j).dead = false) (hdp : (s.disk (parN V.m st)).dead = false) : WroteB D (newD V D st j b) (volBoth s V at_ (parN V.m st) (partD V D st j) b) := by
 have hm0 : 0 < V.m := by have := h.m3; omega
 have hpl := parN_lt (m := V.m) (st := st) hm0
 have hl : (partD V D st j).length = 128 := rest_len hm0 (h.dl st hst) j
 have hj' : j < V.devs.length := by have := h.len; omega
 have hp' : parN V.m st < V.devs.length := by have := h.len; omega
 have hr := h.room j hj'
 have hrp := h.room _ hp'
 unfold volBoth
 rw [e1, e2, put_plain h.sp]
 dsimp only
 obtain ⟨k1, c⟩ := a.wr hj' (n := V.base + st) (by omega) hb
 rcases c with ⟨_, e, a1⟩ | ⟨x, _, _⟩ | ⟨e, o, fl⟩
 ·rw [if_pos e]
  have kn1 := k1.kn
  generalize volWr s V j ((V.base + st : Nat) : Int) b = r at *
  have hb1 : r.2.2.base = V.base := by unfold VolM.base; rw [kn1.sup]
  rw [put_plain (by rw [kn1.sup]; exact h.sp), hb1]
  obtain ⟨k2, c2⟩ := a1.wr (i := parN V.m st) (by rw [kn1.len]; exact hp') (n := V.base + st) (by rw [kn1.sz]; omega) (xorB_l128 hl hb)
  rcases c2 with ⟨_, e3, a2⟩ | ⟨x, _, _⟩ | ⟨e3, o, fl⟩
  ·refine .inl ⟨e3, _, _, a2, h.write (kn1.trans k2.kn) hst hj hp hb fun i t hi ht hdi => ?_⟩
   by_cases ei : i = parN V.m st
   ·subst ei
    rw [updM_same]
    by_cases et : t = st
    ·subst et
     rw [updV, if_pos rfl, newD_par V D t j b hp]
    ·rw [updV, if_neg (by omega), updM_ne _ _ (Ne.symm hp), newD_other V D st j b (.inl et)]
     exact h.same t ht _ hi hdi
   ·rw [updM_ne _ _ ei]
    by_cases ej : i = j
    ·subst ej
     rw [updM_same]
     by_cases et : t = st
     ·subst et
      rw [updV, if_pos rfl, newD_data]
     ·rw [updV, if_neg (by omega), newD_other V D st i b (.inl et)]
      exact h.same t ht _ hi hdi
    ·rw [updM_ne _ _ ej, newD_other V D st j b (.inr ⟨ej, ei⟩)]
     exact h.same t ht _ hi hdi
  ·rw [kn1.dead, hdp] at x; cases x
  ·exact .inr (.inr ⟨e3, o, fl.room⟩)
 ·rw [hd] at x; cases x
 ·rw [if_neg (by omega)]
  exact .inr (.inr ⟨e, o, fl.room⟩)
theorem newD_sup (h : V'.sup = V.sup) (D : Nat → Nat → Bytes) (st j : Nat) (b : Bytes) : newD V' D st j b = newD V D st j b ∧ partD V' D st j = partD V D st j := by
 have em : V'.m = V.m := by unfold VolM.m; rw [h]
 have e2 : partD V' D st j = partD V D st j := by unfold partD; rw [em]
 exact ⟨by funext i t; unfold newD; rw [e2, em], e2⟩
theorem has_note (h : Has s V D) {at_ : SpotM} {st j n : Nat} (e1 : at_.stripe = st) (e2 : at_.member = j) (hst : st < V.stripes) (hj : j < V.m) (hp : j ≠ parN V.m st) {b : Bytes} (hb : b.length = 128)
  (hd : (s.disk j).dead = false) (hdp : (s.disk (parN V.m st)).dead = false) (hn : n < V.logs) (hmay : mayB ⟨at_.stripe, at_.place, partD V D st j⟩ = true) : WroteB D (newD V D st j b) (volNote s V at_ (parN V.m st) (partD V D st j) b (parN V.m st) n) := by
 obtain ⟨U, M, a, sx⟩ := h
 have hm0 : 0 < V.m := by have := sx.m3; omega
 have hpl := parN_lt (m := V.m) (st := st) hm0
 have hp' : parN V.m st < V.devs.length := by have := sx.len; omega
 have hrp := sx.room _ hp'
 have hb0 : V.base = 2 + 2 * V.logs := rfl
 unfold volNote
 dsimp only
 obtain ⟨k1, c⟩ := a.log hp' hn (by omega) hdp hmay
 rcases c with ⟨e, a1⟩ | ⟨e, o, fl⟩
 ·rw [if_pos e]
  have kn1 := k1.kn
  have sx1 := sx.kn (U' := _) kn1 (fun i t hi ht hdi => show updM U (parN V.m st) (updV (updV (U (parN V.m st)) (2 + 2 * n + 1) (partD V D st j)) (2 + 2 * n) (hdBytes ⟨at_.stripe, at_.place, partD V D st j⟩)) i (V.base + t) = U i (V.base + t) by
   by_cases ei : i = parN V.m st
   ·subst ei; rw [updM_same, updV, if_neg (by omega), updV, if_neg (by omega)]
   ·rw [updM_ne _ _ ei])
  generalize volLog s V (parN V.m st) n ⟨at_.stripe, at_.place, partD V D st j⟩ = q at *
  have a2 := a1.devs (V' := q.2.2.use (parN V.m st, n)) rfl
  have kn2 : Kn s V q.2.1 (q.2.2.use (parN V.m st, n)) := kn1.same rfl rfl
  have sx2 : Stripes q.2.1 (q.2.2.use (parN V.m st, n)) _ D := sx1.kn ((Kn.refl q.2.1 q.2.2).same rfl rfl) (fun _ _ _ _ _ => rfl)
  generalize q.2.2.use (parN V.m st, n) = V2 at *
  obtain ⟨k3, c3⟩ := a2.fl (i := parN V.m st) (by rw [kn2.len]; exact hp')
  rcases c3 with ⟨_, e3, a3⟩ | ⟨x, _, _⟩ | ⟨e3, o3⟩
  ·rw [if_pos e3]
   have sx3 := sx2.kn k3.kn (fun _ _ _ _ _ => rfl)
   have kn3 := kn2.trans k3.kn
   generalize volFl q.2.1 V2 (parN V.m st) = f at *
   have a4 := a3.devs (V' := f.2.2.opn at_.stripe) rfl
   have kn4 : Kn s V f.2.1 (f.2.2.opn at_.stripe) := kn3.same rfl rfl
   have sx4 : Stripes f.2.1 (f.2.2.opn at_.stripe) _ D := sx3.kn ((Kn.refl f.2.1 f.2.2).same rfl rfl) (fun _ _ _ _ _ => rfl)
   generalize f.2.2.opn at_.stripe = V4 at *
   have em : V4.m = V.m := by unfold VolM.m; rw [kn4.sup]
   have es : V4.stripes = V.stripes := by unfold VolM.stripes; rw [kn4.sup]
   obtain ⟨n1, n2⟩ := newD_sup kn4.sup D st j b
   have := has_both a4 sx4 (Kn.refl f.2.1 V4) e1 e2 (by rw [es]; exact hst) (by rw [em]; exact hj) (by rw [em]; exact hp) hb (by rw [kn4.dead]; exact hd) (by rw [em, kn4.dead]; exact hdp)
   rw [n1, n2, em] at this
   exact this
  ·rw [kn2.dead, hdp] at x; cases x
  ·have o4 : (volFl q.2.1 V2 (parN V.m st)).2.1.Gone2 := by rw [e3]; exact ⟨o3, a2.room⟩
   have e4 : (volFl q.2.1 V2 (parN V.m st)).1 = 3 := by rw [e3]
   rw [if_neg (by omega)]
   exact .inr (.inr ⟨e4, o4⟩)
 ·rw [if_neg (by omega)]
  exact .inr (.inr ⟨e, o, fl.room⟩)
theorem has_part (a : ArrS s V U M) (h : Stripes s V U D) {at_ : SpotM} {st j : Nat} (e1 : at_.stripe = st) (e2 : at_.member = j) (hst : st < V.stripes) (hj : j < V.m) (hp : j ≠ parN V.m st) :
  ((volPart s V at_ (parN V.m st) (restL V.m st j)).2.1 = 0 ∧ (volPart s V at_ (parN V.m st) (restL V.m st j)).1 = partD V D st j ∧ Ticked s (volPart s V at_ (parN V.m st) (restL V.m st j)).2.2) ∨ ((volPart s V at_ (parN V.m st) (restL V.m st j)).2.1 = 10 ∧ Ticked s (volPart s V at_ (parN V.m st) (restL V.m st j)).2.2) ∨ ((volPart s V at_ (parN V.m st) (restL V.m st j)).2.1 = 3 ∧ (volPart s V at_ (parN V.m st) (restL V.m st j)).2.2.Gone2) := by
 have hm0 : 0 < V.m := by have := h.m3; omega
 have hpl := parN_lt (m := V.m) (st := st) hm0
 unfold volPart
 rw [e1, e2]
 dsimp only
 have hx := has_tog a h hst (l := restL V.m st j) (fun i hi => ((restL_mem hm0).1 hi).1)
 generalize volTog s V st (restL V.m st j) = x at *
 rcases hx with ⟨_, x1, x2, x3, x4⟩ | ⟨x1, x2⟩ | ⟨x1, x2⟩
 ·rw [if_neg (by omega)]
  exact .inl ⟨x2, by rw [x1, h.partU hst x4], x3⟩
 ·rw [if_pos x1]
  have hy := has_tog (a.ticked x2) (h.ticked x2) hst (l := [parN V.m st, j]) (fun i hi => by
   rcases List.mem_cons.1 hi with rfl | hi
   ·exact hpl
   ·rw [List.mem_singleton.1 hi]; exact hj)
  generalize volTog x.2.2 V st [parN V.m st, j] = y at *
  rcases hy with ⟨_, y1, y2, y3, y4⟩ | ⟨y1, y2⟩ | y
  ·refine .inl ⟨y2, ?_, x2.trans y3⟩
   rw [y1]
   have dp := y4 _ (.head _)
   have dj := y4 _ (.tail _ (.head _))
   rw [x2.disk] at dp dj
   show xorB (xorB zeroSec (U (parN V.m st) (V.base + st))) (U j (V.base + st)) = _
   rw [h.same st hst _ hpl dp, h.same st hst _ hj dj, xorB_comm zeroSec, xorB_zero (h.dl st hst _ hpl)]
   exact Fits1.back (f := fun i => D i st) ⟨h.dl st hst, h.zero st hst⟩ hm0 hj hp
  ·exact .inr (.inl ⟨y1, x2.trans y2⟩)
  ·exact .inr (.inr y)
 ·rw [if_neg (by omega)]
  exact .inr (.inr ⟨x1, x2⟩)
theorem WroteB.sup {r : Int × ShM × VolM} {st j : Nat} {b : Bytes} (e : V'.sup = V.sup) (h : WroteB D (newD V' D st j b) r) : WroteB D (newD V D st j b) r := by
 rw [(newD_sup e D st j b).1] at h
 exact h
theorem has_do (h : Has s V D) (hv : Vd s V) {c : Nat} (hc : c < V.size) {b : Bytes} (hb : b.length = 128) : WroteB D (newD V D (spotN V.m c).stripe (spotN V.m c).member b) (volDo s V (spotN V.m c) b) := by
 have h0 := h
 obtain ⟨U, M, a, sx⟩ := h
 have hm3 := sx.m3
 have hm0 : 0 < V.m := by omega
 obtain ⟨q1, q2, q3⟩ := spot_in hm3 hc
 have hjp := spot_par (b := c) hm3
 have hpl := parN_lt (m := V.m) (st := (spotN V.m c).stripe) hm0
 generalize hat : spotN V.m c = at_ at *
 have hj' : at_.member < V.devs.length := by have := sx.len; omega
 have hp' : parN V.m at_.stripe < V.devs.length := by have := sx.len; omega
 have hrj := sx.room _ hj'
 have hrp := sx.room _ hp'
 have ed : ∀ i, i < V.m → volDead s V i at_.stripe = (s.disk i).dead := fun i hi => by unfold volDead; rw [disk_plain sx.sp, a.dd i (by have := sx.len; omega)]
 unfold volDo
 dsimp only
 rw [ed _ q2, ed _ hpl]
 cases hdj : (s.disk at_.member).dead with
 | true =>
  cases hdp : (s.disk (parN V.m at_.stripe)).dead with
  | true => exact .inr (.inl ⟨rfl, h0⟩)
  | false =>
   simp only [Bool.and_false, Bool.false_eq_true, if_false, if_true]
   unfold volOnly
   dsimp only
   have hx := has_tog a sx q1 (l := restL V.m at_.stripe at_.member) (fun i hi => ((restL_mem hm0).1 hi).1)
   change WroteB _ _ (if (volTog s V at_.stripe (restL V.m at_.stripe at_.member)).2.1 = 0 then volPut (volTog s V at_.stripe (restL V.m at_.stripe at_.member)).2.2 V (parN V.m at_.stripe) at_.stripe (xorB (volTog s V at_.stripe (restL V.m at_.stripe at_.member)).1 b) else ((volTog s V at_.stripe (restL V.m at_.stripe at_.member)).2.1, (volTog s V at_.stripe (restL V.m at_.stripe at_.member)).2.2, V))
   generalize volTog s V at_.stripe (restL V.m at_.stripe at_.member) = x at *
   rcases hx with ⟨_, x1, x2, x3, x4⟩ | ⟨x1, x2⟩ | ⟨x1, x2⟩
   ·rw [if_pos x2, put_plain sx.sp]
    have hl : (partD V D at_.stripe at_.member).length = 128 := rest_len hm0 (sx.dl _ q1) _
    rw [sx.partU q1 x4] at x1
    rw [x1]
    obtain ⟨k1, c1⟩ := (a.ticked x3).wr hp' (n := V.base + at_.stripe) (by omega) (xorB_l128 hl hb)
    rcases c1 with ⟨_, e, a1⟩ | ⟨z, _, _⟩ | ⟨e, o, fl⟩
    ·refine .inl ⟨e, _, _, a1, sx.write ((Kin.ticked x3 V).kn.trans k1.kn) q1 q2 hjp hb fun i t hi ht hdi => ?_⟩
     by_cases ei : i = parN V.m at_.stripe
     ·subst ei
      rw [updM_same]
      by_cases et : t = at_.stripe
      ·subst et; rw [updV, if_pos rfl, newD_par V D _ _ b hjp]
      ·rw [updV, if_neg (by omega), newD_other V D _ _ b (.inl et)]
       exact sx.same t ht _ hi hdi
     ·rw [updM_ne _ _ ei]
      have ej : i ≠ at_.member := fun e => by rw [e, hdj] at hdi; cases hdi
      rw [newD_other V D _ _ b (.inr ⟨ej, ei⟩)]
      exact sx.same t ht _ hi hdi
    ·rw [x3.disk, hdp] at z; cases z
    ·exact .inr (.inr ⟨e, o, fl.room⟩)
   ·rw [if_neg (by omega)]
    exact .inr (.inl ⟨x1, h0.ticked x2⟩)
   ·rw [if_neg (by omega)]
    exact .inr (.inr ⟨x1, x2⟩)
 | false =>
  cases hdp : (s.disk (parN V.m at_.stripe)).dead with
  | true =>
   simp only [Bool.false_and, Bool.false_eq_true, if_false, if_true]
   rw [put_plain sx.sp]
   obtain ⟨k1, c1⟩ := a.wr hj' (n := V.base + at_.stripe) (by omega) hb
   rcases c1 with ⟨_, e, a1⟩ | ⟨z, _, _⟩ | ⟨e, o, fl⟩
   ·refine .inl ⟨e, _, _, a1, sx.write k1.kn q1 q2 hjp hb fun i t hi ht hdi => ?_⟩
    have ei : i ≠ parN V.m at_.stripe := fun e => by rw [e, hdp] at hdi; cases hdi
    by_cases ej : i = at_.member
    ·subst ej
     rw [updM_same]
     by_cases et : t = at_.stripe
     ·subst et; rw [updV, if_pos rfl, newD_data]
     ·rw [updV, if_neg (by omega), newD_other V D _ _ b (.inl et)]
      exact sx.same t ht _ hi hdi
    ·rw [updM_ne _ _ ej, newD_other V D _ _ b (.inr ⟨ej, ei⟩)]
     exact sx.same t ht _ hi hdi
   ·rw [hdj] at z; cases z
   ·exact .inr (.inr ⟨e, o, fl.room⟩)
  | false =>
   simp only [Bool.false_and, Bool.false_eq_true, if_false]
   unfold volUpdate
   rw [disk_plain sx.sp]
   dsimp only
   have hx := has_part a sx (at_ := at_) rfl rfl q1 q2 hjp
   have hv1 := vs_part hv (at_ := at_) q2 q1 hpl (rest := restL V.m at_.stripe at_.member) (fun i hi => ((restL_mem hm0).1 hi).1) (rest_length _ _ _)
   change WroteB _ _ (if (volPart s V at_ (parN V.m at_.stripe) (restL V.m at_.stripe at_.member)).2.1 = 0 then (if (volFree (volPart s V at_ (parN V.m at_.stripe) (restL V.m at_.stripe at_.member)).2.2 V (parN V.m at_.stripe)).2.1 = 0 then volNote (volFree (volPart s V at_ (parN V.m at_.stripe) (restL V.m at_.stripe at_.member)).2.2 V (parN V.m at_.stripe)).2.2.1 (volFree (volPart s V at_ (parN V.m at_.stripe) (restL V.m at_.stripe at_.member)).2.2 V (parN V.m at_.stripe)).2.2.2 at_ (parN V.m at_.stripe) (volPart s V at_ (parN V.m at_.stripe) (restL V.m at_.stripe at_.member)).1 b (parN V.m at_.stripe) (volFree (volPart s V at_ (parN V.m at_.stripe) (restL V.m at_.stripe at_.member)).2.2 V (parN V.m at_.stripe)).1 else ((volFree (volPart s V at_ (parN V.m at_.stripe) (restL V.m at_.stripe at_.member)).2.2 V (parN V.m at_.stripe)).2.1, (volFree (volPart s V at_ (parN V.m at_.stripe) (restL V.m at_.stripe at_.member)).2.2 V (parN V.m at_.stripe)).2.2.1, (volFree (volPart s V at_ (parN V.m at_.stripe) (restL V.m at_.stripe at_.member)).2.2 V (parN V.m at_.stripe)).2.2.2)) else ((volPart s V at_ (parN V.m at_.stripe) (restL V.m at_.stripe at_.member)).2.1, (volPart s V at_ (parN V.m at_.stripe) (restL V.m at_.stripe at_.member)).2.2, V))
   generalize volPart s V at_ (parN V.m at_.stripe) (restL V.m at_.stripe at_.member) = x at *
   rcases hx with ⟨x1, x2, x3⟩ | ⟨x1, x2⟩ | ⟨x1, x2⟩
   ·rw [if_pos x1, x2]
    have h1 := h0.ticked x3
    have k1 := (Kin.ticked x3 V).kn
    have hv2 := hv.ticked hv1.1 hv1.2.1
    obtain ⟨f1, f2, f3⟩ := vs_free hv2.vd (parN V.m at_.stripe)
    have hf : ((volFree x.2.2 V (parN V.m at_.stripe)).2.1 = 0 ∧ Has (volFree x.2.2 V (parN V.m at_.stripe)).2.2.1 (volFree x.2.2 V (parN V.m at_.stripe)).2.2.2 D ∧ Kn x.2.2 V (volFree x.2.2 V (parN V.m at_.stripe)).2.2.1 (volFree x.2.2 V (parN V.m at_.stripe)).2.2.2) ∨ ((volFree x.2.2 V (parN V.m at_.stripe)).2.1 = 3 ∧ (volFree x.2.2 V (parN V.m at_.stripe)).2.2.1.Gone2) := by
     unfold volFree
     split
     ·exact .inl ⟨rfl, h1, Kn.refl _ _⟩
     ·exact has_flush h1
    generalize volFree x.2.2 V (parN V.m at_.stripe) = f at *
    rcases hf with ⟨y1, y2, y3⟩ | ⟨y1, y2⟩
    ·rw [if_pos y1]
     have em : f.2.2.2.m = V.m := by unfold VolM.m; rw [y3.sup]
     have es : f.2.2.2.stripes = V.stripes := by unfold VolM.stripes; rw [y3.sup]
     have el : f.2.2.2.logs = V.logs := by unfold VolM.logs; rw [y3.sup]
     obtain ⟨_, n2⟩ := newD_sup y3.sup D at_.stripe at_.member b
     have hl : (partD V D at_.stripe at_.member).length = 128 := rest_len hm0 (sx.dl _ q1) _
     have hd1 : ∀ i, (f.2.2.1.disk i).dead = (s.disk i).dead := fun i => by rw [y3.dead, x3.disk]
     have w := has_note (n := f.1) (b := b) y2 (at_ := at_) rfl rfl (by rw [es]; exact q1) (by rw [em]; exact q2) (by rw [em]; exact hjp) hb (by rw [hd1]; exact hdj) (by rw [em, hd1]; exact hdp) (by rw [el]; exact f3) (by rw [n2]; exact mayB_at hv q1 q3 hl)
     rw [n2, em] at w
     exact w.sup y3.sup
    ·rw [if_neg (by omega)]
     exact .inr (.inr ⟨y1, y2⟩)
   ·rw [if_neg (by omega)]
    exact .inr (.inl ⟨x1, h0.ticked x2⟩)
   ·rw [if_neg (by omega)]
    exact .inr (.inr ⟨x1, x2⟩)
theorem has_once (h : Has s V D) (hv : Vd s V) {c : Nat} (hc : c < V.size) {b : Bytes} (hb : b.length = 128) : WroteB D (newD V D (spotN V.m c).stripe (spotN V.m c).member b) (volOnce s V (spotN V.m c) b) := by
 have hd := has_do h hv hc hb
 unfold volOnce
 generalize volDo s V (spotN V.m c) b = r at *
 split
 ·next ho => exact .inr (.inr ⟨rfl, ho, h.arrRoom⟩)
 ·dsimp only
  rcases hd with ⟨e, h'⟩ | ⟨e, h'⟩ | ⟨e, o⟩
  ·rw [if_pos e]; exact .inl ⟨rfl, h'.same rfl rfl⟩
  ·rw [if_neg (by omega)]; exact .inr (.inl ⟨e, h'⟩)
  ·rw [if_neg (by omega)]; exact .inr (.inr ⟨e, o⟩)
theorem has_write (h : Has s V D) (hv : Vd s V) {c : Nat} (hc : c < V.size) {b : Bytes} (hb : b.length = 128) : WroteB D (newD V D (spotN V.m c).stripe (spotN V.m c).member b) (volWrite s V c b) := by
 unfold volWrite
 rw [if_pos ⟨by omega, by omega⟩, if_pos hb, Int.toNat_natCast]
 dsimp only
 split
 ·rcases has_flush h with ⟨e, h', k⟩ | ⟨e, o⟩
  ·rw [if_pos e]
   have hv' := (vs_flush hv).1.vd
   generalize volFlush s V = f at *
   have em : f.2.2.m = V.m := by unfold VolM.m; rw [k.sup]
   have ez : f.2.2.size = V.size := by unfold VolM.size VolM.stripes; rw [em, k.sup]
   have w := has_once h' hv' (c := c) (by rw [ez]; exact hc) hb
   rw [em] at w
   exact w.sup k.sup
  ·rw [if_neg (by omega)]
   exact .inr (.inr ⟨e, o⟩)
 ·exact has_once h hv hc hb
theorem off_get (h : Vd s V) (ho : s.off = true) {a st : Nat} (ha : a < V.m) (hst : st < V.stripes) : volGet s V a st = ([], 3, s) := by
 have hd := h.on a st ha
 have hne := h.need
 have hv := h.devOk hd
 obtain ⟨p1, _⟩ := hv.place (n := V.base + st) (by rw [h.dz _ hd]; omega)
 have hh := hv.has p1
 have hw : ∀ d, s.why d = 3 := fun d => by unfold ShM.why; rw [ho]; rfl
 have hz := h.dz _ hd
 have hb : (0 : Int) ≤ ((V.base + st : Nat) : Int) ∧ ((V.base + st : Nat) : Int) < ((V.dev (V.diskOf a st)).size : Int) := by omega
 have hr : s.readR ((V.dev (V.diskOf a st)).disk : Nat) (sumAt (V.base + st) : Nat) = ([], 3, s) := by
  unfold ShM.readR
  rw [hh, if_pos rfl, hw]
  rfl
 have hs : devSector s (V.dev (V.diskOf a st)) ((V.base + st : Nat) : Int) = ([], [], 3, s) := by
  simp only [devSector, hb, and_self, if_true, Int.toNat_natCast, hr]
  rfl
 unfold volGet devRead
 rw [hs]
 rfl
theorem off_fl (h : Vd s V) (ho : s.off = true) {d : Nat} (hd : d < V.devs.length) : volFl s V d = (3, s, V) := by
 have hv := h.devOk hd
 have hh := hv.has (n := 0) (by have := hv.ok.sectors1; omega)
 have hw : ∀ d, s.why d = 3 := fun d => by unfold ShM.why; rw [ho]; rfl
 have hf : s.flushR ((V.dev d).disk : Nat) = (3, s) := by
  unfold ShM.flushR
  rw [show s.has ((V.dev d).disk : Nat) 0 = true from hh, if_pos rfl, hw]
  rfl
 unfold volFl devFlush
 rw [hf]
 show ((3 : Int), s, V.setDev d (V.dev d)) = _
 rw [setDev_self hd]
theorem off_flush (h : Vd s V) (ho : s.off = true) : volFlush s V = (3, s, V) := by
 have hl := h.len
 have h3 := h.m3
 obtain ⟨n, hn⟩ : ∃ n, V.devs.length = n + 1 := ⟨V.devs.length - 1, by omega⟩
 unfold volFlush volSync
 rw [hn]
 unfold syncFrom
 rw [off_fl h ho (by omega)]
 rfl
theorem off_write (h : Vd s V) (ho : s.off = true) {n : Nat} (hn : n < V.size) {b : Bytes} (hb : b.length = 128) : volWrite s V n b = (3, s, V) := by
 unfold volWrite
 rw [if_pos ⟨by omega, by omega⟩, if_pos hb, Int.toNat_natCast]
 dsimp only
 split
 ·rw [off_flush h ho]; rfl
 ·unfold volOnce
  rw [if_pos ho]
theorem off_read (h : Vd s V) (ho : s.off = true) {n : Nat} (hn : n < V.size) : volRead s V n = ([], 3, s, V) := by
 obtain ⟨q1, q2, _⟩ := spot_in h.m3 (show n < V.stripes * (V.m - 1) from hn)
 unfold volRead
 rw [if_pos ⟨by omega, by omega⟩, Int.toNat_natCast]
 dsimp only
 rw [off_get h ho q2 q1]
 rfl
end
end
section
open Go.RowKit
section
variable {s s' s'' : ShM} {V V' V'' : VolM} {k j : Nat} {d : Nat} {e : Int}
theorem VolOk.vd (h : VolOk s V) (ok : s.Ok) : Vd s V := by
 have a := h.lN
 have b := h.sN
 refine ⟨ok, h.slen, h.dd, h.dz, h.need, h.m3N, h.m16N, by have := h.st1; omega, by have := h.st1024; omega, by have := h.l1; omega, by have := h.l8; omega, by have := h.len; omega, fun j st hj => h.diskN hj st⟩
theorem vs_say (h : Vd s V) (hd : d < V.devs.length) {x : Sup} (hx : rightB { x with disk := (d : Int) } = true) : Vs 9 s V (volSay s V d x).2.1 (volSay s V d x).2.2 ∧ Why (volSay s V d x).2.1 d (volSay s V d x).1 := by
 have hne := h.need
 have hb0 : V.base = 2 + 2 * V.logs := rfl
 have hg : x.gen % 2 = (((x.gen % 2).toNat : Nat) : Int) := by omega
 unfold volSay
 dsimp only
 rw [if_pos hx, hg]
 obtain ⟨a, b⟩ := vs_wr h hd (n := (x.gen % 2).toNat) (by omega) (supBytes_len { x with disk := (d : Int) })
 generalize volWr s V d ((x.gen % 2).toNat : Int) (supBytes { x with disk := (d : Int) }) = w at *
 split
 ·obtain ⟨u, v⟩ := vs_fl a.vd (d := d) (by rw [a.len h]; exact hd)
  exact ⟨a.trans u, v⟩
 ·exact ⟨a.mono (by omega), b⟩
theorem vs_sayFrom {x : Sup} (L : Nat) (hx : ∀ i : Nat, i < L → rightB { x with disk := (i : Int) } = true) : ∀ (f i : Nat) {s : ShM} {V : VolM}, Vd s V → V.devs.length = L → i + f ≤ L → Vs (9 * f) s V (sayFrom s V x i f).2.1 (sayFrom s V x i f).2.2 ∧ Off3 (sayFrom s V x i f).2.1 (sayFrom s V x i f).1
 | 0, i, s, V, h, _, _ => ⟨Vs.refl h, .inl rfl⟩
 | f + 1, i, s, V, h, hl, hf => by
  obtain ⟨a, b⟩ := vs_say h (d := i) (by omega) (hx i (by omega))
  unfold sayFrom
  dsimp only
  split
  ·obtain ⟨u, v⟩ := vs_sayFrom L hx f (i + 1) a.vd (by rw [a.len h]; exact hl) (by omega)
   exact ⟨(a.trans u).mono (by omega), v⟩
  ·next hn => exact ⟨a.mono (by omega), b.pass hn⟩
theorem vs_zeroIn (d : Nat) : ∀ (f n : Nat) {s : ShM} {V : VolM}, Vd s V → d < V.devs.length → n + f ≤ (blocksI s.sectors).toNat → Vs (10 * f) s V (zeroIn s V d n f).2.1 (zeroIn s V d n f).2.2
 | 0, n, s, V, h, _, _ => Vs.refl h
 | f + 1, n, s, V, h, hd, hf => by
  have g1 := st_dread s (V.dev d) (n : Int)
  have o1 := ok_dread h.ok (V.dev d) (n : Int)
  unfold zeroIn
  generalize devRead s (V.dev d) (n : Int) = r at *
  have t := h.ticked g1 o1
  dsimp only
  split
  ·exact (t.trans (vs_zeroIn d f (n + 1) t.vd hd (by rw [g1.sec]; omega))).mono (by omega)
  ·split
   ·obtain ⟨a, _⟩ := vs_wr t.vd hd (n := n) (by rw [g1.sec]; omega) zeroSec_l
    generalize volWr r.2.2 V d (n : Int) zeroSec = w at *
    have u := t.trans a
    split
    ·exact (u.trans (vs_zeroIn d f (n + 1) u.vd (by rw [u.len h]; exact hd) (by rw [u.st.sec]; omega))).mono (by omega)
    ·exact u.mono (by omega)
   ·exact t.mono (by omega)
theorem vs_zeroFrom (b : Nat) : ∀ (f d : Nat) {s : ShM} {V : VolM}, Vd s V → V.base + V.stripes = b → d + f ≤ V.devs.length → Vs (10 * b * f) s V (zeroFrom s V d f).2.1 (zeroFrom s V d f).2.2
 | 0, d, s, V, h, _, _ => Vs.refl h
 | f + 1, d, s, V, h, hb, hf => by
  have a := vs_zeroIn d (V.base + V.stripes) 0 h (by omega) (by have := h.need; omega)
  have e : 10 * b * (f + 1) = 10 * b + 10 * b * f := by rw [Nat.mul_add, Nat.mul_one, Nat.add_comm]
  unfold zeroFrom
  dsimp only
  split
  ·have z := vs_zeroFrom b f (d + 1) a.vd (by rw [a.base, a.stripes]; exact hb) (by rw [a.len h]; omega)
   refine (a.trans z).mono ?_
   rw [hb, e]
   exact Nat.le_refl _
  ·refine a.mono ?_
   rw [hb, e]
   exact Nat.le_add_right _ _
theorem st_make (h : Vd s V) (hx : ∀ i : Nat, i < V.devs.length → rightB { (nextSup V V.sup) with disk := (i : Int) } = true) : St (10 * (V.base + V.stripes) * V.devs.length + 10 * V.devs.length) s (volMake s V).2.1 ∧ (volMake s V).2.1.Ok := by
 unfold volMake
 split
 ·exact ⟨(St.refl s).mono (by omega), h.ok⟩
 ·have z := vs_zeroFrom _ V.devs.length 0 h rfl (by omega)
  dsimp only
  split
  ·obtain ⟨y, _⟩ := vs_volSync z.vd
   rw [z.len h] at y
   have zy := z.trans y
   split
   ·have hs : nextSup (volSync (zeroFrom s V 0 V.devs.length).2.1 (zeroFrom s V 0 V.devs.length).2.2).2.2 (volSync (zeroFrom s V 0 V.devs.length).2.1 (zeroFrom s V 0 V.devs.length).2.2).2.2.sup = nextSup V V.sup := by
     unfold nextSup; rw [zy.sup]
    unfold volSave
    split
    ·rw [hs]
     obtain ⟨a, _⟩ := vs_sayFrom V.devs.length hx V.devs.length 0 zy.vd (zy.len h) (by omega)
     rw [zy.len h]
     dsimp only
     have b := zy.trans a
     split
     ·exact ⟨b.st.mono (by omega), b.vd.ok⟩
     ·exact ⟨b.st.mono (by omega), b.vd.ok⟩
    ·exact ⟨zy.st.mono (by omega), zy.vd.ok⟩
   ·exact ⟨zy.st.mono (by omega), zy.vd.ok⟩
  ·exact ⟨z.st.mono (by omega), z.vd.ok⟩
theorem heardR_s (s : ShM) (d n : Nat) : (heardR s d n).2.2 = (devRead s ⟨d, (blocksI s.sectors).toNat, -1⟩ n).2.2 := by
 unfold heardR
 dsimp only
 repeat' split
 all_goals rfl
theorem st_heardR (s : ShM) (d n : Nat) : St 2 s (heardR s d n).2.2 := by rw [heardR_s]; exact st_dread _ _ _
theorem ok_heardR (h : s.Ok) (d n : Nat) : (heardR s d n).2.2.Ok := by rw [heardR_s]; exact ok_dread h _ _
theorem hear_in : ∀ (f n : Nat) (s : ShM) (d : Nat), s.Ok → St (2 * f) s (hearIn s d n f).2 ∧ (hearIn s d n f).2.Ok ∧ ∀ x ∈ (hearIn s d n f).1, FitS s.disks.length x
 | 0, n, s, d, h => ⟨St.refl s, h, fun x hx => absurd hx List.not_mem_nil⟩
 | f + 1, n, s, d, h => by
  have a := st_heardR s d n
  obtain ⟨x, y, z⟩ := hear_in f (n + 1) (heardR s d n).2.2 d (ok_heardR h d n)
  have hf := fun h0 => heardR_fit (s := s) (d := d) (n := n) h0
  rw [hearIn_step]
  generalize heardR s d n = r at *
  refine ⟨(a.trans x).mono (by omega), y, fun q hq => ?_⟩
  dsimp only at hq
  split at hq
  ·next h0 =>
   rcases List.mem_cons.1 hq with rfl | hq
   ·exact hf h0
   ·have := z q hq
    rw [a.len] at this
    exact this
  ·have := z q hq
   rw [a.len] at this
   exact this
theorem hear_from : ∀ (f d : Nat) (s : ShM), s.Ok → St (4 * f) s (hearFrom s d f).2 ∧ (hearFrom s d f).2.Ok ∧ ∀ x ∈ (hearFrom s d f).1, FitS s.disks.length x
 | 0, d, s, h => ⟨St.refl s, h, fun x hx => absurd hx List.not_mem_nil⟩
 | f + 1, d, s, h => by
  obtain ⟨a, b, c⟩ := hear_in 2 0 s d h
  obtain ⟨x, y, z⟩ := hear_from f (d + 1) (hearIn s d 0 2).2 b
  rw [hearFrom_step]
  generalize hearIn s d 0 2 = r at *
  refine ⟨(a.trans x).mono (by omega), y, fun q hq => ?_⟩
  rcases List.mem_append.1 hq with hq | hq
  ·exact c q hq
  ·have := z q hq
   rw [a.len] at this
   exact this
theorem vs_tell (L : Nat) : ∀ (f i : Nat) {s : ShM} {V : VolM}, Vd s V → V.devs.length = L → (∀ i : Nat, i < L → rightB { V.sup with disk := (i : Int) } = true) → i + f ≤ L → Vs (11 * f) s V (tellFrom s V i f).2.1 (tellFrom s V i f).2.2 ∧ Off3 (tellFrom s V i f).2.1 (tellFrom s V i f).1
 | 0, i, s, V, h, _, _, _ => ⟨Vs.refl h, .inl rfl⟩
 | f + 1, i, s, V, h, hl, hx, hf => by
  have a := st_heardR s i (V.sup.gen % 2).toNat
  have t := h.ticked a (ok_heardR h.ok i _)
  rw [tellFrom_step]
  generalize heardR s i (V.sup.gen % 2).toNat = r at *
  split
  ·obtain ⟨u, v⟩ := vs_tell L f (i + 1) t.vd hl hx (by omega)
   exact ⟨(t.trans u).mono (by omega), v⟩
  ·obtain ⟨y1, y2⟩ := vs_say t.vd (d := i) (by omega) (hx i (by omega))
   have ty := t.trans y1
   split
   ·obtain ⟨u, v⟩ := vs_tell L f (i + 1) ty.vd (by rw [ty.len h]; exact hl) (by rw [ty.sup]; exact hx) (by omega)
    exact ⟨(ty.trans u).mono (by omega), v⟩
   ·next hn => exact ⟨ty.mono (by omega), y2.pass hn⟩
theorem get_off {a st : Nat} (h : Vd s V) (ha : a < V.m) (hst : st < V.stripes) (e : (volGet s V a st).2.1 = 3) : (volGet s V a st).2.2.off = true := by
 rcases (vs_get h ha hst).2.2.1 with (g | g | g) | g
 ·omega
 ·exact g.2
 ·omega
 ·omega
theorem vs_redo (h : Vd s V) (h3 : (V.m : Int) = V.sup.members) {r : Rec} (hr : mayB r = true) (hal : (s.disk d).dead = false) : Vs 12 s V (volRedo s V d r).2.1 (volRedo s V d r).2.2 ∧ Off3 (volRedo s V d r).2.1 (volRedo s V d r).1 := by
 obtain ⟨r1, r2, r3, r4, r5⟩ := of_decide_eq_true hr
 unfold volRedo
 have hs : V.stripes = V.sup.stripes.toNat := rfl
 split
 ·next hb =>
  obtain ⟨b1, b2⟩ := hb
  have hm3 := h.m3
  have hst : r.stripe.toNat < V.stripes := by omega
  have hpl := parN_lt (m := V.m) (st := r.stripe.toNat) (by omega)
  obtain ⟨p1, p2, _⟩ := place_mem (m := V.m) (st := r.stripe.toNat) (pl := r.place.toNat) (by omega) (by omega)
  rw [← p1] at p2
  dsimp only
  split
  ·next hon =>
   obtain ⟨g1, g2, g3, g4, _⟩ := vs_get h p2 hst
   have hoff := get_off h p2 hst
   generalize volGet s V ((memL V.m r.stripe.toNat).getD r.place.toNat 0) r.stripe.toNat = g at *
   have t := h.ticked g1 g2
   split
   ·next e0 =>
    obtain ⟨w1, w2, _, _, _⟩ := vs_get t.vd hpl hst
    generalize volGet g.2.2 V (parN V.m r.stripe.toNat) r.stripe.toNat = w at *
    have u := t.trans (t.vd.ticked w1 w2)
    split
    ·exact ⟨u.mono (by omega), .inl rfl⟩
    ·obtain ⟨x, y⟩ := vs_putL u.vd hpl hst (by rw [u.st.dead, hon]; exact hal) (xorB_l128 r5 (g4 e0))
     exact ⟨(u.trans x).mono (by omega), y⟩
   ·split
    ·next e3 => exact ⟨t.mono (by omega), .inr ⟨rfl, hoff e3⟩⟩
    ·exact ⟨t.mono (by omega), .inl rfl⟩
  ·exact ⟨(Vs.refl h).mono (by omega), .inl rfl⟩
 ·exact ⟨(Vs.refl h).mono (by omega), .inl rfl⟩
theorem vs_logGet (h : Vd s V) (hd : d < V.devs.length) {n : Nat} (hn : n < V.logs) : St 4 s (logGet s (V.dev d) V.logs n).2.2 ∧ (logGet s (V.dev d) V.logs n).2.2.Ok ∧ ((logGet s (V.dev d) V.logs n).2.1 = 3 → (logGet s (V.dev d) V.logs n).2.2.off = true) ∧ ((logGet s (V.dev d) V.logs n).2.1 = 0 → (s.disk d).dead = false) := by
 have hne := h.need
 have hb : V.base = 2 + 2 * V.logs := rfl
 have hv := h.devOk hd
 have hz := h.dz d hd
 have hsl : slotOk V.logs (n : Int) = true := by unfold slotOk; simp; omega
 have c2 : (2 + 2 * (n : Int) + 1) = ((2 + 2 * n + 1 : Nat) : Int) := by omega
 have c1 : (2 + 2 * (n : Int)) = ((2 + 2 * n : Nat) : Int) := by omega
 have a1 := st_dread s (V.dev d) ((2 + 2 * n : Nat) : Int)
 have o1 := ok_dread h.ok (V.dev d) ((2 + 2 * n : Nat) : Int)
 obtain ⟨w1, _, _⟩ := why_dread hv (n := 2 + 2 * n) (by omega)
 have hz1 : (devRead s (V.dev d) ((2 + 2 * n : Nat) : Int)).2.1 = 0 → (s.disk d).dead = false := fun e => by
  have := (why_sector hv (n := 2 + 2 * n) (by omega)).2
  rw [h.dd d hd] at this
  refine (this ?_).2.2
  unfold devRead at e
  dsimp only at e
  split at e
  ·assumption
  ·exact e
 have h3 : ∀ {t : ShM} {e : Int}, (Why t (V.dev d).disk e ∨ (e = 5 ∧ (s.disk (V.dev d).disk).dead = false)) → e = 3 → t.off = true := fun g e3 => by
  rcases g with (g | g | g) | g
  ·omega
  ·exact g.2
  ·omega
  ·omega
 unfold logGet
 rw [if_pos hsl, c2, c1]
 have f1 := h3 w1
 generalize devRead s (V.dev d) ((2 + 2 * n : Nat) : Int) = x at *
 have hv2 := hv.st a1 o1 (D' := V.dev d) rfl rfl
 have a2 := st_dread x.2.2 (V.dev d) ((2 + 2 * n + 1 : Nat) : Int)
 have o2 := ok_dread o1 (V.dev d) ((2 + 2 * n + 1 : Nat) : Int)
 obtain ⟨w2, _, _⟩ := why_dread hv2 (n := 2 + 2 * n + 1) (by omega)
 have f2 : (devRead x.2.2 (V.dev d) ((2 + 2 * n + 1 : Nat) : Int)).2.1 = 3 → (devRead x.2.2 (V.dev d) ((2 + 2 * n + 1 : Nat) : Int)).2.2.off = true := fun e3 => by
  rcases w2 with (g | g | g) | g
  ·omega
  ·exact g.2
  ·omega
  ·omega
 dsimp only
 split
 ·next e0 =>
  split
  ·exact ⟨a1.mono (by omega), o1, (fun h => absurd h (show ¬ (7 : Int) = 3 by decide)), (fun h => absurd h (show ¬ (7 : Int) = 0 by decide))⟩
  ·generalize devRead x.2.2 (V.dev d) ((2 + 2 * n + 1 : Nat) : Int) = y at *
   split
   ·refine ⟨(a1.trans a2).mono (by omega), o2, fun h => ?_, fun _ => hz1 e0⟩
    dsimp only at h
    unfold decEP at h
    split at h <;> omega
   ·next ey => exact ⟨(a1.trans a2).mono (by omega), o2, f2, fun h => absurd h ey⟩
 ·next ex => exact ⟨a1.mono (by omega), o1, f1, fun h => absurd h ex⟩
theorem vs_recIn (i : Nat) : ∀ (f n : Nat) {s : ShM} {V : VolM}, Vd s V → (V.m : Int) = V.sup.members → i < V.devs.length → n + f ≤ V.logs → Vs (16 * f) s V (recIn s V i n f).2.1 (recIn s V i n f).2.2 ∧ Off3 (recIn s V i n f).2.1 (recIn s V i n f).1
 | 0, n, s, V, h, _, _, _ => ⟨Vs.refl h, .inl rfl⟩
 | f + 1, n, s, V, h, h3, hi, hf => by
  obtain ⟨g1, g2, g3, g4⟩ := vs_logGet h hi (n := n) (by omega)
  have hm := fun h0 => logGet_may (s := s) (D := V.dev i) (slots := V.logs) (n := (n : Int)) h0
  unfold recIn
  generalize logGet s (V.dev i) V.logs (n : Int) = r at *
  have t := h.ticked g1 g2
  dsimp only
  split
  ·obtain ⟨u, v⟩ := vs_recIn i f (n + 1) t.vd h3 hi (by omega)
   exact ⟨(t.trans u).mono (by omega), v⟩
  ·split
   ·next e3 => exact ⟨t.mono (by omega), .inr ⟨rfl, g3 e3⟩⟩
   ·split
    ·next e0 =>
     obtain ⟨y1, y2⟩ := vs_redo t.vd h3 (hm e0) (d := i) (by rw [g1.dead]; exact g4 e0)
     generalize volRedo r.2.2 V i r.1 = y at *
     have ty := t.trans y1
     split
     ·have tz := ty.trans (ty.vd.use (i, n))
      obtain ⟨u, v⟩ := vs_recIn i f (n + 1) tz.vd (by rw [tz.m, tz.sup]; exact h3) (by rw [tz.len h]; exact hi) (by rw [tz.logs]; omega)
      exact ⟨(tz.trans u).mono (by omega), v⟩
     ·exact ⟨ty.mono (by omega), y2⟩
    ·have tz := t.trans (t.vd.use (i, n))
     obtain ⟨u, v⟩ := vs_recIn i f (n + 1) tz.vd (by rw [tz.m, tz.sup]; exact h3) (by rw [tz.len h]; exact hi) (by rw [tz.logs]; omega)
     exact ⟨(tz.trans u).mono (by omega), v⟩
theorem vs_recFrom (l : Nat) : ∀ (f i : Nat) {s : ShM} {V : VolM}, Vd s V → (V.m : Int) = V.sup.members → V.logs = l → i + f ≤ V.devs.length → Vs (16 * l * f) s V (recFrom s V i f).2.1 (recFrom s V i f).2.2 ∧ Off3 (recFrom s V i f).2.1 (recFrom s V i f).1
 | 0, i, s, V, h, _, _, _ => ⟨Vs.refl h, .inl rfl⟩
 | f + 1, i, s, V, h, h3, hl, hf => by
  obtain ⟨a, b⟩ := vs_recIn i V.logs 0 h h3 (by omega) (by omega)
  have e : 16 * l * (f + 1) = 16 * l + 16 * l * f := by rw [Nat.mul_add, Nat.mul_one, Nat.add_comm]
  unfold recFrom
  dsimp only
  split
  ·obtain ⟨x, y⟩ := vs_recFrom l f (i + 1) a.vd (by rw [a.m, a.sup]; exact h3) (by rw [a.logs]; exact hl) (by rw [a.len h]; omega)
   refine ⟨(a.trans x).mono ?_, y⟩
   rw [hl, e]
   exact Nat.le_refl _
  ·refine ⟨a.mono ?_, b⟩
   rw [hl, e]
   exact Nat.le_add_right _ _
theorem vs_recover (h : Vd s V) (h3 : (V.m : Int) = V.sup.members) : Vs 4000 s V (volRecover s V).2.1 (volRecover s V).2.2 ∧ Off3 (volRecover s V).2.1 (volRecover s V).1 := by
 obtain ⟨a, b⟩ := vs_recFrom _ V.devs.length 0 h h3 rfl (by omega)
 have h17 : V.devs.length ≤ 17 := by rw [← h.slen]; exact h.ok.disks17
 have h8 := h.l8
 have e1 : 16 * V.logs * V.devs.length ≤ 128 * 17 := Nat.mul_le_mul (by omega) h17
 have e2 : V.devs.length * (2 + 8 * V.logs) ≤ 17 * 66 := Nat.mul_le_mul h17 (by omega)
 unfold volRecover
 dsimp only
 split
 ·obtain ⟨x, y⟩ := vs_flush a.vd
  have e3 : flK (recFrom s V 0 V.devs.length).2.2 = flK V := by unfold flK; rw [a.len h, a.logs]
  rw [e3] at x
  refine ⟨(a.trans x).mono ?_, y⟩
  unfold flK
  omega
 ·exact ⟨a.mono (by omega), b⟩
theorem open_any (hok : s.Ok) (hst : s.stops = false) : ((volOpen s).1 = 0 ∨ (volOpen s).1 = 8) ∧ St 10000 s (volOpen s).2.1 ∧ (volOpen s).2.1.Ok := by
 have h17 := hok.disks17
 have hoff : ∀ {t : ShM}, t.stops = false → t.off = false := fun h => by simp [ShM.off, h]
 unfold volOpen
 rw [if_neg (by rw [hoff hst]; decide)]
 obtain ⟨a, b, c⟩ := hear_from s.disks.length 0 s hok
 generalize hearFrom s 0 s.disks.length = l at *
 dsimp only
 split
 ·exact ⟨.inr rfl, a.mono (by omega), b⟩
 ·next hne =>
  split
  ·next hbo =>
   have hx := c _ (newest_mem hne)
   generalize l.1.getD (newestTo l.1 l.1.length) noSup = x at *
   obtain ⟨hxr, hxs⟩ := hx
   have hr := of_decide_eq_true hxr
   obtain ⟨r1, r2, r3, r4, r5, r6, r7, r8, r9, r10, r11, r12, r13, r14, r15, r16, r17⟩ := hr
   have hms := (of_decide_eq_true hbo).2.2.2.2.2.2.1
   have hok2 : VolOk l.2 (volBuild l.2 x) := buildOk_vol hbo r5 (by omega) (by omega) r2 r11 r12 r13 r14 r15 r16 r17 (fun h => by
    rcases hms with hm | hm
    ·exact absurd ⟨h, by rw [← a.len]; exact hm⟩ hxs
    ·exact hm)
   have hv := hok2.vd b
   have hl : (volBuild l.2 x).devs.length = l.2.disks.length := (build_devs l.2 x).1
   have hright : ∀ i : Nat, i < l.2.disks.length → rightB { x with disk := (i : Int) } = true := fun i hi => by
    refine decide_eq_true ⟨r1, r2, r3, r4, ?_, ?_, r7, r8, r9, r10, r11, r12, r13, r14, r15, r16, r17⟩
    ·show (0 : Int) ≤ (i : Int); omega
    ·show (i : Int) ≤ x.members
     rcases hms with hm | hm <;> omega
   obtain ⟨t1, t2⟩ := vs_tell l.2.disks.length l.2.disks.length 0 hv hl hright (by omega)
   have hlive : ∀ {t : ShM} {e : Int}, t.stops = false → Off3 t e → e = 0 := fun h g => by
    rcases g with g | g
    ·exact g
    ·rw [hoff h] at g; cases g.2
   have et : (tellFrom l.2 (volBuild l.2 x) 0 l.2.disks.length).1 = 0 := hlive (by rw [t1.st.stops, a.stops]; exact hst) t2
   rw [if_pos et]
   generalize tellFrom l.2 (volBuild l.2 x) 0 l.2.disks.length = t at *
   obtain ⟨q1, q2⟩ := vs_recover t1.vd (by rw [t1.m, t1.sup]; exact hok2.mN)
   exact ⟨.inl (hlive (by rw [q1.st.stops, t1.st.stops, a.stops]; exact hst) q2), ((a.trans t1.st).trans q1.st).mono (by rw [a.len]; omega), q1.vd.ok⟩
  ·exact ⟨.inr rfl, a.mono (by omega), b⟩
end
end
section
open Go.RowKit
theorem begin_count (m st l : Nat) (hm : 3 ≤ m) (hm16 : m ≤ 16) (hst : 1 ≤ st) (hst6 : st ≤ 6) (hl : 1 ≤ l) (hl8 : l ≤ 8) (hb : buildOk (freshSh (m + 1) 40) (newSup m st l) = true) :
  0 ≤ (volMake (freshSh (m + 1) 40) (volBuild (freshSh (m + 1) 40) (newSup m st l))).2.1.count ∧ (volMake (freshSh (m + 1) 40) (volBuild (freshSh (m + 1) 40) (newSup m st l))).2.1.count ≤ 100000 := by
 have hdl : (freshSh (m + 1) 40).disks.length = m + 1 := by simp [freshSh]
 have hok : VolOk (freshSh (m + 1) 40) (volBuild (freshSh (m + 1) 40) (newSup m st l)) := buildOk_vol hb (by show (0 : Int) ≤ 0; omega) (by show (0 : Int) ≤ 16; omega) (by show (0 : Int) ≤ 0; omega) (by show (0 : Int) ≤ 4611686018427387904; omega) (by show (-1 : Int) ≤ -1; omega) (by show (-1 : Int) < (m : Int); omega) (by show (0 : Int) ≤ 0; omega) (by show (0 : Int) ≤ (st : Int); omega) (fun _ => by show (0 : Int) ≤ 0; omega) (by show (0 : Int) ≤ 0; omega) (by show (0 : Int) < (st : Int); omega) (fun h => absurd h (by show ¬ (0 : Int) ≤ -1; omega))
 have hv := hok.vd (freshSh_ok (m + 1) 40 (by omega) (by omega) (by omega) (by omega))
 have hsup : (volBuild (freshSh (m + 1) 40) (newSup m st l)).sup = newSup m st l := rfl
 have hlen : (volBuild (freshSh (m + 1) 40) (newSup m st l)).devs.length = m + 1 := by rw [(build_devs _ _).1, hdl]
 have hneed := hv.need
 have h37 : (blocksI ((freshSh (m + 1) 40).sectors : Nat)).toNat = 37 := by show (blocksI ((40 : Nat) : Int)).toNat = 37; decide
 rw [h37] at hneed
 obtain ⟨h, _⟩ := st_make hv (fun i hi => decide_eq_true (by
  rw [hlen] at hi
  rw [hsup]
  unfold RightP nextSup
  rw [hsup]
  unfold newSup
  dsimp only
  omega))
 have hc : (freshSh (m + 1) 40).count = 0 := rfl
 have hk : 10 * ((volBuild (freshSh (m + 1) 40) (newSup m st l)).base + (volBuild (freshSh (m + 1) 40) (newSup m st l)).stripes) * (volBuild (freshSh (m + 1) 40) (newSup m st l)).devs.length + 10 * (volBuild (freshSh (m + 1) 40) (newSup m st l)).devs.length ≤ 100000 := by
  rw [hlen]
  have : 10 * ((volBuild (freshSh (m + 1) 40) (newSup m st l)).base + (volBuild (freshSh (m + 1) 40) (newSup m st l)).stripes) * (m + 1) ≤ 370 * 17 := Nat.mul_le_mul (by omega) (by omega)
  omega
 have := (h.mono hk).cnt (by rw [hc]; omega) (by rw [hc]; omega)
 rw [hc] at this
 omega
end
end Go.Proofs.Ytajnlhalanhicaa

/-
  ShelfKeeps' plain facts: behind a crash a sector has what was sure, or what waited.
-/
import Derived.Test.YtffdpipmfdkaoaaShSureM
namespace Go.Proofs.Ytffdpipmfdkaoaa
set_option linter.all false
open Go.RowKit

/-- what waits for a sector -/
def waitsFor (n : Nat) (ws : List (Nat × Bytes)) : List Bytes := (ws.filter fun x => x.1 == n).map (·.2)
theorem waitsFor_cons (n : Nat) (x : Nat × Bytes) (ws : List (Nat × Bytes)) : waitsFor n (x :: ws) = if x.1 = n then x.2 :: waitsFor n ws else waitsFor n ws := by
  simp only [waitsFor, List.filter_cons, beq_iff_eq]
  split <;> rfl
theorem settleL_one (keeps : Nat → Bool) (n : Nat) : ∀ (l : List (Nat × Bytes)) (j : Nat) (sure : List Bytes), n < sure.length →
    (settleL keeps j l sure).getD n [] = sure.getD n [] ∨ (settleL keeps j l sure).getD n [] ∈ waitsFor n l
  | [], _, _, _ => .inl rfl
  | x :: l, j, sure, h => by
    rw [settleL, waitsFor_cons]
    rcases settleL_one keeps n l (j + 1) (if keeps j then sure.set x.1 x.2 else sure) (by split <;> simpa using h) with hh | hh
    · rw [hh]
      split
      · by_cases e : x.1 = n
        · rw [if_pos e]
          refine .inr ?_
          subst e
          rw [List.getD_eq_getElem?_getD, List.getElem?_set_self h]
          exact List.mem_cons_self
        · exact .inl (by rw [List.getD_eq_getElem?_getD, List.getElem?_set_ne e, ← List.getD_eq_getElem?_getD])
      · exact .inl rfl
    · refine .inr ?_
      split
      · exact List.mem_cons_of_mem _ hh
      · exact hh
theorem settleL_all (n : Nat) : ∀ (l : List (Nat × Bytes)) (j : Nat) (sure : List Bytes), n < sure.length →
    (settleL (fun _ => true) j l sure).getD n [] = (waitsFor n l).getLastD (sure.getD n [])
  | [], _, _, _ => rfl
  | x :: l, j, sure, h => by
    rw [settleL, waitsFor_cons, if_pos rfl, settleL_all n l (j + 1) _ (by simpa using h)]
    by_cases e : x.1 = n
    · rw [if_pos e, List.getLastD_cons]
      subst e
      rw [List.getD_eq_getElem?_getD, List.getElem?_set_self h]
      rfl
    · rw [if_neg e, List.getD_eq_getElem?_getD, List.getElem?_set_ne e, ← List.getD_eq_getElem?_getD]

/-- what a sector may have: the first was sure, the others wait -/
structure KeepsInv (n : Int) (may : List UInt8) (s : ShM) : Prop where
  disks : s.disks.length = 2
  sectors : s.sectors = 8
  alive : (s.disk 1).dead = false
  runs : s.stops = false
  len : (s.disk 1).sure.length = 8
  some_ : may ≠ []
  sure : 0 ≤ n → n < 8 → (s.disk 1).sure.getD n.toNat [] = secOf (may.headD 0) ∨ (may.headD 0 = 0 ∧ (s.disk 1).sure.getD n.toNat [] = zeroSec)
  waits : 0 ≤ n → n < 8 → waitsFor n.toNat (s.disk 1).waits = may.tail.map secOf
  still : ¬ (0 ≤ n ∧ n < 8) → may.length = 1
section
variable {n : Int} {may : List UInt8} {s t : ShM}
theorem KeepsInv.why (h : KeepsInv n may s) : s.why 1 = 0 := by
  simp only [ShM.why, ShM.off, h.runs, h.alive, Bool.false_and, Bool.false_eq_true, if_false]
theorem keeps_start (n : Int) : KeepsInv n [0] (freshSh 2 8) := by
  refine ⟨rfl, rfl, rfl, rfl, rfl, by simp, fun h0 h8 => .inr ⟨rfl, ?_⟩, fun _ _ => rfl, fun _ => rfl⟩
  obtain ⟨k, rfl⟩ := Int.eq_ofNat_of_zero_le h0
  rcases ss_cases (n := k) (by omega) with rfl | rfl | rfl | rfl | rfl | rfl | rfl | rfl <;> rfl
theorem runs_spend (h : s.stops = false) : s.spend.tick = s.tick := by simp only [ShM.spend, h, Bool.false_eq_true, if_false]
theorem keeps_write (h : KeepsInv n may s) (m : Int) (b : UInt8) :
    if 0 ≤ m ∧ m < 8 then (s.writeR 1 m (secOf b)).1 = 0 ∧ KeepsInv n (if m = n then may ++ [b] else may) (s.writeR 1 m (secOf b)).2 else s.writeR 1 m (secOf b) = (1, s) := by
  have h1 : ((1 : Int).toNat) = 1 := rfl
  split
  · rename_i hm
    have hh : s.has 1 m = true := by
      simp only [ShM.has, h.disks, h.sectors, decide_eq_true_eq]
      omega
    have e : s.writeR 1 m (secOf b) = (0, s.tick.setDisk 1 ((s.disk 1).write m.toNat (secOf b))) := by
      simp only [ShM.writeR, hh, secOf_len, and_self, if_true, h1, h.why, runs_spend h.runs]
    rw [e]
    refine ⟨rfl, ?_⟩
    have hl : 1 < s.tick.disks.length := by show 1 < s.disks.length; rw [h.disks]; omega
    have h2 := s.tick.disk_set hl ((s.disk 1).write m.toNat (secOf b))
    have hd2 : (if m = n then may ++ [b] else may).headD 0 = may.headD 0 := by
      split
      · cases may with
        | nil => exact absurd rfl h.some_
        | cons x l => rfl
      · rfl
    refine ⟨by rw [s.tick.set_len]; exact h.disks, h.sectors, by rw [h2]; exact h.alive, h.runs, by rw [h2]; exact h.len, by split <;> simp [h.some_], ?_, ?_, ?_⟩
    · rw [h2, hd2]
      exact h.sure
    · intro h0 h8
      rw [h2]
      have hw := h.waits h0 h8
      have e1 : waitsFor n.toNat ((s.disk 1).write m.toNat (secOf b)).waits = waitsFor n.toNat (s.disk 1).waits ++ waitsFor n.toNat [(m.toNat, secOf b)] := by
        simp [waitsFor, DiskM.write]
      rw [e1, hw, waitsFor_cons]
      by_cases en : m = n
      · rw [if_pos en, if_pos (by rw [en])]
        cases may with
        | nil => exact absurd rfl h.some_
        | cons x l => simp [waitsFor]
      · rw [if_neg en, if_neg (by show ¬ m.toNat = n.toNat; omega)]
        simp [waitsFor]
    · intro hn
      rw [if_neg (show ¬ m = n from fun e => hn (e ▸ hm))]
      exact h.still hn
  · rename_i hm
    have hh : s.has 1 m = false := by
      simp only [ShM.has, h.disks, h.sectors, decide_eq_false_iff_not]
      omega
    simp [ShM.writeR, hh]
theorem getLastD_map (l : List UInt8) (x : UInt8) : (l.map secOf).getLastD (secOf x) = secOf (l.getLastD x) := by
  induction l generalizing x with
  | nil => rfl
  | cons y l ih => simp only [List.map_cons, List.getLastD_cons, ih]
theorem head_get (l : List UInt8) (h : 0 < l.length) : l[0] = l.headD 0 := by
  cases l with
  | nil => simp at h
  | cons x l => rfl
theorem drop_last : ∀ (l : List UInt8) (k : Nat), l.length = k + 1 → l.drop k = [l.getLastD 0]
  | [], k, h => by simp at h
  | [x], k, h => by
    obtain rfl : k = 0 := by simpa using h
    rfl
  | x :: y :: l, 0, h => by simp at h
  | x :: y :: l, k + 1, h => by
    have := drop_last (y :: l) k (by simpa using h)
    simpa using this
theorem keeps_flush (h : KeepsInv n may s) : (s.flushR 1).1 = 0 ∧ KeepsInv n [may.getLastD 0] (s.flushR 1).2 := by
  have h1 : ((1 : Int).toNat) = 1 := rfl
  have hh : s.has 1 0 = true := by
    simp only [ShM.has, h.disks, h.sectors]
    decide
  have e : s.flushR 1 = (0, s.tick.setDisk 1 ((s.disk 1).settle fun _ => true)) := by
    simp only [ShM.flushR, hh, if_true, h1, h.why, runs_spend h.runs]
  rw [e]
  refine ⟨rfl, ?_⟩
  have hl : 1 < s.tick.disks.length := by show 1 < s.disks.length; rw [h.disks]; omega
  have h2 := s.tick.disk_set hl ((s.disk 1).settle fun _ => true)
  refine ⟨by rw [s.tick.set_len]; exact h.disks, h.sectors, by rw [h2]; exact h.alive, h.runs, by rw [h2]; exact (settleL_len _ _ _ _).trans h.len, by simp, ?_, fun _ _ => by rw [h2]; rfl, fun _ => rfl⟩
  intro h0 h8
  rw [h2]
  show (settleL (fun _ => true) 0 (s.disk 1).waits (s.disk 1).sure).getD n.toNat [] = _ ∨ _ ∧ (settleL (fun _ => true) 0 (s.disk 1).waits (s.disk 1).sure).getD n.toNat [] = _
  rw [settleL_all n.toNat _ _ _ (by rw [h.len]; omega), h.waits h0 h8]
  show _ = secOf (may.getLastD 0) ∨ may.getLastD 0 = 0 ∧ _
  cases may with
  | nil => exact absurd rfl h.some_
  | cons x l =>
    rw [List.getLastD_cons]
    show (l.map secOf).getLastD _ = secOf (l.getLastD x) ∨ _
    rcases h.sure h0 h8 with hs | ⟨hx, hs⟩
    · rw [hs]
      exact .inl (getLastD_map l x)
    · rw [hs]
      cases l with
      | nil => exact .inr ⟨hx, rfl⟩
      | cons y l => exact .inl (by simp only [List.map_cons, List.getLastD_cons]; exact getLastD_map l y)
theorem keeps_crash (h : KeepsInv n may s) (keep : List (List Int)) :
    (s.crash keep).waitsR 1 = 0 ∧ if 0 ≤ n ∧ n < 8 then ∃ b, (s.crash keep).readR 1 n = (b, 0, (s.crash keep).tick) ∧ (b ∈ may.map secOf ∨ (may.headD 0 = 0 ∧ b = zeroSec)) else (s.crash keep).readR 1 n = ([], 1, s.crash keep) := by
  have h1 : ((1 : Int).toNat) = 1 := rfl
  have hl : (s.crash keep).disks.length = 2 := by simp [ShM.crash, h.disks]
  have hd := crash_disk s keep (e := 1) (by rw [h.disks]; omega)
  have hse : (s.crash keep).sectors = 8 := h.sectors
  have hws : ((s.crash keep).disk 1).waits = [] := by rw [hd]; rfl
  refine ⟨by simp [ShM.waitsR, hws], ?_⟩
  split
  · rename_i hn
    have hh : (s.crash keep).has 1 n = true := by
      simp only [ShM.has, hl, hse, decide_eq_true_eq]
      omega
    have hst : (s.crash keep).stops = false := rfl
    have hal : ((s.crash keep).disk 1).dead = false := by rw [hd]; exact h.alive
    have hw : (s.crash keep).why 1 = 0 := by simp only [ShM.why, ShM.off, hst, hal, Bool.false_and, Bool.false_eq_true, if_false]
    have hr : ((s.crash keep).disk 1).read n.toNat = (settleL (keepsOf keep 1) 0 (s.disk 1).waits (s.disk 1).sure).getD n.toNat [] := by
      simp only [DiskM.read, hws, lastOf, List.reverse_nil, List.find?_nil, Option.map_none, Option.getD_none, hd]
      rfl
    refine ⟨(settleL (keepsOf keep 1) 0 (s.disk 1).waits (s.disk 1).sure).getD n.toNat [], by simp only [ShM.readR, hh, if_true, h1, hw, hr], ?_⟩
    have hm : ∀ x ∈ may.tail.map secOf, x ∈ may.map secOf := fun x hx => by
      obtain ⟨y, hy, rfl⟩ := List.mem_map.1 hx
      exact List.mem_map_of_mem (List.mem_of_mem_tail hy)
    rcases settleL_one (keepsOf keep 1) n.toNat (s.disk 1).waits 0 (s.disk 1).sure (by rw [h.len]; omega) with hx | hx
    · rw [hx]
      rcases h.sure hn.1 hn.2 with hs | hs
      · rw [hs]
        refine .inl (List.mem_map_of_mem ?_)
        cases may with
        | nil => exact absurd rfl h.some_
        | cons x l => exact List.mem_cons_self
      · exact .inr hs
    · rw [h.waits hn.1 hn.2] at hx
      exact .inl (hm _ hx)
  · rename_i hn
    have hh : (s.crash keep).has 1 n = false := by
      simp only [ShM.has, hl, hse, decide_eq_false_iff_not]
      omega
    simp [ShM.readR, hh]
end
end Go.Proofs.Ytffdpipmfdkaoaa

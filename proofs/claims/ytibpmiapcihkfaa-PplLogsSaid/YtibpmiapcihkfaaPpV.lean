/-
  A log whose power stays: each slot has what was put last, or none. No program in sight.
-/
import Derived.Test.YtibpmiapcihkfaaPpZ
import Derived.Test.YtibpmiapcihkfaaPpL
namespace Go.Proofs.Ytibpmiapcihkfaa
set_option linter.all false
open Go.RowKit

def SlotV (V : Nat → Bytes) (k : Nat) (o : Option Rec) : Prop := match o with
  | some r => mayB r = true ∧ V (2 + 2 * k) = hdBytes r ∧ V (2 + 2 * k + 1) = r.part
  | none => V (2 + 2 * k) = zeroSec
structure LgI (s : ShM) (D : DevM) (slots : Nat) (L : Nat → Option Rec) : Prop where
  on : s.stops = false
  one : One s D
  live : ∃ V May, Lives s D V May ∧ ∀ k, k < slots → SlotV V k (L k)
section
variable {s s' : ShM} {D D' : DevM} {slots : Nat} {L : Nat → Option Rec}
theorem lgi_fresh (slots : Nat) (h8 : slots ≤ 8) : LgI (freshSh 1 40) ⟨0, 37, -1⟩ slots (fun _ => none) := by
  obtain ⟨o0, l0, t0⟩ := one_fresh
  exact ⟨t0, o0, _, _, l0, fun _ _ => rfl⟩
theorem SlotV.upd {V : Nat → Bytes} {k n : Nat} {b : Bytes} {o : Option Rec} (h : SlotV V k o) (h1 : n ≠ 2 + 2 * k) (h2 : n ≠ 2 + 2 * k + 1) : SlotV (updV V n b) k o := by
  unfold SlotV at h ⊢
  cases o with
  | none =>
    dsimp only at h ⊢
    rw [updV, if_neg (fun e => h1 e.symm)]
    exact h
  | some r =>
    dsimp only at h ⊢
    rw [updV, if_neg (fun e => h1 e.symm), updV, if_neg (fun e => h2 e.symm)]
    exact h
theorem off_on (h : s.stops = false) : s.off = false := by simp [ShM.off, h]
theorem LgI.put (h : LgI s D slots L) (h8 : slots ≤ 8) {k : Nat} (hk : k < slots) {r : Rec} (hm : mayB r = true) :
    (logPut s D slots k r).1 = 0 ∧ LgI (logPut s D slots k r).2.1 (logPut s D slots k r).2.2 slots (fun j => if j = k then some r else L j) := by
  obtain ⟨V, May, hl, hv⟩ := h.live
  have hso : slotOk slots (k : Int) = true := decide_eq_true ⟨by omega, by omega⟩
  have c2 : (2 + 2 * (k : Int) + 1) = ((2 + 2 * k + 1 : Nat) : Int) := by omega
  have c1 : (2 + 2 * (k : Int)) = ((2 + 2 * k : Nat) : Int) := by omega
  unfold logPut
  rw [if_pos hso, if_pos hm, c2, c1]
  have hsz := h.one.size
  have w1 := hl.write2 (n := 2 + 2 * k + 1) (by omega) (may_len hm)
  obtain ⟨e1, l1⟩ := w1.on h.on
  have q1 := w1.1
  clear w1
  generalize devWrite s D ((2 + 2 * k + 1 : Nat) : Int) r.part = x at *
  dsimp only
  rw [if_pos e1]
  have o1 := h.one.rest q1 l1.p.room
  have hsz1 := o1.size
  have w2 := l1.write2 (n := 2 + 2 * k) (by omega) (hdBytes_len r)
  have t1 := q1.stops.trans h.on
  obtain ⟨e2, l2⟩ := w2.on t1
  have q2 := w2.1
  clear w2
  generalize devWrite x.2.1 x.2.2 ((2 + 2 * k : Nat) : Int) (hdBytes r) = y at *
  refine ⟨e2, q2.stops.trans t1, o1.rest q2 l2.p.room, _, _, l2, fun j hj => ?_⟩
  by_cases e : j = k
  · subst e
    rw [if_pos rfl]
    exact ⟨hm, by simp [updV], by simp [updV]⟩
  · rw [if_neg e]
    exact ((hv j hj).upd (by omega) (by omega)).upd (by omega) (by omega)
theorem LgI.clear (h : LgI s D slots L) (h8 : slots ≤ 8) {k : Nat} (hk : k < slots) :
    (logClear s D slots k).1 = 0 ∧ LgI (logClear s D slots k).2.1 (logClear s D slots k).2.2 slots (fun j => if j = k then none else L j) := by
  obtain ⟨V, May, hl, hv⟩ := h.live
  have hso : slotOk slots (k : Int) = true := decide_eq_true ⟨by omega, by omega⟩
  have c1 : (2 + 2 * (k : Int)) = ((2 + 2 * k : Nat) : Int) := by omega
  unfold logClear
  rw [if_pos hso, c1]
  have hsz := h.one.size
  have w1 := hl.write2 (n := 2 + 2 * k) (by omega) zeroSec_len'
  obtain ⟨e1, l1⟩ := w1.on h.on
  have q1 := w1.1
  clear w1
  generalize devWrite s D ((2 + 2 * k : Nat) : Int) zeroSec = x at *
  refine ⟨e1, q1.stops.trans h.on, h.one.rest q1 l1.p.room, _, _, l1, fun j hj => ?_⟩
  by_cases e : j = k
  · subst e
    rw [if_pos rfl]
    show updV V (2 + 2 * j) zeroSec (2 + 2 * j) = zeroSec
    simp [updV]
  · rw [if_neg e]
    exact (hv j hj).upd (by omega) (by omega)
theorem LgI.flush (h : LgI s D slots L) : (devFlush s D).1 = 0 ∧ LgI (devFlush s D).2.1 (devFlush s D).2.2 slots L := by
  obtain ⟨V, May, hl, hv⟩ := h.live
  rcases hl.flush2 with ⟨ho, _⟩ | ⟨_, s', e, l1, _, _, q1, _⟩
  · rw [off_on h.on] at ho; cases ho
  · rw [e]
    exact ⟨rfl, q1.stops.trans h.on, h.one.rest q1 l1.p.room, _, _, l1, hv⟩
theorem LgI.tick (h : LgI s D slots L) : LgI s.tick D slots L := by
  obtain ⟨V, May, hl, hv⟩ := h.live
  exact ⟨h.on, ⟨h.one.disk, h.one.size, h.one.len, h.one.sec, h.one.room⟩, V, May, hl.tick, hv⟩
theorem LgI.get (h : LgI s D slots L) (h8 : slots ≤ 8) {k : Nat} (hk : k < slots) :
    (logGet s D slots k).1 = (L k).getD noRec ∧ (logGet s D slots k).2.1 = (if (L k).isSome then 0 else 7) ∧ LgI (logGet s D slots k).2.2 D slots L := by
  obtain ⟨V, May, hl, hv⟩ := h.live
  have hso : slotOk slots (k : Int) = true := decide_eq_true ⟨by omega, by omega⟩
  have c2 : (2 + 2 * (k : Int) + 1) = ((2 + 2 * k + 1 : Nat) : Int) := by omega
  have c1 : (2 + 2 * (k : Int)) = ((2 + 2 * k : Nat) : Int) := by omega
  have hsz := h.one.size
  have e1 := hl.read2 (n := 2 + 2 * k) (by omega)
  have e2 := hl.tick.tick.read2 (n := 2 + 2 * k + 1) (by omega)
  have o1 := off_on h.on
  have o2 : s.tick.tick.off = false := o1
  rw [o1, if_neg Bool.false_ne_true] at e1
  rw [o2, if_neg Bool.false_ne_true] at e2
  have hvk := hv k hk
  cases hL : L k with
  | none =>
    rw [hL] at hvk
    have hz : V (2 + 2 * k) = zeroSec := hvk
    have e : logGet s D slots k = (noRec, 7, s.tick.tick) := by
      unfold logGet
      rw [if_pos hso, c1, e1]
      dsimp only
      rw [if_pos rfl, if_pos hz]
    rw [e]
    exact ⟨rfl, rfl, h.tick.tick⟩
  | some r =>
    rw [hL] at hvk
    obtain ⟨hm, v1, v2⟩ := hvk
    obtain ⟨_, d2, d3⟩ := dec_hd r hm
    have e : logGet s D slots k = (r, 0, s.tick.tick.tick.tick) := by
      unfold logGet
      rw [if_pos hso, c2, c1, e1]
      dsimp only
      rw [if_pos rfl, v1, if_neg (hd_ne_zero r), e2]
      dsimp only
      rw [if_pos rfl, v2, d2, d3]
    rw [e]
    exact ⟨rfl, rfl, h.tick.tick.tick.tick⟩
theorem LgI.all (h : LgI s D slots L) (h8 : slots ≤ 8) : ∀ k, k ≤ slots → (logAll s D slots k).1 = (List.range k).filterMap L ∧ LgI (logAll s D slots k).2 D slots L
  | 0, _ => ⟨rfl, h⟩
  | k + 1, hk => by
    obtain ⟨ih1, ih2⟩ := LgI.all h h8 k (by omega)
    obtain ⟨g1, g2, g3⟩ := ih2.get h8 (k := k) (by omega)
    have e1 : (logAll s D slots (k + 1)).1 = if (logGet (logAll s D slots k).2 D slots k).2.1 = 0 then (logAll s D slots k).1 ++ [(logGet (logAll s D slots k).2 D slots k).1] else (logAll s D slots k).1 := rfl
    have e2 : (logAll s D slots (k + 1)).2 = (logGet (logAll s D slots k).2 D slots k).2.2 := rfl
    refine ⟨?_, by rw [e2]; exact g3⟩
    rw [e1, g1, g2, ih1, List.range_succ, List.filterMap_append]
    cases hLk : L k with
    | none => simp [hLk]
    | some r => simp [hLk]
theorem put_off {k : Int} {r : Rec} (h : ¬ (0 ≤ k ∧ k < slots)) : logPut s D slots k r = (1, s, D) := put_out (decide_eq_false h)
theorem clear_off {k : Int} (h : ¬ (0 ≤ k ∧ k < slots)) : logClear s D slots k = (1, s, D) := by unfold logClear; rw [if_neg (by simp [slotOk, h])]
theorem get_off {k : Int} (h : ¬ (0 ≤ k ∧ k < slots)) : logGet s D slots k = (noRec, 1, s) := by unfold logGet; rw [if_neg (by simp [slotOk, h])]
end
end Go.Proofs.Ytibpmiapcihkfaa

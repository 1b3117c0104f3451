/-
  What a law keeps beside a log: a row of records and a row of bools.
-/
import Derived.Test.YtibpmiapcihkfaaPpOp
namespace Go.Proofs.Ytibpmiapcihkfaa
set_option linter.all false
open Go.RowKit

abbrev RecX := Rec × Option Addr × Nat
def boolsH (n : Nat) (H : Nat → Option RecX) : List Value := (List.range n).map fun k => .bool (H k).isSome
/-- hb: room for n records, of which those that H says lie there; ib: n bools that tell which -/
structure TabR (w : World) (hb ib n base : Nat) (H : Nat → Option RecX) : Prop where
  row : ∃ cur, w.heap[hb]? = some (.cells cur 24 (0, 0)) ∧ cur.size = n * 3 ∧ ∀ k, k < n → ∀ x, H k = some x → ∀ j, j < 3 → cur[k * 3 + j]? = (recCells x)[j]?
  is_ : w.heap[ib]? = some (.cells (boolsH n H).toArray 4 (0, 0))
  ne : hb ≠ ib
  el : ∀ k, k < n → ∀ x, H k = some x → Rd w x.2.1 x.1.part ∧ ∀ ad, x.2.1 = some ad → 0 < x.1.part.length → ad.block < base
  low : base ≤ hb ∧ base ≤ ib
def updH (H : Nat → Option RecX) (k : Nat) (o : Option RecX) (j : Nat) : Option RecX := if j = k then o else H j
section
variable {w w' : World} {hb ib n base : Nat} {H : Nat → Option RecX}
theorem TabR.hlt (h : TabR w hb ib n base H) : hb < w.heap.size := by obtain ⟨cur, h1, _⟩ := h.row; exact lt_of_row h1
theorem TabR.ilt (h : TabR w hb ib n base H) : ib < w.heap.size := lt_of_row h.is_
theorem TabR.kept (h : TabR w hb ib n base H) (hB : Below base w w') (h1 : w'.heap[hb]? = w.heap[hb]?) (h2 : w'.heap[ib]? = w.heap[ib]?) : TabR w' hb ib n base H := by
  obtain ⟨cur, r1, r2, r3⟩ := h.row
  exact ⟨⟨cur, h1.trans r1, r2, r3⟩, h2.trans h.is_, h.ne, fun k hk x hx => ⟨rd_base (h.el k hk x hx).1 (h.el k hk x hx).2 hB, (h.el k hk x hx).2⟩, h.low⟩
theorem boolsH_len (n : Nat) (H : Nat → Option RecX) : (boolsH n H).length = n := by simp [boolsH]
theorem boolsH_get (n : Nat) (H : Nat → Option RecX) (k : Nat) (hk : k < n) : (boolsH n H)[k]? = some (.bool (H k).isSome) := by simp [boolsH, hk]
theorem TabR.isc (h : TabR w hb ib n base H) {k : Nat} (hk : k < n) : w.cell? ⟨ib, k, none⟩ = some (.bool (H k).isSome) ∧ w.frozen? ⟨ib, k, none⟩ = false := by
  refine ⟨?_, by simp [World.frozen?, h.is_]⟩
  rw [cell_of_row w ib k _ _ _ h.is_]
  simpa using boolsH_get n H k hk
theorem TabR.rec_ (h : TabR w hb ib n base H) {k : Nat} (hk : k < n) {x : RecX} (hx : H k = some x) : w.cell? ⟨hb, k * 3, none⟩ = some (.int .i64 x.1.stripe) ∧ w.cell? ⟨hb, k * 3 + 1, none⟩ = some (.int .i64 x.1.place) ∧ w.cell? ⟨hb, k * 3 + 2, none⟩ = some (.slice x.2.1 x.1.part.length x.2.2) := by
  obtain ⟨cur, r1, _, r3⟩ := h.row
  have key : ∀ j, j < 3 → w.cell? ⟨hb, k * 3 + j, none⟩ = (recCells x)[j]? := fun j hj => by rw [cell_of_row w hb _ _ _ _ r1]; exact r3 k hk x hx j hj
  exact ⟨(key 0 (by omega)).trans rfl, (key 1 (by omega)).trans rfl, (key 2 (by omega)).trans rfl⟩
theorem TabR.room (h : TabR w hb ib n base H) {i : Nat} (hi : i < n * 3) : (w.cell? ⟨hb, i, none⟩).isSome = true ∧ w.frozen? ⟨hb, i, none⟩ = false := by
  obtain ⟨cur, r1, r2, _⟩ := h.row
  rw [cell_of_row w hb i _ _ _ r1]
  refine ⟨?_, by simp [World.frozen?, r1]⟩
  rw [Array.getElem?_eq_getElem (by omega)]
  rfl
theorem boolsH_set (n : Nat) (H : Nat → Option RecX) (k : Nat) (o : Option RecX) : (boolsH n H).set k (.bool o.isSome) = boolsH n (updH H k o) := by
  apply List.ext_getElem?
  intro i
  rw [List.getElem?_set, boolsH_len]
  by_cases hi : i < n
  · by_cases e : k = i
    · subst e
      rw [if_pos rfl, if_pos hi, boolsH_get n _ k hi]
      simp [updH]
    · rw [if_neg e, boolsH_get n _ i hi, boolsH_get n _ i hi]
      simp [updH, show ¬ i = k from fun x => e x.symm]
  · have h1 : (boolsH n H)[i]? = none := List.getElem?_eq_none (by rw [boolsH_len]; omega)
    have h2 : (boolsH n (updH H k o))[i]? = none := List.getElem?_eq_none (by rw [boolsH_len]; omega)
    rw [h1, h2]
    by_cases e : k = i
    · rw [if_pos e, if_neg (by omega)]
    · rw [if_neg e]
/-- it is none -/
theorem TabR.off (h : TabR w hb ib n base H) (k : Nat) : TabR (w.setCell ⟨ib, k, none⟩ (.bool false)) hb ib n base (updH H k none) := by
  obtain ⟨cur, r1, r2, r3⟩ := h.row
  have hB : Below base w (w.setCell ⟨ib, k, none⟩ (.bool false)) := (Below.refl _ _).setCell (p := ⟨ib, k, none⟩) h.low.2 _
  refine ⟨⟨cur, (heap_setCell_other w ⟨ib, k, none⟩ hb _ h.ne).trans r1, r2, fun j hj x hx => ?_⟩, ?_, h.ne, fun j hj x hx => ?_, h.low⟩
  · unfold updH at hx
    split at hx
    · cases hx
    · exact r3 j hj x hx
  · rw [← boolsH_set]
    refine (heap_setCell_same w ib k _ _ _ h.is_).trans ?_
    simp
  · unfold updH at hx
    split at hx
    · cases hx
    · exact ⟨rd_base (h.el j hj x hx).1 (h.el j hj x hx).2 hB, (h.el j hj x hx).2⟩
/-- a record is laid in its place -/
theorem TabR.put (h : TabR w hb ib n base H) {k : Nat} (hk : k < n) (x : RecX) (hx : Rd w x.2.1 x.1.part) (hxl : ∀ ad, x.2.1 = some ad → 0 < x.1.part.length → ad.block < base) :
    TabR ((((w.setCell ⟨hb, k * 3, none⟩ (.int .i64 x.1.stripe)).setCell ⟨hb, k * 3 + 1, none⟩ (.int .i64 x.1.place)).setCell ⟨hb, k * 3 + 2, none⟩ (.slice x.2.1 x.1.part.length x.2.2)).setCell ⟨ib, k, none⟩ (.bool true)) hb ib n base (updH H k (some x)) ∧
    ∀ b, b ≠ hb → b ≠ ib → ((((w.setCell ⟨hb, k * 3, none⟩ (.int .i64 x.1.stripe)).setCell ⟨hb, k * 3 + 1, none⟩ (.int .i64 x.1.place)).setCell ⟨hb, k * 3 + 2, none⟩ (.slice x.2.1 x.1.part.length x.2.2)).setCell ⟨ib, k, none⟩ (.bool true)).heap[b]? = w.heap[b]? := by
  obtain ⟨cur, r1, r2, r3⟩ := h.row
  have a1 := heap_setCell_same w hb (k * 3) cur _ (.int .i64 x.1.stripe) r1
  have a2 := heap_setCell_same _ hb (k * 3 + 1) _ _ (.int .i64 x.1.place) a1
  have a3 := heap_setCell_same _ hb (k * 3 + 2) _ _ (.slice x.2.1 x.1.part.length x.2.2) a2
  generalize hW1 : w.setCell ⟨hb, k * 3, none⟩ (.int .i64 x.1.stripe) = W1 at *
  generalize hW2 : W1.setCell ⟨hb, k * 3 + 1, none⟩ (.int .i64 x.1.place) = W2 at *
  generalize hW3 : W2.setCell ⟨hb, k * 3 + 2, none⟩ (.slice x.2.1 x.1.part.length x.2.2) = W3 at *
  have hoth3 : ∀ b, b ≠ hb → W3.heap[b]? = w.heap[b]? := fun b hne => by
    rw [← hW3, heap_setCell_other _ ⟨hb, k * 3 + 2, none⟩ b _ hne, ← hW2, heap_setCell_other _ ⟨hb, k * 3 + 1, none⟩ b _ hne, ← hW1, heap_setCell_other _ ⟨hb, k * 3, none⟩ b _ hne]
  have hB3 : Below base w W3 := by
    rw [← hW3, ← hW2, ← hW1]
    exact (((Below.refl base w).setCell (p := ⟨hb, k * 3, none⟩) h.low.1 _).setCell (p := ⟨hb, k * 3 + 1, none⟩) h.low.1 _).setCell (p := ⟨hb, k * 3 + 2, none⟩) h.low.1 _
  have hB4 := hB3.setCell (p := ⟨ib, k, none⟩) h.low.2 (.bool true)
  refine ⟨⟨⟨_, (heap_setCell_other W3 ⟨ib, k, none⟩ hb _ h.ne).trans a3, by simpa using r2, fun j hj y hy i hi => ?_⟩, ?_, h.ne, fun j hj y hy => ?_, h.low⟩, fun b h1 h2 => (heap_setCell_other W3 ⟨ib, k, none⟩ b _ h2).trans (hoth3 b h1)⟩
  · by_cases e : j = k
    · subst e
      simp only [updH, if_true] at hy
      injection hy with hy
      subst hy
      have h3 : i = 0 ∨ i = 1 ∨ i = 2 := by omega
      have hs : j * 3 + 2 < cur.size := by omega
      rcases h3 with rfl | rfl | rfl
      · simp [Array.getElem?_setIfInBounds, recCells]; omega
      · simp [Array.getElem?_setIfInBounds, recCells]; omega
      · simp [Array.getElem?_setIfInBounds, recCells]; omega
    · unfold updH at hy
      rw [if_neg e] at hy
      rw [Array.getElem?_setIfInBounds, if_neg (by omega), Array.getElem?_setIfInBounds, if_neg (by omega), Array.getElem?_setIfInBounds, if_neg (by omega)]
      exact r3 j hj y hy i hi
  · rw [← boolsH_set]
    refine (heap_setCell_same W3 ib k _ _ _ ((hoth3 ib (fun e => h.ne e.symm)).trans h.is_)).trans ?_
    simp
  · unfold updH at hy
    split at hy
    · injection hy with hy
      subst hy
      exact ⟨rd_base hx hxl hB4, hxl⟩
    · exact ⟨rd_base (h.el j hj y hy).1 (h.el j hj y hy).2 hB4, (h.el j hj y hy).2⟩
end
end Go.Proofs.Ytibpmiapcihkfaa

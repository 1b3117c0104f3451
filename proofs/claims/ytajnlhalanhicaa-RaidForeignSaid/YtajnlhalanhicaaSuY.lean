/-
 What each block may have, as a law keeps it: rows of strings in a row.
-/
import Derived.Test.YtajnlhalanhicaaSuJ
import Derived.Test.YtajnlhalanhicaaMemT
namespace Go.Proofs.Ytajnlhalanhicaa
set_option linter.all false
set_option maxRecDepth 20000
open Go.RowKit
def updM {α : Type} (f : Nat → α) (k : Nat) (x : α) (j : Nat) : α := if j = k then x else f j
theorem updM_same {α : Type} (f : Nat → α) (k : Nat) (x : α) : updM f k x k = x := if_pos rfl
theorem updM_ne {α : Type} (f : Nat → α) {k j : Nat} (x : α) (h : j ≠ k) : updM f k x j = f j := if_neg h
structure MayAt (w : World) (base mb : Nat) (G : Nat → Nat × Nat × Nat) (N n : Nat) (L : Nat → List Bytes) : Prop where
 row : ∃ cur, w.heap[mb]? = some (.cells cur 33 (0, 0)) ∧ cur.size = N ∧ ∀ k, k < n → cur[k]? = some (.slice (some ⟨(G k).1, (G k).2.1, none⟩) (L k).length (G k).2.2)
 el : ∀ k, k < n → VlAt w 9 base (G k).1 (G k).2.1 (G k).2.2 ((L k).map strV) ∧ (G k).1 ≠ mb
 ne : ∀ j k, j < n → k < n → j ≠ k → (G j).1 ≠ (G k).1
 low : base ≤ mb
def MayB (mb : Nat) (G : Nat → Nat × Nat × Nat) (n : Nat) (b : Nat) : Prop := b = mb ∨ ∃ k, k < n ∧ b = (G k).1
section
variable {w w' : World} {base mb N n : Nat} {G : Nat → Nat × Nat × Nat} {L : Nat → List Bytes}
theorem MayAt.mblt (h : MayAt w base mb G N n L) : mb < w.heap.size := by
 obtain ⟨cur, h1, _⟩ := h.row
 exact lt_of_blk h1
theorem MayAt.lt (h : MayAt w base mb G N n L) (b : Nat) (hb : MayB mb G n b) : b < w.heap.size := by
 rcases hb with rfl | ⟨k, hk, rfl⟩
 ·exact h.mblt
 ·exact (h.el k hk).1.lt
theorem MayAt.kept (h : MayAt w base mb G N n L) (hb : ∀ b, MayB mb G n b → w'.heap[b]? = w.heap[b]?) : MayAt w' base mb G N n L := by
 obtain ⟨⟨cur, h1, h2, h3⟩, h4, h5, h6⟩ := h
 exact ⟨⟨cur, (hb mb (.inl rfl)).trans h1, h2, h3⟩, fun k hk => ⟨(h4 k hk).1.kept (hb _ (.inr ⟨k, hk, rfl⟩)), (h4 k hk).2⟩, h5, h6⟩
theorem MayAt.below (h : MayAt w base mb G N n L) (hb : Below w.heap.size w w') : MayAt w' base mb G N n L := h.kept fun b hx => hb.block b (h.lt b hx)
theorem MayAt.head (h : MayAt w base mb G N n L) {k : Nat} (hk : k < n) : w.cell? ⟨mb, k, none⟩ = some (.slice (some ⟨(G k).1, (G k).2.1, none⟩) (L k).length (G k).2.2) := by
 obtain ⟨cur, h1, h2, h3⟩ := h.row
 rw [cell_of_row w mb k _ _ _ h1]
 exact h3 k hk
theorem MayAt.room (h : MayAt w base mb G N n L) {k : Nat} (hk : k < N) : (w.cell? ⟨mb, k, none⟩).isSome = true ∧ w.frozen? ⟨mb, k, none⟩ = false := by
 obtain ⟨cur, h1, h2, h3⟩ := h.row
 rw [cell_of_row w mb k _ _ _ h1]
 refine ⟨?_, by simp [World.frozen?, h1]⟩
 rw [Array.getElem?_eq_getElem (by omega)]
 rfl
theorem MayAt.str (h : MayAt w base mb G N n L) {k : Nat} (hk : k < n) {i : Nat} (hi : i < (L k).length) : w.cell? ⟨(G k).1, (G k).2.1 + i, none⟩ = some (strV (L k)[i]) := by
 have := (h.el k hk).1.cell i (by simpa using hi)
 simpa using this
theorem MayAt.set (h : MayAt w base mb G N n L) {k n' : Nat} (hkN : k < N) (hn' : ∀ j, j < n' → j < n ∨ j = k) (hs : w.heap.size ≤ w'.heap.size) (hB : ∀ b, b < w.heap.size → (k < n → b ≠ (G k).1) → w'.heap[b]? = w.heap[b]?)
  {g' o' c' m : Nat} {l : List Bytes} (hm : l.length = m) (hV : VlAt w' 9 base g' o' c' (l.map strV)) (hg : (k < n ∧ g' = (G k).1) ∨ w.heap.size ≤ g') :
  MayAt (w'.setCell ⟨mb, k, none⟩ (.slice (some ⟨g', o', none⟩) m c')) base mb (updM G k (g', o', c')) N n' (updM L k l) := by
 subst hm
 have hmb := h.mblt
 obtain ⟨⟨cur, h1, h2, h3⟩, h4, h5, h6⟩ := h
 have hmk : ∀ j, j < n → mb ≠ (G j).1 := fun j hj e => (h4 j hj).2 e.symm
 have hg' : g' ≠ mb := by
  rcases hg with ⟨hk, rfl⟩ | hg
  ·exact (h4 k hk).2
  ·omega
 have r1 : w'.heap[mb]? = some (.cells cur 33 (0, 0)) := (hB mb hmb (fun hk => hmk k hk)).trans h1
 have hoth : ∀ b, b ≠ mb → (w'.setCell ⟨mb, k, none⟩ (.slice (some ⟨g', o', none⟩) l.length c')).heap[b]? = w'.heap[b]? := fun b hb => heap_setCell_other w' ⟨mb, k, none⟩ b _ hb
 refine ⟨⟨cur.setIfInBounds k (.slice (some ⟨g', o', none⟩) l.length c'), heap_setCell_same w' mb k cur _ _ r1, by simpa using h2, fun j hj => ?_⟩, fun j hj => ?_, fun i j hi hj hij => ?_, h6⟩
 ·rw [Array.getElem?_setIfInBounds]
  by_cases e : j = k
  ·subst e
   rw [if_pos rfl, if_pos (by omega), updM_same, updM_same]
  ·rw [if_neg (fun x => e x.symm), updM_ne _ _ e, updM_ne _ _ e]
   exact h3 j ((hn' j hj).resolve_right e)
 ·by_cases e : j = k
  ·subst e
   rw [updM_same, updM_same]
   exact ⟨hV.kept (hoth g' hg'), hg'⟩
  ·have hjn := (hn' j hj).resolve_right e
   rw [updM_ne _ _ e, updM_ne _ _ e]
   refine ⟨(h4 j hjn).1.kept ?_, (h4 j hjn).2⟩
   rw [hoth _ (h4 j hjn).2]
   exact hB _ (h4 j hjn).1.lt fun hk => h5 j k hjn hk e
 ·have key : ∀ j, j < n' → j ≠ k → (G j).1 ≠ g' := fun j hj e => by
   have hjn := (hn' j hj).resolve_right e
   rcases hg with ⟨hk, rfl⟩ | hg
   ·exact h5 j k hjn hk e
   ·have := (h4 j hjn).1.lt
    omega
  by_cases e1 : i = k
  ·subst e1
   rw [updM_same, updM_ne _ _ (fun x => hij x.symm)]
   exact fun x => key j hj (fun x => hij x.symm) x.symm
  ·by_cases e2 : j = k
   ·subst e2
    rw [updM_same, updM_ne _ _ e1]
    exact key i hi e1
   ·rw [updM_ne _ _ e1, updM_ne _ _ e2]
    exact h5 i j ((hn' i hi).resolve_right e1) ((hn' j hj).resolve_right e2) hij
end
end Go.Proofs.Ytajnlhalanhicaa

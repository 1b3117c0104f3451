/-
  THE WALK over a log's All.
-/
import Derived.Test.YtajnlhalanhicaaPpH
import Derived.Test.YtajnlhalanhicaaSuY
namespace Go.Proofs.Ytajnlhalanhicaa
set_option linter.all false
set_option maxRecDepth 20000
open Go.RowKit

def recCells (x : Rec × Option Addr × Nat) : List Value := [.int .i64 x.1.stripe, .int .i64 x.1.place, .slice x.2.1 x.1.part.length x.2.2]
theorem recCells_len (xs : List (Rec × Option Addr × Nat)) : (xs.flatMap recCells).length = xs.length * 3 := by
  induction xs with
  | nil => rfl
  | cons x xs ih => simp [ih, recCells]; omega
theorem recCells_one (x : Rec × Option Addr × Nat) : ∀ u ∈ recCells x, u.oneCell' = true := by
  intro u hu
  simp only [recCells, List.mem_cons, List.not_mem_nil, or_false] at hu
  rcases hu with rfl | rfl | rfl <;> rfl
/-- a row of records; all of it lies in Z -/
structure RecsAt (w : World) (base : Nat) (Z : Nat → Prop) (v : Value) (xs : List (Rec × Option Addr × Nat)) : Prop where
  row : w.ownsRow base 150 3 v xs.length (xs.flatMap recCells)
  own : ∀ b, v.ownBlock = some b → Z b
  el : ∀ x ∈ xs, Rd w x.2.1 x.1.part ∧ ∀ ad, x.2.1 = some ad → Z ad.block ∧ v.ownBlock ≠ some ad.block
theorem ownsRow_blk {w w' : World} {base e size n : Nat} {v : Value} {vs : List Value} (h : w.ownsRow base e size v n vs) (hb : ∀ b, v.ownBlock = some b → w'.heap[b]? = w.heap[b]?) : w'.ownsRow base e size v n vs := by
  refine ⟨h.1, ?_⟩
  rcases h.2 with h0 | ⟨g, cap, cur, hv, hbg, hg, r⟩
  · exact .inl h0
  · refine .inr ⟨g, cap, cur, hv, hbg, (hb g ?_).trans hg, r⟩
    subst hv
    simp [Value.ownBlock]
theorem Rd.blkZ {w w' : World} {A : Option Addr} {bs : List UInt8} (h : Rd w A bs) (hb : ∀ ad, A = some ad → w'.heap[ad.block]? = w.heap[ad.block]?) : Rd w' A bs :=
  ⟨h.1, h.2.1, fun ad e i hi => (World.cell?_of_block (by rw [add_block]; exact hb ad e)).trans (h.2.2 ad e i hi)⟩
theorem RecsAt.kept {w w' : World} {base : Nat} {Z : Nat → Prop} {v : Value} {xs : List (Rec × Option Addr × Nat)} (h : RecsAt w base Z v xs) (hb : ∀ b, Z b → w'.heap[b]? = w.heap[b]?) : RecsAt w' base Z v xs :=
  ⟨ownsRow_blk h.row fun b e => hb b (h.own b e), h.own, fun x hx => ⟨(h.el x hx).1.blkZ fun ad e => hb _ ((h.el x hx).2 ad e).1, (h.el x hx).2⟩⟩
theorem RecsAt.more {w : World} {base : Nat} {Z Z' : Nat → Prop} {v : Value} {xs : List (Rec × Option Addr × Nat)} (h : RecsAt w base Z v xs) (hZ : ∀ b, Z b → Z' b) : RecsAt w base Z' v xs :=
  ⟨h.row, fun b e => hZ b (h.own b e), fun x hx => ⟨(h.el x hx).1, fun ad e => ⟨hZ _ ((h.el x hx).2 ad e).1, ((h.el x hx).2 ad e).2⟩⟩⟩
theorem ownsRow_lt {w : World} {base e size n : Nat} {v : Value} {vs : List Value} (h : w.ownsRow base e size v n vs) : ∀ b, v.ownBlock = some b → base ≤ b ∧ b < w.heap.size := fun b hb => World.ownsRow.lt h b hb
theorem Try.infoRec : (Try.prog.info? 150).map (fun i => (i.zero, i.size, i.bytes)) = some (some (.agg #[.int .i64 0, .int .i64 0, .slice none 0 0]), 3, 40) := by kernel_rfl
/-- a record is put behind the others -/
theorem recs_append {w1 W2 w5 : World} {base g a : Nat} {X Z : Nat → Prop} {v v' : Value} {xs : List (Rec × Option Addr × Nat)} {x : Rec × Option Addr × Nat} {s : ShM} {D : DevM}
    (hR : RecsAt w1 base Z v xs) (hD : DvX (fun b => (X b ∨ Z b) ∨ ∃ ad, x.2.1 = some ad ∧ ad.block = b) a g w1 s D) (hx : Rd w1 x.2.1 x.1.part) (hxn : ∀ ad, x.2.1 = some ad → v.ownBlock ≠ some ad.block) (hxl : ∀ b, X b → b < base)
    (hb12 : Below w1.heap.size w1 W2) (hrow : w5.ownsRow base 150 3 v' (xs.length + 1) (xs.flatMap recCells ++ recCells x)) (hg : W2.grownBy w5 v.ownBlock) (hw : v'.ownBlock = v.ownBlock ∨ v'.ownBlock = some W2.heap.size) :
    RecsAt w5 base (fun b => Z b ∨ (∃ ad, x.2.1 = some ad ∧ ad.block = b) ∨ v'.ownBlock = some b) v' (xs ++ [x]) ∧
    DvX (fun b => X b ∨ Z b ∨ (∃ ad, x.2.1 = some ad ∧ ad.block = b) ∨ v'.ownBlock = some b) a g w5 s D ∧ Kept X w1 w5 := by
  have hvo := ownsRow_lt hR.row
  have hsz := hb12.size
  have hsame : ∀ b, b < w1.heap.size → v.ownBlock ≠ some b → w5.heap[b]? = w1.heap[b]? := fun b hb hne => (hg.block b (by omega) (fun e => hne e.symm)).trans (hb12.block b hb)
  have hlast : ∀ b, (X b ∨ Z b) ∨ (∃ ad, x.2.1 = some ad ∧ ad.block = b) → b < w1.heap.size := hD.lt
  refine ⟨⟨?_, fun b e => .inr (.inr e), fun y hy => ?_⟩, ?_, ?_⟩
  · rw [List.length_append, List.flatMap_append]
    simpa using hrow
  · have key : ∀ ad, y.2.1 = some ad → (Rd w1 y.2.1 y.1.part ∧ ad.block < w1.heap.size ∧ v.ownBlock ≠ some ad.block ∧ (Z ad.block ∨ ∃ ad', x.2.1 = some ad' ∧ ad'.block = ad.block)) ∧ Rd w1 y.2.1 y.1.part := by
      intro ad e
      rcases List.mem_append.1 hy with hy | hy
      · obtain ⟨h1, h2⟩ := hR.el y hy
        exact ⟨⟨h1, hlast _ (.inl (.inr (h2 ad e).1)), (h2 ad e).2, .inl (h2 ad e).1⟩, h1⟩
      · simp only [List.mem_singleton] at hy
        subst hy
        exact ⟨⟨hx, hlast _ (.inr ⟨ad, e, rfl⟩), hxn ad e, .inr ⟨ad, e, rfl⟩⟩, hx⟩
    have hrd : Rd w1 y.2.1 y.1.part := by
      rcases List.mem_append.1 hy with hy | hy
      · exact (hR.el y hy).1
      · simp only [List.mem_singleton] at hy
        subst hy
        exact hx
    refine ⟨hrd.blkZ fun ad e => hsame _ (key ad e).1.2.1 (key ad e).1.2.2.1, fun ad e => ⟨?_, ?_⟩⟩
    · rcases (key ad e).1.2.2.2 with h | h
      · exact .inl h
      · exact .inr (.inl h)
    · rcases hw with hw | hw
      · rw [hw]; exact (key ad e).1.2.2.1
      · rw [hw]
        intro h
        injection h with h
        have := (key ad e).1.2.1
        omega
  · refine hD.turn (Nat.le_trans hsz hg.size) (fun b hb hnx => hsame b hb fun e => hnx (.inl (.inr (hR.own b e)))) fun b hb => ?_
    have hs5 := hg.size
    rcases hb with hb | hb | hb | hb
    · exact ⟨Nat.lt_of_lt_of_le (hlast b (.inl (.inl hb))) (Nat.le_trans hsz hs5), .inl (.inl (.inl hb))⟩
    · exact ⟨Nat.lt_of_lt_of_le (hlast b (.inl (.inr hb))) (Nat.le_trans hsz hs5), .inl (.inl (.inr hb))⟩
    · exact ⟨Nat.lt_of_lt_of_le (hlast b (.inr hb)) (Nat.le_trans hsz hs5), .inl (.inr hb)⟩
    · refine ⟨(ownsRow_lt hrow b hb).2, ?_⟩
      rcases hw with hw | hw
      · exact .inl (.inl (.inr (hR.own b (hw ▸ hb))))
      · rw [hw] at hb
        injection hb with hb
        exact .inr (by omega)
  · refine ⟨hg.os.trans hb12.os, hg.tape.trans hb12.tape, hg.output.trans hb12.output, Nat.le_trans hsz hg.size, fun b hb => ?_⟩
    exact hsame b (hlast b (.inl (.inl hb))) fun e => by
      have h1 := (hvo b e).1
      have h2 := hxl b hb
      omega
def AllPost (X : Nat → Prop) (a g : Nat) (w : World) (D : DevM) (r : List Rec × ShM) (e : Ending) (w' : World) : Prop :=
  ∃ A c xs Z, e = .returned (.slice A r.1.length c) ∧ xs.map (·.1) = r.1 ∧ RecsAt w' w.heap.size Z (.slice A r.1.length c) xs ∧ DvX (fun b => X b ∨ Z b) a g w' r.2 D ∧ Kept X w w'
theorem room_lget {s : ShM} {N : Nat} (h : Room N s) (D : DevM) (slots : Nat) (slot : Int) : Room N (logGet s D slots slot).2.2 := by
  have h1 := room_dread h D (2 + 2 * slot)
  have h2 := room_dread h1 D (2 + 2 * slot + 1)
  by_cases k0 : slotOk slots slot = true
  · by_cases k1 : (devRead s D (2 + 2 * slot)).2.1 = 0
    · by_cases k2 : (devRead s D (2 + 2 * slot)).1 = zeroSec
      · rw [show logGet s D slots slot = (noRec, 7, (devRead s D (2 + 2 * slot)).2.2) from by simp only [logGet, k0, k1, k2, if_true]]
        exact h1
      · by_cases k3 : (devRead (devRead s D (2 + 2 * slot)).2.2 D (2 + 2 * slot + 1)).2.1 = 0
        · rw [show (logGet s D slots slot).2.2 = (devRead (devRead s D (2 + 2 * slot)).2.2 D (2 + 2 * slot + 1)).2.2 from by simp only [logGet, k0, k1, k2, k3, if_true, if_false]]
          exact h2
        · rw [show (logGet s D slots slot).2.2 = (devRead (devRead s D (2 + 2 * slot)).2.2 D (2 + 2 * slot + 1)).2.2 from by simp only [logGet, k0, k1, k2, k3, if_true, if_false]]
          exact h2
    · rw [show (logGet s D slots slot).2.2 = (devRead s D (2 + 2 * slot)).2.2 from by simp only [logGet, k0, k1, if_true, if_false]]
      exact h1
  · rw [show (logGet s D slots slot).2.2 = s from by simp only [logGet, k0, if_false, Bool.false_eq_true]]
    exact h
theorem logAll_room {s : ShM} {N : Nat} (h : Room N s) (D : DevM) (slots : Nat) : ∀ k, Room N (logAll s D slots k).2
  | 0 => h
  | k + 1 => room_lget (logAll_room h D slots k) D slots k
end Go.Proofs.Ytajnlhalanhicaa

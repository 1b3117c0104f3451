/-
 THE WALK over a log's All.
-/
import Derived.Test.YtajnlhalanhicaaPpK
import Derived.Test.YtajnlhalanhicaaSuY
namespace Go.Proofs.Ytajnlhalanhicaa
set_option linter.all false
set_option maxRecDepth 20000
open Go.RowKit
def recCells (x : Rec × Option Addr × Nat) : List Value := [.int .i64 x.1.stripe, .int .i64 x.1.place, .slice x.2.1 x.1.part.length x.2.2]
structure RecsAt (w : World) (base : Nat) (Z : Nat → Prop) (v : Value) (xs : List (Rec × Option Addr × Nat)) : Prop where
 row : w.ownsRow base 150 3 v xs.length (xs.flatMap recCells)
 own : ∀ b, v.ownBlock = some b → Z b
 el : ∀ x ∈ xs, Rd w x.2.1 x.1.part ∧ ∀ ad, x.2.1 = some ad → Z ad.block ∧ v.ownBlock ≠ some ad.block
theorem ownsRow_blk {w w' : World} {base e size n : Nat} {v : Value} {vs : List Value} (h : w.ownsRow base e size v n vs) (hb : ∀ b, v.ownBlock = some b → w'.heap[b]? = w.heap[b]?) : w'.ownsRow base e size v n vs := by
 refine ⟨h.1, ?_⟩
 rcases h.2 with h0 | ⟨g, cap, cur, hv, hbg, hg, r⟩
 ·exact .inl h0
 ·refine .inr ⟨g, cap, cur, hv, hbg, (hb g ?_).trans hg, r⟩
  subst hv
  simp [Value.ownBlock]
theorem Rd.blkZ {w w' : World} {A : Option Addr} {bs : List UInt8} (h : Rd w A bs) (hb : ∀ ad, A = some ad → w'.heap[ad.block]? = w.heap[ad.block]?) : Rd w' A bs :=
 ⟨h.1, h.2.1, fun ad e i hi => (World.cell?_of_block (by rw [add_block]; exact hb ad e)).trans (h.2.2 ad e i hi)⟩
theorem RecsAt.kept {w w' : World} {base : Nat} {Z : Nat → Prop} {v : Value} {xs : List (Rec × Option Addr × Nat)} (h : RecsAt w base Z v xs) (hb : ∀ b, Z b → w'.heap[b]? = w.heap[b]?) : RecsAt w' base Z v xs :=
 ⟨ownsRow_blk h.row fun b e => hb b (h.own b e), h.own, fun x hx => ⟨(h.el x hx).1.blkZ fun ad e => hb _ ((h.el x hx).2 ad e).1, (h.el x hx).2⟩⟩
theorem RecsAt.more {w : World} {base : Nat} {Z Z' : Nat → Prop} {v : Value} {xs : List (Rec × Option Addr × Nat)} (h : RecsAt w base Z v xs) (hZ : ∀ b, Z b → Z' b) : RecsAt w base Z' v xs :=
 ⟨h.row, fun b e => hZ b (h.own b e), fun x hx => ⟨(h.el x hx).1, fun ad e => ⟨hZ _ ((h.el x hx).2 ad e).1, ((h.el x hx).2 ad e).2⟩⟩⟩
theorem ownsRow_lt {w : World} {base e size n : Nat} {v : Value} {vs : List Value} (h : w.ownsRow base e size v n vs) : ∀ b, v.ownBlock = some b → base ≤ b ∧ b < w.heap.size := fun b hb => World.ownsRow.lt h b hb
theorem room_lget {s : ShM} {N : Nat} (h : Room N s) (D : DevM) (slots : Nat) (slot : Int) : Room N (logGet s D slots slot).2.2 := by
 have h1 := room_dread h D (2 + 2 * slot)
 have h2 := room_dread h1 D (2 + 2 * slot + 1)
 by_cases k0 : slotOk slots slot = true
 ·by_cases k1 : (devRead s D (2 + 2 * slot)).2.1 = 0
  ·by_cases k2 : (devRead s D (2 + 2 * slot)).1 = zeroSec
   ·rw [show logGet s D slots slot = (noRec, 7, (devRead s D (2 + 2 * slot)).2.2) from by simp only [logGet, k0, k1, k2, if_true]]
    exact h1
   ·by_cases k3 : (devRead (devRead s D (2 + 2 * slot)).2.2 D (2 + 2 * slot + 1)).2.1 = 0
    ·rw [show (logGet s D slots slot).2.2 = (devRead (devRead s D (2 + 2 * slot)).2.2 D (2 + 2 * slot + 1)).2.2 from by simp only [logGet, k0, k1, k2, k3, if_true, if_false]]
     exact h2
    ·rw [show (logGet s D slots slot).2.2 = (devRead (devRead s D (2 + 2 * slot)).2.2 D (2 + 2 * slot + 1)).2.2 from by simp only [logGet, k0, k1, k2, k3, if_true, if_false]]
     exact h2
  ·rw [show (logGet s D slots slot).2.2 = (devRead s D (2 + 2 * slot)).2.2 from by simp only [logGet, k0, k1, if_true, if_false]]
   exact h1
 ·rw [show (logGet s D slots slot).2.2 = s from by simp only [logGet, k0, if_false, Bool.false_eq_true]]
  exact h
end Go.Proofs.Ytajnlhalanhicaa

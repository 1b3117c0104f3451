/-
 THE WALK over a log's All.
-/
import Derived.Test.YtajnlhalanhicaaGreatPpK
import Derived.Test.YtajnlhalanhicaaGreatSuY
namespace Go.Proofs.YtajnlhalanhicaaGreat
set_option linter.all false
set_option maxRecDepth 20000
open Go.RowKit
theorem ownsRow_blk {w w' : World} {base e size n : Nat} {v : Value} {vs : List Value} (h : w.ownsRow base e size v n vs) (hb : ∀ b, v.ownBlock = some b → w'.heap[b]? = w.heap[b]?) : w'.ownsRow base e size v n vs := by
 refine ⟨h.1, ?_⟩
 rcases h.2 with h0 | ⟨g, cap, cur, hv, hbg, hg, r⟩
 ·exact .inl h0
 ·refine .inr ⟨g, cap, cur, hv, hbg, (hb g ?_).trans hg, r⟩
  subst hv
  simp [Value.ownBlock]
theorem ownsRow_lt {w : World} {base e size n : Nat} {v : Value} {vs : List Value} (h : w.ownsRow base e size v n vs) : ∀ b, v.ownBlock = some b → base ≤ b ∧ b < w.heap.size := fun b hb => World.ownsRow.lt h b hb
theorem room_lget {s : ShM} {N : Nat} (h : Room N s) (D : DevM) (slots : Nat) (slot : Int) : Room N (logGet s D slots slot).2.2 := by
 have h1 := room_dread h D (2 + 2 * slot)
 have h2 := room_dread h1 D (2 + 2 * slot + 1)
 by_cases k0 : slotOk slots slot = true
 ·by_cases k1 : (devRead s D (2 + 2 * slot)).2.1 = 0
  ·by_cases k2 : (devRead s D (2 + 2 * slot)).1 = zeroSec
   ·rw [show logGet s D slots slot = (noRec, 7, (devRead s D (2 + 2 * slot)).2.2) from by simp only [logGet, k0, k1, k2, if_true]]
    exact h1
   ·by_cases k3 : (devRead (devRead s D (2 + 2 * slot)).2.2 D (2 + 2 * slot + 1)).2.1 = 0
    ·rw [show (logGet s D slots slot).2.2 = (devRead (devRead s D (2 + 2 * slot)).2.2 D (2 + 2 * slot + 1)).2.2 from by simp only [logGet, k0, k1, k2, k3, if_true, if_false]]
     exact h2
    ·rw [show (logGet s D slots slot).2.2 = (devRead (devRead s D (2 + 2 * slot)).2.2 D (2 + 2 * slot + 1)).2.2 from by simp only [logGet, k0, k1, k2, k3, if_true, if_false]]
     exact h2
  ·rw [show (logGet s D slots slot).2.2 = (devRead s D (2 + 2 * slot)).2.2 from by simp only [logGet, k0, k1, if_true, if_false]]
   exact h1
 ·rw [show (logGet s D slots slot).2.2 = s from by simp only [logGet, k0, if_false, Bool.false_eq_true]]
  exact h
end Go.Proofs.YtajnlhalanhicaaGreat

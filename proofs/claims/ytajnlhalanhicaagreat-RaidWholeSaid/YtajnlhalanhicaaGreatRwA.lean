/-
 A volume that lives, of which no disk is dead and of which the power is on: each stripe goes with its parity. No program in sight.
-/
import Derived.Test.YtajnlhalanhicaaGreatRp
namespace Go.Proofs.YtajnlhalanhicaaGreat
set_option linter.all false
set_option maxRecDepth 20000
open Go.RowKit
section
variable {s s' : ShM} {V : VolM} {May : Nat → Bytes → Prop} {L : Nat → List Bytes} {N : Nat} {q : Nat × Nat} {U D : Nat → Nat → Bytes} {M : Nat → Nat → Bytes → Prop} {B : Nat → Nat} {O : Nat → Bytes}
theorem LiveV.whole (h : LiveV s V U M D B O May) (ho : s.off = false) (hal : ∀ i, (s.disk i).dead = false) {st : Nat} (hst : st < V.stripes) : ∃ s', volWhole s V (st : Int) = (true, 0, s') ∧ Ticked s s' := by
 have hm3 := h.cv.m3
 have hlen := h.cv.len
 have hin : ∀ j ∈ memL V.m st, j < V.devs.length ∧ V.base + st < (V.dev j).size := fun j hj => by
  have hj := memL_below hj
  have := h.cv.room j (by omega)
  exact ⟨by omega, by omega⟩
 obtain ⟨e1, e2, e3⟩ := tog_on (M := M) (U := U) h.cfg.sp st (memL V.m st) s zeroSec h.arr ho hin fun j _ => hal j
 have hz : xorF (fun j => U j (V.base + st)) (memL V.m st) zeroSec = zeroSec := by
  rw [xorF_congr (g := fun j => D j st) _ (fun k hk => h.same st hst k (memL_below hk) (hal k))]
  exact h.stripes.zero st hst
 have hs : (st : Int) < V.sup.stripes := by
  have : V.stripes = V.sup.stripes.toNat := rfl
  omega
 unfold volWhole volTog
 rw [if_pos ⟨by omega, hs⟩, Int.toNat_natCast]
 dsimp only
 rw [e1, hz, e2, if_neg (by omega)]
 exact ⟨_, by simp, e3⟩
theorem RigOk.whole (h : RigOk s V N L false q) (ho : s.off = false) {st : Nat} (hst : st < V.stripes) : ∃ s', volWhole s V (st : Int) = (true, 0, s') ∧ Ticked s s' := by
 rcases h.st with ⟨U, M, D, B, O, hl, _⟩ | hd
 ·exact hl.whole ho (h.alive rfl) hst
 ·rw [hd.off] at ho; cases ho
end
end Go.Proofs.YtajnlhalanhicaaGreat

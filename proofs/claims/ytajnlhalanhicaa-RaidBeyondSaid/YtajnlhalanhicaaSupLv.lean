/-
 THE WALK of lives of layer 4.
-/
import Derived.Test.YtajnlhalanhicaaSupN
import Derived.Test.YtajnlhalanhicaaSupE
import Derived.Test.YtajnlhalanhicaaBase
namespace Go.Proofs.Ytajnlhalanhicaa
set_option linter.all false
set_option maxRecDepth 20000
open Go.RowKit
theorem Rd.take {w : World} {A : Option Addr} {bs : List UInt8} (h : Rd w A bs) (n : Nat) : Rd w A (bs.take n) :=
 ⟨by have := h.1; simp; omega, (fun e => by rw [h.2.1 e]; simp), fun a e i hi => by
  have := h.2.2 a e i (by simp at hi; omega)
  rw [this]
  simp⟩
end Go.Proofs.Ytajnlhalanhicaa

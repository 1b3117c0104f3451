/-
  THE WALK of lives of layer 4.
-/
import Derived.Test.YtajnlhalanhicaaSupN
import Derived.Test.YtajnlhalanhicaaSupE
import Derived.Test.YtajnlhalanhicaaBase
namespace Go.Proofs.Ytajnlhalanhicaa
set_option linter.all false
set_option maxRecDepth 20000
open Go.RowKit

def livS : Sup := ⟨1, 3, 0, 1, 1, -1, 0, 0⟩
set_option maxRecDepth 100000 in
theorem liv_str : (supBytes livS).take 20 = [65, 83, 72, 76, 1, 0, 0, 0, 0, 0, 0, 0, 3, 0, 1, 255, 1, 0, 0, 0] := by
  rw [supBytes, List.take_append_of_le_length (by rw [bodyL_len]; omega), bodyL, padL, List.take_append_of_le_length (by rw [preL_len8]; omega)]
  rfl
theorem Rd.take {w : World} {A : Option Addr} {bs : List UInt8} (h : Rd w A bs) (n : Nat) : Rd w A (bs.take n) :=
  ⟨by have := h.1; simp; omega, (fun e => by rw [h.2.1 e]; simp), fun a e i hi => by
    have := h.2.2 a e i (by simp at hi; omega)
    rw [this]
    simp⟩

end Go.Proofs.Ytajnlhalanhicaa

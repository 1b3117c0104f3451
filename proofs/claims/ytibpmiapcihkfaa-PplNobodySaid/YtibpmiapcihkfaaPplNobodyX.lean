/-
  THE WALK of PplNobody.
-/
import Derived.Test.YtibpmiapcihkfaaPpQ
namespace Go.Proofs.Ytibpmiapcihkfaa
set_option linter.all false
open Go.RowKit

theorem blocksI_nat1 (k : Nat) (hk : k < 40) : 0 ≤ blocksI ((k : Int) + 1) ∧ blocksI ((k : Int) + 1) ≤ 40 := by
  unfold blocksI
  rw [if_neg (by omega)]
  omega
end Go.Proofs.Ytibpmiapcihkfaa

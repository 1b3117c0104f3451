/-
  THE WALK of super.layout: where the fields stand.
-/
import Derived.Test.YtajnlhalanhicaaSupA
import Derived.Handy
namespace Go.Proofs.Ytajnlhalanhicaa
set_option linter.all false
set_option maxRecDepth 20000
open Go.RowKit

def layR : Array Value := #[.int .i64 4, .int .i64 8, .int .i64 12, .int .i64 1, .int .i64 13, .int .i64 1, .int .i64 14, .int .i64 1, .int .i64 15, .int .i64 1, .int .i64 16, .int .i64 4, .int .i64 20, .int .i64 4, .int .i64 24, .int .i64 4]

set_option maxHeartbeats 1000000 in
theorem layout_any (w : World) : Calls Try.prog 48 #[] w fun e w' => e = .returned (.agg layR) ∧ Below w.heap.size w w' := by
  go_enter Try.func48, Try.ntmps48
  go_wp2
  go_returns
  exact ⟨rfl, (Below.refl _ _).alloc (Nat.le_refl _) _⟩

end Go.Proofs.Ytajnlhalanhicaa

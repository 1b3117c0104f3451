/-
  THE WALK of super.layout: where the fields stand.
-/
import Derived.Test.YtibpmiapcihkfaaSupA
import Derived.Handy
namespace Go.Proofs.Ytibpmiapcihkfaa
set_option linter.all false
open Go.RowKit

def layR : Array Value := #[.int .i64 4, .int .i64 8, .int .i64 12, .int .i64 1, .int .i64 13, .int .i64 1, .int .i64 14, .int .i64 1, .int .i64 15, .int .i64 1, .int .i64 16, .int .i64 4, .int .i64 20, .int .i64 4, .int .i64 24, .int .i64 4]

end Go.Proofs.Ytibpmiapcihkfaa

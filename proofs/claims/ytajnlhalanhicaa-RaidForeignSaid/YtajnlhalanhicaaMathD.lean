/-
 Bytes in the middle of others; numbers of the same bytes. No program in sight.
-/
import Derived.Test.YtajnlhalanhicaaBase
namespace Go.Proofs.Ytajnlhalanhicaa
set_option linter.all false
set_option maxRecDepth 20000
theorem drop_take_mid (xs ms ys : List UInt8) : ((xs ++ (ms ++ ys)).drop xs.length).take ms.length = ms := by
 rw [List.drop_left, List.take_left]
end Go.Proofs.Ytajnlhalanhicaa

/-
  Small words for the laws of ppl: a box, a copy of bytes.
-/
import Derived.Test.YtibpmiapcihkfaaPpO
import Derived.Test.YtibpmiapcihkfaaPpP
namespace Go.Proofs.Ytibpmiapcihkfaa
set_option linter.all false
open Go.RowKit

theorem made_empty (w : World) : Own (w.alloc (.cells #[] 5)) 5 w.heap.size (.slice (some ⟨w.heap.size, 0, none⟩) 0 0) [] := Own.none_ w _
/-- bytes are copied: append([]byte{}, ..) -/
theorem copy_grow {w w' : World} {v : Value} {bs : List UInt8} (hg : (w.alloc (.cells #[] 5)).grownBy w' (Value.slice (some ⟨w.heap.size, 0, none⟩) 0 0).ownBlock) : Below w.heap.size w w' :=
  (below_made' w _).trans ((made_empty w).grow hg (by simp))
theorem sameB_self (r : Rec) : sameB r r = true := by simp [sameB]
end Go.Proofs.Ytibpmiapcihkfaa

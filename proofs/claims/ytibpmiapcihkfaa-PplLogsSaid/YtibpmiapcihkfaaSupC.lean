/-
  THE WALK of super.Encode.
-/
import Derived.Test.YtibpmiapcihkfaaSupB
namespace Go.Proofs.Ytibpmiapcihkfaa
set_option linter.all false
open Go.RowKit

def supE (s : Sup) : Int := if rightB s then 0 else 1
def supL (s : Sup) : List UInt8 := if rightB s then supBytes s else []
def EncPost (w : World) (s : Sup) (e : Ending) (w' : World) : Prop :=
  ∃ A c, e = .returned (.tuple #[.slice A (supL s).length c, .int .i64 (supE s)]) ∧ Own w' 5 w.heap.size (.slice A (supL s).length c) (supL s) ∧ Below w.heap.size w w'

def supR (s : Sup) : Array Value := #[.int .i64 s.gen, .int .i64 s.members, .int .i64 s.disk, .int .i64 s.stripes, .int .i64 s.logs, .int .i64 s.spare, .int .i64 s.mark, .int .i64 s.cursor]
theorem lt_of_row {w : World} {g : Nat} {o : Obj} (h : w.heap[g]? = some o) : g < w.heap.size := by
  rcases Nat.lt_or_ge g w.heap.size with hlt | hge
  · exact hlt
  · rw [Array.getElem?_eq_none hge] at h; cases h
theorem heap_alloc_old' (w : World) (o : Obj) (i : Nat) (h : i < w.heap.size) : (w.alloc o).heap[i]? = w.heap[i]? := ((Below.refl _ _).alloc (Nat.le_refl _) o).block i h
theorem below_made' (w : World) (o : Obj) : Below w.heap.size w (w.alloc o) := (Below.refl _ _).alloc (Nat.le_refl _) _
theorem hrow_keep {w w' : World} {g : Nat} {o : Obj} (h : w.heap[g]? = some o) (hb : Below w.heap.size w w') : w'.heap[g]? = some o := (hb.block g (lt_of_row h)).trans h

end Go.Proofs.Ytibpmiapcihkfaa

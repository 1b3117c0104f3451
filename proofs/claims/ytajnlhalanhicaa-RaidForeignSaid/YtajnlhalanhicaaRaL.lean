/-
 Where a volume's blocks lie, as plain numbers. No program in sight.
-/
import Derived.Test.YtajnlhalanhicaaBase
namespace Go.Proofs.Ytajnlhalanhicaa
set_option linter.all false
set_option maxRecDepth 20000
def parN (m st : Nat) : Nat := m - 1 - st % m
def memL (m st : Nat) : List Nat := (List.range m).map fun k => (parN m st + 1 + k) % m
structure SpotM where
 stripe : Nat
 member : Nat
 place : Nat
def spotN (m block : Nat) : SpotM := ⟨block / (m - 1), (parN m (block / (m - 1)) + 1 + block % (m - 1)) % m, block % (m - 1)⟩
theorem parN_lt {m st : Nat} (h : 0 < m) : parN m st < m := by unfold parN; omega
end Go.Proofs.Ytajnlhalanhicaa

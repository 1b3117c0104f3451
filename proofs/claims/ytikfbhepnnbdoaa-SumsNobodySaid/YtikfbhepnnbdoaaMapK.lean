/-
  The maps of this program that are keyed by pairs of numbers.
-/
import Derived.Test.YtikfbhepnnbdoaaProg
import Derived.Test.YtikfbhepnnbdoaaMapW
namespace Go.Proofs.Ytikfbhepnnbdoaa
set_option linter.all false
open Go.RowKit Go.Maps Go.MapKept Go.WideMaps

theorem Try.arrKey : ArrKey Try.prog 60 3 2 := ⟨Try.underlying60, by kernel_rfl, by kernel_rfl, by kernel_rfl⟩
theorem Try.someTypes : ∃ m, Try.prog.types.size = m + 1 := by
  have h : decide (Try.prog.types.size ≠ 0) = true := by kernel_rfl
  exact Nat.exists_eq_succ_of_ne_zero (of_decide_eq_true h)
theorem wf_small {x : Nat} (h : smallN x) : (Lit.int .i64 (x : Int)).wf = true := by
  unfold smallN at h
  simp only [Lit.wf, IntKind.min, IntKind.max, IntKind.signed, IntKind.bits, Bool.and_eq_true, decide_eq_true_eq, if_true]
  constructor <;> omega
theorem Try.pairMap : PairMap Try.prog 66 60 3 where
  keyed := Keyed.of_law Try.arrKey.law
  keys := fun x y hx hy => ⟨_, keyOf_pair Try.arrKey Try.underlying3 Try.someTypes (wf_small hx) (wf_small hy)⟩
  mu := Try.underlying66
  zero := fun w => Try.zeroValue3 w
end Go.Proofs.Ytikfbhepnnbdoaa

/-
 THE WALKS over package super: what may be said, and the reference's.
-/
import Derived.Test.YtajnlhalanhicaaOct
import Derived.Test.YtajnlhalanhicaaSupM
namespace Go.Proofs.Ytajnlhalanhicaa
set_option linter.all false
set_option maxRecDepth 20000
open Go.RowKit
set_option maxRecDepth 100000 in
set_option maxHeartbeats 2000000 in
theorem right_any (s : Sup) (w : World) :
    Calls Try.prog 47 #[(.agg #[.int .i64 s.gen, .int .i64 s.members, .int .i64 s.disk, .int .i64 s.stripes, .int .i64 s.logs, .int .i64 s.spare, .int .i64 s.mark, .int .i64 s.cursor])] w fun e w' => e = .returned (.bool (rightB s)) ∧ Below w.heap.size w w' := by
  obtain ⟨r, hr⟩ : ∃ r, r = rightB s := ⟨_, rfl⟩
  rw [← hr]
  have HR : Hid (r = decide (RightP s)) := hr
  clear hr
  obtain ⟨g, m, d, t, l, p, k, c⟩ := s
  go_enter Try.func47, Try.ntmps47
  go_wp2
  all_goals
    first
    | (have e : r = false := by
         rw [HR.out, decide_eq_false_iff_not]
         unfold RightP
         simp only
         omega
       subst e
       go_ret
       exact ⟨rfl, (Below.refl _ _).alloc (Nat.le_refl _) _⟩)
    | (have e : r = true := by
         rw [HR.out, decide_eq_true_eq]
         unfold RightP
         simp only
         omega
       subst e
       go_ret
       exact ⟨rfl, (Below.refl _ _).alloc (Nat.le_refl _) _⟩)
set_option maxHeartbeats 1000000 in
theorem slot_any (a : Int) (w : World) : Calls Try.prog 20 #[.int .i64 a] w fun e w' => e = .returned (.int .i64 (bits .and .i64 a 1)) ∧ w = w' := by
 go_enter Try.func20, Try.ntmps20
 go_wp2
 go_ret
 exact ⟨rfl, rfl⟩
theorem and_one_i64 (a : Int) (_h0 : -9223372036854775808 ≤ a) (_h1 : a ≤ 9223372036854775807) : bits .and .i64 a 1 = a % 2 := by
 show IntKind.i64.wrap ((BitVec.ofInt 64 a &&& BitVec.ofInt 64 1).toNat : Int) = _
 rw [BitVec.toNat_and]
 have e1 : (BitVec.ofInt 64 1).toNat = 2 ^ 1 - 1 := by decide
 rw [e1, Nat.and_two_pow_sub_one_eq_mod, BitVec.toNat_ofInt, IntKind.wrap_i64]
 have e2 : ((a % ((2 ^ 64 : Nat) : Int)).toNat % 2 ^ 1 : Nat) = ((a % 2).toNat : Nat) := by
  have : ((2 ^ 64 : Nat) : Int) = 18446744073709551616 := by decide
  rw [this]; omega
 rw [e2]
 omega
end Go.Proofs.Ytajnlhalanhicaa

/-
  THE WALKS over package super: where the fields stand, and a block.
-/
import Derived.Test.YtajnlhalanhicaaSupL
import Derived.Test.YtajnlhalanhicaaBase
import Derived.StillTailTactics
namespace Go.Proofs.Ytajnlhalanhicaa
set_option linter.all false
set_option maxRecDepth 20000
open Go.RowKit

theorem and_255 (p : Int) (h1 : -1 ≤ p) (h2 : p < 256) : bits .and .i64 p 255 = (spareN p : Nat) := by
  show IntKind.i64.wrap ((BitVec.ofInt 64 p &&& BitVec.ofInt 64 255).toNat : Int) = _
  rw [BitVec.toNat_and]
  have e1 : (BitVec.ofInt 64 255).toNat = 2 ^ 8 - 1 := by decide
  rw [e1, Nat.and_two_pow_sub_one_eq_mod, BitVec.toNat_ofInt, IntKind.wrap_i64]
  have e2 : ((p % ((2 ^ 64 : Nat) : Int)).toNat % 2 ^ 8 : Nat) = spareN p := by
    have : ((2 ^ 64 : Nat) : Int) = 18446744073709551616 := by decide
    rw [this]
    unfold spareN
    split <;> omega
  rw [e2]
  have : spareN p < 256 := by unfold spareN; split <;> omega
  omega

theorem ix0 (x0 x1 x2 x3 x4 x5 x6 x7 : Int) : ∀ w, (Instr.index 111 (.agg #[.int .i64 x0, .int .i64 x1, .int .i64 x2, .int .i64 x3, .int .i64 x4, .int .i64 x5, .int .i64 x6, .int .i64 x7]) (.int .i64 0)).run Try.prog w = .ok (.int .i64 x0) w := fun _ => by kernel_rfl
theorem ix1 (x0 x1 x2 x3 x4 x5 x6 x7 : Int) : ∀ w, (Instr.index 111 (.agg #[.int .i64 x0, .int .i64 x1, .int .i64 x2, .int .i64 x3, .int .i64 x4, .int .i64 x5, .int .i64 x6, .int .i64 x7]) (.int .i64 1)).run Try.prog w = .ok (.int .i64 x1) w := fun _ => by kernel_rfl
theorem ix2 (x0 x1 x2 x3 x4 x5 x6 x7 : Int) : ∀ w, (Instr.index 111 (.agg #[.int .i64 x0, .int .i64 x1, .int .i64 x2, .int .i64 x3, .int .i64 x4, .int .i64 x5, .int .i64 x6, .int .i64 x7]) (.int .i64 2)).run Try.prog w = .ok (.int .i64 x2) w := fun _ => by kernel_rfl
theorem ix3 (x0 x1 x2 x3 x4 x5 x6 x7 : Int) : ∀ w, (Instr.index 111 (.agg #[.int .i64 x0, .int .i64 x1, .int .i64 x2, .int .i64 x3, .int .i64 x4, .int .i64 x5, .int .i64 x6, .int .i64 x7]) (.int .i64 3)).run Try.prog w = .ok (.int .i64 x3) w := fun _ => by kernel_rfl
theorem ix4 (x0 x1 x2 x3 x4 x5 x6 x7 : Int) : ∀ w, (Instr.index 111 (.agg #[.int .i64 x0, .int .i64 x1, .int .i64 x2, .int .i64 x3, .int .i64 x4, .int .i64 x5, .int .i64 x6, .int .i64 x7]) (.int .i64 4)).run Try.prog w = .ok (.int .i64 x4) w := fun _ => by kernel_rfl
theorem ix5 (x0 x1 x2 x3 x4 x5 x6 x7 : Int) : ∀ w, (Instr.index 111 (.agg #[.int .i64 x0, .int .i64 x1, .int .i64 x2, .int .i64 x3, .int .i64 x4, .int .i64 x5, .int .i64 x6, .int .i64 x7]) (.int .i64 5)).run Try.prog w = .ok (.int .i64 x5) w := fun _ => by kernel_rfl
theorem ix6 (x0 x1 x2 x3 x4 x5 x6 x7 : Int) : ∀ w, (Instr.index 111 (.agg #[.int .i64 x0, .int .i64 x1, .int .i64 x2, .int .i64 x3, .int .i64 x4, .int .i64 x5, .int .i64 x6, .int .i64 x7]) (.int .i64 6)).run Try.prog w = .ok (.int .i64 x6) w := fun _ => by kernel_rfl
theorem ix7 (x0 x1 x2 x3 x4 x5 x6 x7 : Int) : ∀ w, (Instr.index 111 (.agg #[.int .i64 x0, .int .i64 x1, .int .i64 x2, .int .i64 x3, .int .i64 x4, .int .i64 x5, .int .i64 x6, .int .i64 x7]) (.int .i64 7)).run Try.prog w = .ok (.int .i64 x7) w := fun _ => by kernel_rfl
/-- the fields, one after another, and where they stand -/
theorem field_at (s : Sup) (h : RightP s) (k : Nat) (hk : k < 8) : ∃ x n a : Nat, (fieldsL s)[k]? = some (x, n) ∧ x < 256 ^ n ∧ x < 4611686018427387905 ∧ 1 ≤ n ∧ n ≤ 8 ∧ (preL s k).length = a ∧ a + n ≤ 28 ∧
    layR[k * 2]? = some (.int .i64 a) ∧ layR[k * 2 + 1]? = some (.int .i64 n) ∧
    ∀ w, (Instr.index 111 (.agg #[.int .i64 s.gen, .int .i64 s.members, .int .i64 s.disk, .int .i64 s.logs, .int .i64 (spareN s.spare : Nat), .int .i64 s.stripes, .int .i64 s.mark, .int .i64 s.cursor]) (.int .i64 k)).run Try.prog w = .ok (.int .i64 x) w := by
  have hsp : spareN s.spare < 256 := by unfold RightP at h; unfold spareN; split <;> omega
  unfold RightP at h
  have hl := preL_len s k hk
  obtain ⟨g, m, d, t, l, p, mk, c⟩ := s
  simp only at h hsp hl
  have h8 : k = 0 ∨ k = 1 ∨ k = 2 ∨ k = 3 ∨ k = 4 ∨ k = 5 ∨ k = 6 ∨ k = 7 := by omega
  have e1 := Int.toNat_of_nonneg (show 0 ≤ g by omega)
  have e2 := Int.toNat_of_nonneg (show 0 ≤ m by omega)
  have e3 := Int.toNat_of_nonneg (show 0 ≤ d by omega)
  have e4 := Int.toNat_of_nonneg (show 0 ≤ t by omega)
  have e5 := Int.toNat_of_nonneg (show 0 ≤ l by omega)
  have e6 := Int.toNat_of_nonneg (show 0 ≤ mk by omega)
  have e7 := Int.toNat_of_nonneg (show 0 ≤ c by omega)
  rcases h8 with rfl | rfl | rfl | rfl | rfl | rfl | rfl | rfl
  all_goals
    refine ⟨_, _, _, rfl, ?_, ?_, ?_, ?_, hl, ?_, rfl, rfl, ?_⟩
    · simp only; omega
    · simp only; omega
    · first | omega | decide
    · first | omega | decide
    · first | omega | decide
    · simp only [e1, e2, e3, e4, e5, e6, e7]
      generalize ((spareN p : Nat) : Int) = q
      first | exact ix0 g m d l q t mk c | exact ix1 g m d l q t mk c | exact ix2 g m d l q t mk c | exact ix3 g m d l q t mk c | exact ix4 g m d l q t mk c | exact ix5 g m d l q t mk c | exact ix6 g m d l q t mk c | exact ix7 g m d l q t mk c
end Go.Proofs.Ytajnlhalanhicaa

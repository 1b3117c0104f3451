/-
 The greatest generation's place, and slices of arrays' sayings as cells. No program in sight.
-/
import Derived.Test.YtajnlhalanhicaaSupM
import Derived.Test.YtajnlhalanhicaaBase
namespace Go.Proofs.Ytajnlhalanhicaa
set_option linter.all false
set_option maxRecDepth 20000
def supCells (s : Sup) : List Value := [.int .i64 s.gen, .int .i64 s.members, .int .i64 s.disk, .int .i64 s.stripes, .int .i64 s.logs, .int .i64 s.spare, .int .i64 s.mark, .int .i64 s.cursor]
def cellsS (ss : List Sup) : List Value := ss.flatMap supCells
theorem cellsS_len (ss : List Sup) : (cellsS ss).length = ss.length * 8 := by
 induction ss with
 | nil => rfl
 | cons s ss ih => simp only [cellsS, List.flatMap_cons, List.length_append, List.length_cons] at ih ⊢; rw [ih]; simp [supCells]; omega
theorem cellsS_get (ss : List Sup) : ∀ (i j : Nat) (hi : i < ss.length), j < 8 → (cellsS ss)[i * 8 + j]? = (supCells ss[i])[j]? := by
 induction ss with
 | nil => intro i j hi; simp at hi
 | cons s ss ih =>
  intro i j hi hj
  have e : cellsS (s :: ss) = supCells s ++ cellsS ss := by simp [cellsS]
  rw [e]
  cases i with
  | zero =>
   rw [Nat.zero_mul, Nat.zero_add, List.getElem?_append_left (by simp [supCells]; omega)]
   rfl
  | succ i =>
   rw [List.getElem?_append_right (by simp [supCells]; omega)]
   have e2 : (i + 1) * 8 + j - (supCells s).length = i * 8 + j := by simp [supCells]; omega
   rw [e2, ih i j (by simpa using hi) hj]
   rfl
def gen (ss : List Sup) (i : Nat) : Int := (ss[i]?.map (·.gen)).getD 0
theorem gen_of (ss : List Sup) (i : Nat) (h : i < ss.length) : gen ss i = ss[i].gen := by simp [gen, List.getElem?_eq_getElem h]
def newestTo (ss : List Sup) : Nat → Nat
 | 0 => 0
 | k + 1 => if gen ss (newestTo ss k) < gen ss k then k else newestTo ss k
theorem newestTo_spec (ss : List Sup) : ∀ k, newestTo ss k ≤ k - 1 ∧ ∀ j, j < k → gen ss j ≤ gen ss (newestTo ss k) ∧ (gen ss j = gen ss (newestTo ss k) → newestTo ss k ≤ j)
 | 0 => ⟨Nat.le_refl _, fun _ h => absurd h (by omega)⟩
 | k + 1 => by
  obtain ⟨h1, h2⟩ := newestTo_spec ss k
  unfold newestTo
  by_cases hk0 : k = 0
  ·subst hk0
   have e : newestTo ss 0 = 0 := rfl
   rw [e, if_neg (by omega)]
   exact ⟨Nat.le_refl _, fun j hj => by
    have : j = 0 := by omega
    subst this
    exact ⟨Int.le_refl _, fun _ => Nat.le_refl _⟩⟩
  ·by_cases h : gen ss (newestTo ss k) < gen ss k
   ·rw [if_pos h]
    refine ⟨by omega, fun j hj => ?_⟩
    by_cases hjk : j = k
    ·subst hjk; exact ⟨Int.le_refl _, fun _ => Nat.le_refl _⟩
    ·obtain ⟨h3, h4⟩ := h2 j (by omega)
     exact ⟨by omega, fun e => by omega⟩
   ·rw [if_neg h]
    refine ⟨by omega, fun j hj => ?_⟩
    by_cases hjk : j = k
    ·subst hjk
     refine ⟨by omega, fun _ => ?_⟩
     omega
    ·exact h2 j (by omega)
end Go.Proofs.Ytajnlhalanhicaa

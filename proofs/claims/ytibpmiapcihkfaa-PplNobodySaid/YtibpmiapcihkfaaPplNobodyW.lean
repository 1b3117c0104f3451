/-
  THE WALK of PplNobody.
-/
import Derived.Test.YtibpmiapcihkfaaPplNobodyA
import Derived.Test.YtibpmiapcihkfaaPplNobodyB
namespace Go.Proofs.Ytibpmiapcihkfaa
set_option linter.all false
open Go.RowKit

theorem pplNobody_walk (slot : Int) (q : Rec) (A : Option Addr) (n c : Nat) (slots sectors : Int) (w : World) (_ : -9223372036854775808 ≤ slot) (_ : slot ≤ 9223372036854775807) (hr : Rd w A q.part) (hn : q.part.length = n) (_ : ∀ ad, A = some ad → 0 < n → ad.block < w.heap.size) (_ : n ≤ 140737488351232)
    (hs0 : -9223372036854775808 ≤ slots) (hs1 : slots ≤ 9223372036854775807) (_ : -9223372036854775808 ≤ sectors) (_ : sectors ≤ 9223372036854775807) :
    Calls Try.prog 7 #[.int .i64 slot, .agg #[.int .i64 q.stripe, .int .i64 q.place, .slice A n c], .int .i64 slots, .int .i64 sectors] w fun e w' => e = .returned (.bool true) ∧ Below w.heap.size w w' := by
  have t1 := Int.tmod_lt_of_pos sectors (b := 40) (by omega)
  have t2 := Int.lt_tmod_of_pos sectors (b := 40) (by omega)
  have hcase : (∃ k : Nat, k < 40 ∧ sectors.tmod 40 = (k : Int) ∧ 0 ≤ (k : Int)) ∨ ∃ k : Nat, k < 40 ∧ sectors.tmod 40 = -(k : Int) ∧ 0 < (k : Int) := by
    by_cases h : 0 ≤ sectors.tmod 40
    · exact .inl ⟨(sectors.tmod 40).toNat, by omega, by omega, by omega⟩
    · exact .inr ⟨(-(sectors.tmod 40)).toNat, by omega, by omega, by omega⟩
  rcases hcase with ⟨k, hk, hk0⟩ | ⟨k, hk, hk0⟩
  all_goals
    have hx : slots < 1 ∨ (1 ≤ slots ∧ 8 < slots) ∨ (1 ≤ slots ∧ slots ≤ 8 ∧ blocksI ((k : Int) + 1) < 2 + 2 * slots) ∨ (1 ≤ slots ∧ slots ≤ 8 ∧ 2 + 2 * slots ≤ blocksI ((k : Int) + 1)) := by omega
  · rcases hx with h | ⟨h, h2⟩ | ⟨h, h2, h3⟩ | ⟨h, h2, h3⟩
    · exact nob_pos_low slot q.stripe q.place q.part A n c slots sectors k w hr hn hk hk0 hs0 hs1 h
    · exact nob_pos_high slot q.stripe q.place q.part A n c slots sectors k w hr hn hk hk0 hs0 hs1 h h2
    · exact nob_pos_wide slot q.stripe q.place q.part A n c slots sectors k w hr hn hk hk0 hs0 hs1 h h2 h3
    · exact nob_pos_right slot q.stripe q.place q.part A n c slots sectors k w hr hn hk hk0 hs0 hs1 h h2 h3
  · rcases hx with h | ⟨h, h2⟩ | ⟨h, h2, h3⟩ | ⟨h, h2, h3⟩
    · exact nob_neg_low slot q.stripe q.place q.part A n c slots sectors k w hr hn hk hk0 hs0 hs1 h
    · exact nob_neg_high slot q.stripe q.place q.part A n c slots sectors k w hr hn hk hk0 hs0 hs1 h h2
    · exact nob_neg_wide slot q.stripe q.place q.part A n c slots sectors k w hr hn hk hk0 hs0 hs1 h h2 h3
    · exact nob_neg_right slot q.stripe q.place q.part A n c slots sectors k w hr hn hk hk0 hs0 hs1 h h2 h3
end Go.Proofs.Ytibpmiapcihkfaa

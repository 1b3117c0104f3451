/-
  From a walk to a row: slices of calls of blocks that came in.
-/
import Derived.Test.YtikfbhepnnbdoaaRowO
import Derived.Test.YtikfbhepnnbdoaaSuOp
namespace Go.Proofs.Ytikfbhepnnbdoaa
set_option linter.all false
open Go.ChangeShapes Go.WideShapes Go.ChangeAt Go.RowKit Go.Deep

section
variable {H : Type} {enc : TypeId × Value → H} {w : World} {base : Nat} {spare : Nat → Bool} {held : Bool}
theorem open_opsS {A : Option Addr} {n c : Nat} {d : DataW H} {p : List MemPlace} (h : DataW.Trod enc Try.prog w base spare held 50 (.slice A n c) d p) : ∃ ops : List OpS, OpsS w w.heap.size A ops ∧ ops.length = n := by
  obtain ⟨fuel, hf⟩ := h
  rcases open_slice_fields Try.underlying50 Try.underlying56 (by kernel_rfl) (by kernel_rfl) hf with ⟨hcs, _⟩ | ⟨a, len, cap, m, hcs, hl, hm, hmm, hi⟩
  · simp [Value.cells] at hcs
    obtain ⟨rfl, rfl, rfl⟩ := hcs
    exact ⟨[], ⟨fun _ => rfl, (fun _ e => by cases e), (fun _ _ e => by cases e), by simp⟩, rfl⟩
  · simp [Value.cells] at hcs
    obtain ⟨rfl, rfl, rfl⟩ := hcs
    have hnm : n ≤ m := by split at hmm <;> omega
    have key : ∀ i : Nat, ∃ o : OpS, i < n → (∀ j, j < 5 → w.cell? (a.add (i * 5 + j)) = (opSCells o)[j]?) ∧ KeepL w w.heap.size o.ka o.keep := by
      intro i
      by_cases hin : i < n
      · obtain ⟨nf, hfj⟩ := hi i (by omega)
        obtain ⟨v0, y0, hc0, ht0⟩ := hfj 0 _ rfl
        obtain ⟨v1, y1, hc1, ht1⟩ := hfj 1 _ rfl
        obtain ⟨v2, y2, hc2, ht2⟩ := hfj 2 _ rfl
        obtain ⟨v3, y3, hc3, ht3⟩ := hfj 3 _ rfl
        obtain ⟨v4, y4, hc4, ht4⟩ := hfj 4 _ rfl
        obtain ⟨z0, e0, _, _⟩ := DataW.trod_int (k := .i64) (by kernel_rfl) ht0
        obtain ⟨z1, e1, _, _⟩ := DataW.trod_int (k := .i64) (by kernel_rfl) ht1
        obtain ⟨z2, e2, _, _⟩ := DataW.trod_int (k := .i64) (by kernel_rfl) ht2
        obtain ⟨z3, e3, _, hw3⟩ := DataW.trod_int (k := .u8) (by kernel_rfl) ht3
        obtain ⟨b3, rfl⟩ := toNat_u8 hw3
        obtain ⟨A4, keep, c4, rfl, hk⟩ := keep_rd Try.underlying51 Try.underlying96 Try.underlying3 (by kernel_rfl) (by kernel_rfl) ht4
        injection e0 with e0
        injection e1 with e1
        injection e2 with e2
        injection e3 with e3
        subst e0 e1 e2 e3
        refine ⟨⟨z0, z1, z2, b3, keep, A4, c4⟩, fun _ => ⟨fun j hj => ?_, hk⟩⟩
        have h6 : j = 0 ∨ j = 1 ∨ j = 2 ∨ j = 3 ∨ j = 4 := by omega
        rcases h6 with rfl | rfl | rfl | rfl | rfl
        · exact hc0
        · exact hc1
        · exact hc2
        · exact hc3
        · exact hc4
      · exact ⟨⟨0, 0, 0, 0, [], none, 0⟩, fun h => absurd h hin⟩
    obtain ⟨f, hfo⟩ := Classical.axiomOfChoice key
    refine ⟨(List.range n).map f, ⟨(fun e => by cases e), fun ad e h0 => ?_, fun b o e i hi2 j hj => ?_, fun x hx => ?_⟩, by simp⟩
    · injection e with e
      subst e
      have hn0 : 0 < n := by simpa using h0
      have hc0 := (hfo 0 hn0).1 0 (by omega)
      have hlt := World.block_lt_of_cell? w _ (hc0.trans (show _ = some _ from rfl))
      rw [add_block] at hlt
      obtain ⟨b, o, rfl⟩ := spot_of (hc0.trans (show _ = some _ from rfl))
      exact ⟨b, o, rfl, hlt⟩
    · injection e with e
      subst e
      have hin : i < n := by simpa using hi2
      have h1 := (hfo i hin).1 j hj
      have e1 : (⟨b, o, none⟩ : Addr).add (i * 5 + j) = ⟨b, o + i * 5 + j, none⟩ := by simp [Addr.add, Nat.add_assoc]
      rw [e1] at h1
      simpa using h1
    · obtain ⟨i, hi2, rfl⟩ := List.mem_map.1 hx
      exact (hfo i (List.mem_range.1 hi2)).2
end
end Go.Proofs.Ytikfbhepnnbdoaa

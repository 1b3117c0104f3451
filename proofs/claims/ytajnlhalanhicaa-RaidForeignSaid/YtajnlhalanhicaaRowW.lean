/-
 From a walk to a row: slices of arrays that came in, however long.
-/
import Derived.Test.YtajnlhalanhicaaRowG
import Derived.Test.YtajnlhalanhicaaSupQ
namespace Go.Proofs.Ytajnlhalanhicaa
set_option linter.all false
set_option maxRecDepth 20000
open Go.ChangeShapes Go.WideShapes Go.ChangeAt Go.RowKit Go.Deep
structure SupsL (w : World) (base : Nat) (A : Option Addr) (ss : List Sup) : Prop where
 none_ : A = none → ss = []
 spot : ∀ ad, A = some ad → 0 < ss.length → ∃ b o, ad = ⟨b, o, none⟩ ∧ b < base
 cell : ∀ b o, A = some ⟨b, o, none⟩ → ∀ i (hi : i < ss.length) j, j < 8 → w.cell? ⟨b, o + i * 8 + j, none⟩ = (supCells ss[i])[j]?
theorem SupsL.get {w : World} {base : Nat} {A : Option Addr} {ss : List Sup} (h : SupsL w base A ss) {i : Nat} (hi : i < ss.length) :
  ∃ b o, A = some ⟨b, o, none⟩ ∧ b < base ∧ w.cell? ⟨b, o + i * 8, none⟩ = some (.int .i64 ss[i].gen) ∧ w.cell? ⟨b, o + i * 8 + 1, none⟩ = some (.int .i64 ss[i].members) ∧ w.cell? ⟨b, o + i * 8 + 2, none⟩ = some (.int .i64 ss[i].disk) ∧ w.cell? ⟨b, o + i * 8 + 3, none⟩ = some (.int .i64 ss[i].stripes) ∧
   w.cell? ⟨b, o + i * 8 + 4, none⟩ = some (.int .i64 ss[i].logs) ∧ w.cell? ⟨b, o + i * 8 + 5, none⟩ = some (.int .i64 ss[i].spare) ∧ w.cell? ⟨b, o + i * 8 + 6, none⟩ = some (.int .i64 ss[i].mark) ∧ w.cell? ⟨b, o + i * 8 + 7, none⟩ = some (.int .i64 ss[i].cursor) := by
 cases hA : A with
 | none => have := h.none_ hA; subst this; simp at hi
 | some ad =>
  obtain ⟨b, o, rfl, hb⟩ := h.spot ad hA (by omega)
  have c := h.cell b o hA i hi
  exact ⟨b, o, rfl, hb, (c 0 (by omega)).trans rfl, (c 1 (by omega)).trans rfl, (c 2 (by omega)).trans rfl, (c 3 (by omega)).trans rfl, (c 4 (by omega)).trans rfl, (c 5 (by omega)).trans rfl, (c 6 (by omega)).trans rfl, (c 7 (by omega)).trans rfl⟩
section
variable {H : Type} {enc : TypeId × Value → H} {w : World} {base : Nat} {spare : Nat → Bool} {held : Bool}
theorem open_supsL {A : Option Addr} {n c : Nat} {d : DataW H} {p : List MemPlace} (h : DataW.Trod enc Try.prog w base spare held 48 (.slice A n c) d p) : ∃ ss : List Sup, SupsL w w.heap.size A ss ∧ ss.length = n ∧ ∀ x ∈ ss, -9223372036854775808 ≤ x.disk ∧ x.disk ≤ 9223372036854775807 := by
 obtain ⟨fuel, hf⟩ := h
 rcases open_slice_fields Try.underlying48 Try.underlying53 (by kernel_rfl) (by kernel_rfl) hf with ⟨hcs, _⟩ | ⟨a, len, cap, m, hcs, hl, hm, hmm, hi⟩
 ·simp [Value.cells] at hcs
  obtain ⟨rfl, rfl, rfl⟩ := hcs
  exact ⟨[], ⟨fun _ => rfl, (fun _ e => by cases e), (fun _ _ e => by cases e)⟩, rfl, by simp⟩
 ·simp [Value.cells] at hcs
  obtain ⟨rfl, rfl, rfl⟩ := hcs
  have hnm : n ≤ m := by split at hmm <;> omega
  have key : ∀ i : Nat, ∃ x : Sup, i < n → (∀ j, j < 8 → w.cell? (a.add (i * 8 + j)) = (supCells x)[j]?) ∧ (-9223372036854775808 ≤ x.disk ∧ x.disk ≤ 9223372036854775807) := by
   intro i
   by_cases hin : i < n
   ·obtain ⟨nf, hfj⟩ := hi i (by omega)
    obtain ⟨v0, y0, hc0, ht0⟩ := hfj 0 _ rfl
    obtain ⟨v1, y1, hc1, ht1⟩ := hfj 1 _ rfl
    obtain ⟨v2, y2, hc2, ht2⟩ := hfj 2 _ rfl
    obtain ⟨v3, y3, hc3, ht3⟩ := hfj 3 _ rfl
    obtain ⟨v4, y4, hc4, ht4⟩ := hfj 4 _ rfl
    obtain ⟨v5, y5, hc5, ht5⟩ := hfj 5 _ rfl
    obtain ⟨v6, y6, hc6, ht6⟩ := hfj 6 _ rfl
    obtain ⟨v7, y7, hc7, ht7⟩ := hfj 7 _ rfl
    obtain ⟨z0, e0, _, _⟩ := DataW.trod_int (k := .i64) (by kernel_rfl) ht0
    obtain ⟨z1, e1, _, _⟩ := DataW.trod_int (k := .i64) (by kernel_rfl) ht1
    obtain ⟨z2, e2, _, hw2⟩ := DataW.trod_int (k := .i64) (by kernel_rfl) ht2
    obtain ⟨z3, e3, _, _⟩ := DataW.trod_int (k := .i64) (by kernel_rfl) ht3
    obtain ⟨z4, e4, _, _⟩ := DataW.trod_int (k := .i64) (by kernel_rfl) ht4
    obtain ⟨z5, e5, _, _⟩ := DataW.trod_int (k := .i64) (by kernel_rfl) ht5
    obtain ⟨z6, e6, _, _⟩ := DataW.trod_int (k := .i64) (by kernel_rfl) ht6
    obtain ⟨z7, e7, _, _⟩ := DataW.trod_int (k := .i64) (by kernel_rfl) ht7
    injection e0 with e0; injection e1 with e1; injection e2 with e2; injection e3 with e3
    injection e4 with e4; injection e5 with e5; injection e6 with e6; injection e7 with e7
    subst e0 e1 e2 e3 e4 e5 e6 e7
    refine ⟨⟨z0, z1, z2, z3, z4, z5, z6, z7⟩, fun _ => ⟨fun j hj => ?_, bounds_i64 hw2⟩⟩
    have h8 : j = 0 ∨ j = 1 ∨ j = 2 ∨ j = 3 ∨ j = 4 ∨ j = 5 ∨ j = 6 ∨ j = 7 := by omega
    rcases h8 with rfl | rfl | rfl | rfl | rfl | rfl | rfl | rfl
    ·exact hc0
    ·exact hc1
    ·exact hc2
    ·exact hc3
    ·exact hc4
    ·exact hc5
    ·exact hc6
    ·exact hc7
   ·exact ⟨⟨0, 0, 0, 0, 0, 0, 0, 0⟩, fun h => absurd h hin⟩
  obtain ⟨f, hfo⟩ := Classical.axiomOfChoice key
  refine ⟨(List.range n).map f, ⟨(fun e => by cases e), fun ad e h0 => ?_, fun b o e i hi2 j hj => ?_⟩, by simp, fun x hx => ?_⟩
  ·injection e with e
   subst e
   have hn0 : 0 < n := by simpa using h0
   have hc0 := (hfo 0 hn0).1 0 (by omega)
   have hlt := World.block_lt_of_cell? w _ (hc0.trans (show _ = some _ from rfl))
   rw [add_block] at hlt
   obtain ⟨b, o, rfl⟩ := spot_adr (hc0.trans (show _ = some _ from rfl))
   exact ⟨b, o, rfl, hlt⟩
  ·injection e with e
   subst e
   have hin : i < n := by simpa using hi2
   have h1 := (hfo i hin).1 j hj
   have e1 : (⟨b, o, none⟩ : Addr).add (i * 8 + j) = ⟨b, o + i * 8 + j, none⟩ := by simp [Addr.add, Nat.add_assoc]
   rw [e1] at h1
   simpa using h1
  ·obtain ⟨i, hi2, rfl⟩ := List.mem_map.1 hx
   exact (hfo i (List.mem_range.1 hi2)).2
end
end Go.Proofs.Ytajnlhalanhicaa

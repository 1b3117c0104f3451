/-
  From a walk to a row: slices of calls of a log that came in.
-/
import Derived.Test.YtibpmiapcihkfaaRowP
import Derived.Test.YtibpmiapcihkfaaPpOp
namespace Go.Proofs.Ytibpmiapcihkfaa
set_option linter.all false
open Go.ChangeShapes Go.WideShapes Go.ChangeAt Go.RowKit Go.Deep

section
variable {H : Type} {enc : TypeId × Value → H} {w : World} {base : Nat} {spare : Nat → Bool} {held : Bool}
set_option maxRecDepth 100000 in
theorem trod_rec {n : Nat} {v0 v1 v2 : Value} {y : DataW H × List MemPlace} (h : DataW.trod enc Try.prog w base spare held n 24 [v0, v1, v2] = some y) :
    ∃ (q : Rec) (A : Option Addr) (c : Nat), v0 = .int .i64 q.stripe ∧ v1 = .int .i64 q.place ∧ v2 = .slice A q.part.length c ∧ Rd w A q.part ∧ ∀ ad, A = some ad → 0 < q.part.length → ad.block < w.heap.size := by
  obtain ⟨xs, n, _, hx, _, hlen, hg⟩ := DataW.trod_struct Try.underlying24 h
  match xs, hlen with
  | [x0, x1, x2], _ =>
    have t0 := hg 0 _ rfl
    have t1 := hg 1 _ rfl
    have t2 := hg 2 _ rfl
    obtain ⟨z0, h0, _, _⟩ := DataW.trod_int (k := .i64) (cs := [v0]) (by kernel_rfl) (by exact t0)
    obtain ⟨z1, h1, _, _⟩ := DataW.trod_int (k := .i64) (cs := [v1]) (by kernel_rfl) (by exact t1)
    injection h0 with h0
    injection h1 with h1
    subst h0 h1
    have t2' : DataW.trod enc Try.prog w base spare held n 22 [v2] = some x2 := t2
    have hv2 : ∃ A m c, v2 = .slice A m c := by
      rcases open_ints Try.underlying22 Try.underlying5 (by kernel_rfl) t2' with ⟨hcs, _⟩ | ⟨a, len, cap, _, hcs, _⟩
      · injection hcs with hcs
        exact ⟨_, _, _, hcs⟩
      · injection hcs with hcs
        exact ⟨_, _, _, hcs⟩
    obtain ⟨A, m, c, rfl⟩ := hv2
    obtain ⟨bs, hr, hl, _⟩ := open_bytes (d := x2.1) (ps := x2.2) Try.underlying22 Try.underlying5 (by kernel_rfl) ⟨n, t2'⟩
    subst hl
    refine ⟨⟨z0, z1, bs⟩, A, c, rfl, rfl, rfl, hr, fun ad e hm => ?_⟩
    have := World.block_lt_of_cell? w _ (hr.2.2 ad e 0 hm)
    rwa [add_block] at this
set_option maxRecDepth 100000 in
theorem open_opsP {A : Option Addr} {n c : Nat} {d : DataW H} {p : List MemPlace} (h : DataW.Trod enc Try.prog w base spare held 35 (.slice A n c) d p) : ∃ ops : List OpP, OpsP w w.heap.size A ops ∧ ops.length = n := by
  obtain ⟨fuel, hf⟩ := h
  rcases open_slice Try.underlying35 hf with ⟨hcs, _⟩ | ⟨a, len, cap, m, k, D, Pl, hcs, hb, hl, hm, hmm, hx, hi⟩
  · simp [Value.cells] at hcs
    obtain ⟨rfl, rfl, rfl⟩ := hcs
    exact ⟨[], ⟨fun _ => rfl, (fun _ e => by cases e), (fun _ _ e => by cases e), by simp⟩, rfl⟩
  · simp [Value.cells] at hcs
    obtain ⟨rfl, rfl, rfl⟩ := hcs
    have hnm : n ≤ m := by split at hmm <;> omega
    have key : ∀ i : Nat, ∃ o : OpP, i < n → (∀ j, j < 5 → w.cell? (a.add (i * 5 + j)) = (opPCells o)[j]?) ∧ Rd w o.ra o.r.part ∧ ∀ ad, o.ra = some ad → 0 < o.r.part.length → ad.block < w.heap.size := by
      intro i
      by_cases hin : i < n
      · obtain ⟨cs', hc, ht'⟩ := hi i (by omega)
        have hC : Try.prog.cellsOf 48 = 5 := by kernel_rfl
        rw [hC] at hc
        obtain ⟨ys, n', _, _, hlen, hyl, hg⟩ := DataW.trod_struct Try.underlying48 ht'
        obtain ⟨_, hcl, hat⟩ := World.cells?_some hc
        have hc5 : cs'.length = 5 := hcl
        match cs', hc5, ys, hyl with
        | [v0, v1, v2, v3, v4], _, [y0, y1, y2], _ =>
          have t0 := hg 0 _ rfl
          have t1 := hg 1 _ rfl
          have t2 := hg 2 _ rfl
          obtain ⟨z0, e0, _, _⟩ := DataW.trod_int (k := .i64) (cs := [v0]) (by kernel_rfl) (by exact t0)
          obtain ⟨z1, e1, _, _⟩ := DataW.trod_int (k := .i64) (cs := [v1]) (by kernel_rfl) (by exact t1)
          have t2' : DataW.trod enc Try.prog w base spare held n' 24 [v2, v3, v4] = some y2 := t2
          obtain ⟨q, B, c', r0, r1, r2, r3, r4⟩ := trod_rec t2'
          injection e0 with e0
          injection e1 with e1
          subst e0 e1 r0 r1 r2
          refine ⟨⟨z0, z1, q, B, c'⟩, fun _ => ⟨fun j hj => ?_, r3, r4⟩⟩
          have := hat j (by omega)
          rw [← Go.Deep.add_add]
          exact this
      · exact ⟨⟨0, 0, ⟨0, 0, []⟩, none, 0⟩, fun h => absurd h hin⟩
    obtain ⟨f, hfo⟩ := Classical.axiomOfChoice key
    refine ⟨(List.range n).map f, ⟨(fun e => by cases e), fun ad e h0 => ?_, fun b o e i hi2 j hj => ?_, fun x hx => ?_⟩, by simp⟩
    · injection e with e
      subst e
      have hn0 : 0 < n := by simpa using h0
      have hc0 := (hfo 0 hn0).1 0 (by omega)
      have hlt := World.block_lt_of_cell? w _ (hc0.trans (show _ = some _ from rfl))
      rw [add_block] at hlt
      obtain ⟨b, o, rfl⟩ := spot_of (hc0.trans (show _ = some _ from rfl))
      exact ⟨b, o, rfl, hlt⟩
    · injection e with e
      subst e
      have hin : i < n := by simpa using hi2
      have h1 := (hfo i hin).1 j hj
      have e1 : (⟨b, o, none⟩ : Addr).add (i * 5 + j) = ⟨b, o + i * 5 + j, none⟩ := by simp [Addr.add, Nat.add_assoc]
      rw [e1] at h1
      simpa using h1
    · obtain ⟨i, hi2, rfl⟩ := List.mem_map.1 hx
      exact (hfo i (List.mem_range.1 hi2)).2
end
end Go.Proofs.Ytibpmiapcihkfaa

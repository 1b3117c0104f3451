/-
 Several texts of this work in one (merge.py): RowO, RowV.
-/
import Derived.Test.YtajnlhalanhicaaRow
import Derived.Test.YtajnlhalanhicaaOpG
import Derived.Deep.Fields
import Derived.Deep.Slices
import Derived.ChangeSame
namespace Go.Proofs.Ytajnlhalanhicaa
set_option linter.all false
set_option maxRecDepth 20000
section
open Go.ChangeShapes Go.WideShapes Go.ChangeAt Go.RowKit Go.Deep
section
variable {H : Type} {enc : TypeId × Value → H} {P : Program} {w : World} {base : Nat} {spare : Nat → Bool} {held : Bool}
theorem ints_rd {t e : TypeId} (ht : P.underlying t = some (.slice e)) (he : P.underlying e = some (.int .i64)) (hc : P.cellsOf e = 1) {fuel : Nat} {v : Value} {y : DataW H × List MemPlace}
  (h : DataW.trod enc P w base spare held fuel t [v] = some y) : ∃ A xs c, v = .slice A xs.length c ∧ RdV w A (intsV xs) := by
 rcases open_ints ht he hc h with ⟨hcs, _⟩ | ⟨a, l, c, zs, hcs, _, hl, hm, hz, _, hcell, _⟩
 ·injection hcs with hcs
  subst hcs
  exact ⟨none, [], 0, rfl, RdV.nil w⟩
 ·injection hcs with hcs
  subst hcs
  have hzl : l ≤ zs.length := by split at hz <;> omega
  refine ⟨some a, zs.take l, c, by simp; omega, by rw [intsV_len]; simp only [List.length_take, maxLen] at *; omega, (fun e => by cases e), fun ad e i hi => ?_⟩
  injection e with e
  subst e
  rw [intsV_len, List.length_take] at hi
  have hi' : i < zs.length := by omega
  rw [hcell i hi']
  simp [intsV, intV, List.getD_eq_getElem?_getD, hi']
theorem keep_rd {t1 t e : TypeId} (h1 : P.underlying t1 = some (.slice t)) (ht : P.underlying t = some (.slice e)) (he : P.underlying e = some (.int .i64)) (hc : P.cellsOf e = 1) (hc1 : P.cellsOf t = 1) {fuel : Nat} {v : Value} {y : DataW H × List MemPlace}
  (h : DataW.trod enc P w base spare held fuel t1 [v] = some y) : ∃ A keep c, v = .slice A keep.length c ∧ KeepL w w.heap.size A keep := by
 have hlt : ∀ (A : Option Addr) (vs : List Value), RdV w A vs → ∀ B : List Nat, (∀ b ∈ B, w.heap.size ≤ b) → ∀ ad, A = some ad → 0 < vs.length → ad.block ∉ B := by
  intro A vs hr B hB ad e h0 hm
  have hx := World.block_lt_of_cell? w _ (hr.2.2 ad e 0 h0)
  rw [add_block] at hx
  have := hB _ hm
  omega
 rcases open_slice h1 h with ⟨hcs, _⟩ | ⟨a, len, cap, m, n, D, Pl, hcs, hb, hl, hm, hmm, hx, hi⟩
 ·injection hcs with hcs
  subst hcs
  exact ⟨none, [], 0, rfl, KeepL.nil w _⟩
 ·injection hcs with hcs
  subst hcs
  have hlm : len ≤ m := by split at hmm <;> omega
  have key : ∀ i, i < len → ∃ (vx : Value) (A : Option Addr) (xs : List Int) (c : Nat), w.cell? (a.add i) = some vx ∧ vx = .slice A xs.length c ∧ RdV w A (intsV xs) := by
   intro i hil
   obtain ⟨cs', hcc, htr⟩ := hi i (by omega)
   rw [hc1, Nat.mul_one] at hcc
   obtain ⟨_, hcl, hat⟩ := World.cells?_some hcc
   have h0 := hat 0 (by omega)
   obtain ⟨vx, hvx⟩ : ∃ vx, cs' = [vx] := by
    match cs', hcl with
    | [vx], _ => exact ⟨vx, rfl⟩
   subst hvx
   obtain ⟨A, xs, c, h2, h3⟩ := ints_rd ht he hc htr
   refine ⟨vx, A, xs, c, ?_, h2, h3⟩
   have e1 : (a.add i).add 0 = a.add i := by rw [Go.Deep.add_add, Nat.add_zero]
   rw [e1] at h0
   rw [h0]
   rfl
  have hex : ∀ i : Nat, ∃ p : Value × List Int, i < len → w.cell? (a.add i) = some p.1 ∧ ∃ A c, p.1 = .slice A p.2.length c ∧ RdV w A (intsV p.2) := by
   intro i
   by_cases hil : i < len
   ·obtain ⟨vx, A, xs, c, k1, k2, k3⟩ := key i hil
    exact ⟨(vx, xs), fun _ => ⟨k1, A, c, k2, k3⟩⟩
   ·exact ⟨(.bool false, []), fun h => absurd h hil⟩
  obtain ⟨f, hf⟩ := Classical.axiomOfChoice hex
  have hrd : RdV w (some a) ((List.range len).map fun i => (f i).1) := by
   refine ⟨by simp only [List.length_map, List.length_range, maxLen] at *; omega, (fun e => by cases e), fun ad e i hi => ?_⟩
   injection e with e
   subst e
   have hil : i < len := by simpa using hi
   rw [(hf i hil).1]
   simp
  refine ⟨some a, (List.range len).map fun i => (f i).2, cap, by simp, fun B hB => ⟨⟨(List.range len).map fun i => (f i).1, hrd, by simp, fun i hi => ?_⟩, fun us hu ad e h0 => ?_⟩⟩
  ·have hil : i < len := by simpa using hi
   obtain ⟨k1, A, c, k2, k3⟩ := hf i hil
   refine ⟨A, c, ?_, ?_, ?_⟩
   ·simp [hil, k2]
   ·simpa using k3
   ·simp only [List.getElem_map, List.getElem_range]
    exact fun ad e h0 => hlt A _ k3 B hB ad e h0
  ·refine hlt (some a) _ hrd B hB ad e ?_
   simp only [List.length_map, List.length_range] at hu ⊢
   omega
theorem open_slice_fields {t e : TypeId} {fs : Array Field} {fuel : Nat} {cs : List Value} {x : DataW H × List MemPlace} (ht : P.underlying t = some (.slice e)) (he : P.underlying e = some (.struct fs))
  (hone : oneCellFields P fs = true) (hC : P.cellsOf e = fs.size) (h : DataW.trod enc P w base spare held fuel t cs = some x) :
  (cs = [.slice none 0 0] ∧ x = (.nil, [])) ∨
  ∃ (a : Addr) (len cap m : Nat), cs = [.slice (some a) len cap] ∧ len ≤ cap ∧ cap ≤ maxLen ∧ m = (if spare a.block then cap else len) ∧
   ∀ i, i < m → ∃ (n : Nat), ∀ (j : Nat) (f : Field), fs[j]? = some f → ∃ (v : Value) (y : DataW H × List MemPlace), w.cell? (a.add (i * fs.size + j)) = some v ∧ DataW.trod enc P w base spare held n f.type [v] = some y := by
 rcases open_slice ht h with h0 | ⟨a, len, cap, m, n, D, Pl, hcs, hb, hl, hm, hmm, hx, hi⟩
 ·exact .inl h0
 ·refine .inr ⟨a, len, cap, m, hcs, hl, hm, hmm, fun i him => ?_⟩
  obtain ⟨cs', hc, ht'⟩ := hi i him
  rw [hC] at hc
  obtain ⟨ys, n', hn', hy, hlen, hyl, hf⟩ := DataW.trod_struct he ht'
  obtain ⟨_, hcl, hat⟩ := World.cells?_some hc
  refine ⟨n', fun j f hj => ?_⟩
  obtain ⟨ho, hk⟩ := hone_of hone j f hj
  have hjl : j < fs.size := (Array.getElem?_eq_some_iff.1 hj).1
  have hcell := hat j hjl
  have hv : cs'[j]? = some (cs'[j]'(by omega)) := List.getElem?_eq_getElem (by omega)
  have h1 := hf j f hj
  rw [ho, hk] at h1
  have hone' : (cs'.drop j).take 1 = [cs'[j]'(by omega)] := by
   rw [List.drop_eq_getElem_cons (by omega)]
   rfl
  rw [hone'] at h1
  have hys : ys[j]? = some (ys[j]'(by omega)) := List.getElem?_eq_getElem (by omega)
  refine ⟨_, _, ?_, h1.trans hys⟩
  rw [← Go.Deep.add_add, hcell, hv]
end
theorem spot_adr {w : World} {ad : Addr} {u : Value} (hc : w.cell? (ad.add 0) = some u) : ∃ b o, ad = ⟨b, o, none⟩ := by
 obtain ⟨b, o, s⟩ := ad
 cases s with
 | none => exact ⟨b, o, rfl⟩
 | some s =>
  exfalso
  have e : (⟨b, o, some s⟩ : Addr).add 0 = ⟨b, o, some s⟩ := rfl
  rw [e] at hc
  unfold World.cell? at hc
  split at hc
  ·simp at hc
  ·cases hc
section
variable {H : Type} {enc : TypeId × Value → H} {w : World} {base : Nat} {spare : Nat → Bool} {held : Bool}
end
end
section
open Go.ChangeShapes Go.WideShapes Go.ChangeAt Go.RowKit Go.Deep
section
variable {H : Type} {enc : TypeId × Value → H} {w : World} {base : Nat} {spare : Nat → Bool} {held : Bool}
theorem open_opsV2 {A : Option Addr} {n c : Nat} {d : DataW H} {p : List MemPlace} (h : DataW.Trod enc Try.prog w base spare held 22 (.slice A n c) d p) : ∃ ops : List OpS, OpsS w w.heap.size A ops ∧ ops.length = n ∧ ∀ o ∈ ops, (-9223372036854775808 ≤ o.at_ ∧ o.at_ ≤ 9223372036854775807) ∧ (-9223372036854775808 ≤ o.n ∧ o.n ≤ 9223372036854775807) := by
 obtain ⟨fuel, hf⟩ := h
 rcases open_slice_fields Try.underlying22 Try.underlying36 (by kernel_rfl) (by kernel_rfl) hf with ⟨hcs, _⟩ | ⟨a, len, cap, m, hcs, hl, hm, hmm, hi⟩
 ·simp [Value.cells] at hcs
  obtain ⟨rfl, rfl, rfl⟩ := hcs
  exact ⟨[], ⟨fun _ => rfl, (fun _ e => by cases e), (fun _ _ e => by cases e), by simp⟩, rfl, by simp⟩
 ·simp [Value.cells] at hcs
  obtain ⟨rfl, rfl, rfl⟩ := hcs
  have hnm : n ≤ m := by split at hmm <;> omega
  have key : ∀ i : Nat, ∃ o : OpS, i < n → (∀ j, j < 5 → w.cell? (a.add (i * 5 + j)) = (opSCells o)[j]?) ∧ KeepL w w.heap.size o.ka o.keep ∧ (-9223372036854775808 ≤ o.at_ ∧ o.at_ ≤ 9223372036854775807) ∧ (-9223372036854775808 ≤ o.n ∧ o.n ≤ 9223372036854775807) := by
   intro i
   by_cases hin : i < n
   ·obtain ⟨nf, hfj⟩ := hi i (by omega)
    obtain ⟨v0, y0, hc0, ht0⟩ := hfj 0 _ rfl
    obtain ⟨v1, y1, hc1, ht1⟩ := hfj 1 _ rfl
    obtain ⟨v2, y2, hc2, ht2⟩ := hfj 2 _ rfl
    obtain ⟨v3, y3, hc3, ht3⟩ := hfj 3 _ rfl
    obtain ⟨v4, y4, hc4, ht4⟩ := hfj 4 _ rfl
    obtain ⟨z0, e0, _, _⟩ := DataW.trod_int (k := .i64) (by kernel_rfl) ht0
    obtain ⟨z1, e1, _, hw1⟩ := DataW.trod_int (k := .i64) (by kernel_rfl) ht1
    obtain ⟨z2, e2, _, hw2⟩ := DataW.trod_int (k := .i64) (by kernel_rfl) ht2
    obtain ⟨z3, e3, _, hw3⟩ := DataW.trod_int (k := .u8) (by kernel_rfl) ht3
    obtain ⟨b3, rfl⟩ := toNat_u8 hw3
    obtain ⟨A4, keep, c4, rfl, hk⟩ := keep_rd Try.underlying34 Try.underlying61 Try.underlying3 (by kernel_rfl) (by kernel_rfl) ht4
    injection e0 with e0
    injection e1 with e1
    injection e2 with e2
    injection e3 with e3
    subst e0 e1 e2 e3
    refine ⟨⟨z0, z1, z2, b3, keep, A4, c4⟩, fun _ => ⟨fun j hj => ?_, hk, bounds_i64 hw2, bounds_i64 hw1⟩⟩
    have h6 : j = 0 ∨ j = 1 ∨ j = 2 ∨ j = 3 ∨ j = 4 := by omega
    rcases h6 with rfl | rfl | rfl | rfl | rfl
    ·exact hc0
    ·exact hc1
    ·exact hc2
    ·exact hc3
    ·exact hc4
   ·exact ⟨⟨0, 0, 0, 0, [], none, 0⟩, fun h => absurd h hin⟩
  obtain ⟨f, hfo⟩ := Classical.axiomOfChoice key
  refine ⟨(List.range n).map f, ⟨(fun e => by cases e), fun ad e h0 => ?_, fun b o e i hi2 j hj => ?_, fun x hx => ?_⟩, by simp, fun x hx => ?_⟩
  ·injection e with e
   subst e
   have hn0 : 0 < n := by simpa using h0
   have hc0 := (hfo 0 hn0).1 0 (by omega)
   have hlt := World.block_lt_of_cell? w _ (hc0.trans (show _ = some _ from rfl))
   rw [add_block] at hlt
   obtain ⟨b, o, rfl⟩ := spot_adr (hc0.trans (show _ = some _ from rfl))
   exact ⟨b, o, rfl, hlt⟩
  ·injection e with e
   subst e
   have hin : i < n := by simpa using hi2
   have h1 := (hfo i hin).1 j hj
   have e1 : (⟨b, o, none⟩ : Addr).add (i * 5 + j) = ⟨b, o + i * 5 + j, none⟩ := by simp [Addr.add, Nat.add_assoc]
   rw [e1] at h1
   simpa using h1
  ·obtain ⟨i, hi2, rfl⟩ := List.mem_map.1 hx
   exact (hfo i (List.mem_range.1 hi2)).2.1
  ·obtain ⟨i, hi2, rfl⟩ := List.mem_map.1 hx
   exact (hfo i (List.mem_range.1 hi2)).2.2
end
end
end Go.Proofs.Ytajnlhalanhicaa

/-
  From a walk to a row: slices of slices of numbers, and slices of calls, that came in.
-/
import Derived.Test.YtibpmiapcihkfaaRow
import Derived.Test.YtibpmiapcihkfaaShOp
import Derived.Deep.Fields
import Derived.Deep.Slices
import Derived.ChangeSame
namespace Go.Proofs.Ytibpmiapcihkfaa
set_option linter.all false
open Go.ChangeShapes Go.WideShapes Go.ChangeAt Go.RowKit Go.Deep

section
variable {H : Type} {enc : TypeId × Value → H} {P : Program} {w : World} {base : Nat} {spare : Nat → Bool} {held : Bool}
theorem ints_rd {t e : TypeId} (ht : P.underlying t = some (.slice e)) (he : P.underlying e = some (.int .i64)) (hc : P.cellsOf e = 1) {fuel : Nat} {v : Value} {y : DataW H × List MemPlace}
    (h : DataW.trod enc P w base spare held fuel t [v] = some y) : ∃ A xs c, v = .slice A xs.length c ∧ RdV w A (intsV xs) := by
  rcases open_ints ht he hc h with ⟨hcs, _⟩ | ⟨a, l, c, zs, hcs, _, hl, hm, hz, _, hcell, _⟩
  · injection hcs with hcs
    subst hcs
    exact ⟨none, [], 0, rfl, RdV.nil w⟩
  · injection hcs with hcs
    subst hcs
    have hzl : l ≤ zs.length := by split at hz <;> omega
    refine ⟨some a, zs.take l, c, by simp; omega, by rw [intsV_len]; simp only [List.length_take, maxLen] at *; omega, (fun e => by cases e), fun ad e i hi => ?_⟩
    injection e with e
    subst e
    rw [intsV_len, List.length_take] at hi
    have hi' : i < zs.length := by omega
    rw [hcell i hi']
    simp [intsV, intV, List.getD_eq_getElem?_getD, hi']

theorem keep_rd {t1 t e : TypeId} (h1 : P.underlying t1 = some (.slice t)) (ht : P.underlying t = some (.slice e)) (he : P.underlying e = some (.int .i64)) (hc : P.cellsOf e = 1) (hc1 : P.cellsOf t = 1) {fuel : Nat} {v : Value} {y : DataW H × List MemPlace}
    (h : DataW.trod enc P w base spare held fuel t1 [v] = some y) : ∃ A keep c, v = .slice A keep.length c ∧ KeepL w w.heap.size A keep := by
  have hlt : ∀ (A : Option Addr) (vs : List Value), RdV w A vs → ∀ B : List Nat, (∀ b ∈ B, w.heap.size ≤ b) → ∀ ad, A = some ad → 0 < vs.length → ad.block ∉ B := by
    intro A vs hr B hB ad e h0 hm
    have hx := World.block_lt_of_cell? w _ (hr.2.2 ad e 0 h0)
    rw [add_block] at hx
    have := hB _ hm
    omega
  rcases open_slice h1 h with ⟨hcs, _⟩ | ⟨a, len, cap, m, n, D, Pl, hcs, hb, hl, hm, hmm, hx, hi⟩
  · injection hcs with hcs
    subst hcs
    exact ⟨none, [], 0, rfl, KeepL.nil w _⟩
  · injection hcs with hcs
    subst hcs
    have hlm : len ≤ m := by split at hmm <;> omega
    have key : ∀ i, i < len → ∃ (vx : Value) (A : Option Addr) (xs : List Int) (c : Nat), w.cell? (a.add i) = some vx ∧ vx = .slice A xs.length c ∧ RdV w A (intsV xs) := by
      intro i hil
      obtain ⟨cs', hcc, htr⟩ := hi i (by omega)
      rw [hc1, Nat.mul_one] at hcc
      obtain ⟨_, hcl, hat⟩ := World.cells?_some hcc
      have h0 := hat 0 (by omega)
      obtain ⟨vx, hvx⟩ : ∃ vx, cs' = [vx] := by
        match cs', hcl with
        | [vx], _ => exact ⟨vx, rfl⟩
      subst hvx
      obtain ⟨A, xs, c, h2, h3⟩ := ints_rd ht he hc htr
      refine ⟨vx, A, xs, c, ?_, h2, h3⟩
      have e1 : (a.add i).add 0 = a.add i := by rw [Go.Deep.add_add, Nat.add_zero]
      rw [e1] at h0
      rw [h0]
      rfl
    have hex : ∀ i : Nat, ∃ p : Value × List Int, i < len → w.cell? (a.add i) = some p.1 ∧ ∃ A c, p.1 = .slice A p.2.length c ∧ RdV w A (intsV p.2) := by
      intro i
      by_cases hil : i < len
      · obtain ⟨vx, A, xs, c, k1, k2, k3⟩ := key i hil
        exact ⟨(vx, xs), fun _ => ⟨k1, A, c, k2, k3⟩⟩
      · exact ⟨(.bool false, []), fun h => absurd h hil⟩
    obtain ⟨f, hf⟩ := Classical.axiomOfChoice hex
    have hrd : RdV w (some a) ((List.range len).map fun i => (f i).1) := by
      refine ⟨by simp only [List.length_map, List.length_range, maxLen] at *; omega, (fun e => by cases e), fun ad e i hi => ?_⟩
      injection e with e
      subst e
      have hil : i < len := by simpa using hi
      rw [(hf i hil).1]
      simp
    refine ⟨some a, (List.range len).map fun i => (f i).2, cap, by simp, fun B hB => ⟨⟨(List.range len).map fun i => (f i).1, hrd, by simp, fun i hi => ?_⟩, fun us hu ad e h0 => ?_⟩⟩
    · have hil : i < len := by simpa using hi
      obtain ⟨k1, A, c, k2, k3⟩ := hf i hil
      refine ⟨A, c, ?_, ?_, ?_⟩
      · simp [hil, k2]
      · simpa using k3
      · simp only [List.getElem_map, List.getElem_range]
        exact fun ad e h0 => hlt A _ k3 B hB ad e h0
    · refine hlt (some a) _ hrd B hB ad e ?_
      simp only [List.length_map, List.length_range] at hu ⊢
      omega

/-- a slice of slices of numbers that came in -/
theorem open_keep {A : Option Addr} {n c : Nat} {d : DataW H} {ps : List MemPlace} {t1 t e : TypeId} (h1 : P.underlying t1 = some (.slice t)) (ht : P.underlying t = some (.slice e)) (he : P.underlying e = some (.int .i64)) (hc : P.cellsOf e = 1) (hc1 : P.cellsOf t = 1)
    (h : DataW.Trod enc P w base spare held t1 (.slice A n c) d ps) : ∃ keep : List (List Int), KeepL w w.heap.size A keep ∧ keep.length = n := by
  obtain ⟨fuel, hf⟩ := h
  obtain ⟨A', keep, c', h2, h3⟩ := keep_rd h1 ht he hc hc1 hf
  injection h2 with e1 e2 e3
  subst e1 e2
  exact ⟨keep, h3, rfl⟩
/-- a slice of structs that came in (after the kit's page on structs) -/
theorem open_slice_fields {t e : TypeId} {fs : Array Field} {fuel : Nat} {cs : List Value} {x : DataW H × List MemPlace} (ht : P.underlying t = some (.slice e)) (he : P.underlying e = some (.struct fs))
    (hone : oneCellFields P fs = true) (hC : P.cellsOf e = fs.size) (h : DataW.trod enc P w base spare held fuel t cs = some x) :
    (cs = [.slice none 0 0] ∧ x = (.nil, [])) ∨
    ∃ (a : Addr) (len cap m : Nat), cs = [.slice (some a) len cap] ∧ len ≤ cap ∧ cap ≤ maxLen ∧ m = (if spare a.block then cap else len) ∧
      ∀ i, i < m → ∃ (n : Nat), ∀ (j : Nat) (f : Field), fs[j]? = some f → ∃ (v : Value) (y : DataW H × List MemPlace), w.cell? (a.add (i * fs.size + j)) = some v ∧ DataW.trod enc P w base spare held n f.type [v] = some y := by
  rcases open_slice ht h with h0 | ⟨a, len, cap, m, n, D, Pl, hcs, hb, hl, hm, hmm, hx, hi⟩
  · exact .inl h0
  · refine .inr ⟨a, len, cap, m, hcs, hl, hm, hmm, fun i him => ?_⟩
    obtain ⟨cs', hc, ht'⟩ := hi i him
    rw [hC] at hc
    obtain ⟨ys, n', hn', hy, hlen, hyl, hf⟩ := DataW.trod_struct he ht'
    obtain ⟨_, hcl, hat⟩ := World.cells?_some hc
    refine ⟨n', fun j f hj => ?_⟩
    obtain ⟨ho, hk⟩ := hone_of hone j f hj
    have hjl : j < fs.size := (Array.getElem?_eq_some_iff.1 hj).1
    have hcell := hat j hjl
    have hv : cs'[j]? = some (cs'[j]'(by omega)) := List.getElem?_eq_getElem (by omega)
    have h1 := hf j f hj
    rw [ho, hk] at h1
    have hone' : (cs'.drop j).take 1 = [cs'[j]'(by omega)] := by
      rw [List.drop_eq_getElem_cons (by omega)]
      rfl
    rw [hone'] at h1
    have hys : ys[j]? = some (ys[j]'(by omega)) := List.getElem?_eq_getElem (by omega)
    refine ⟨_, _, ?_, h1.trans hys⟩
    rw [← Go.Deep.add_add, hcell, hv]
end

theorem spot_of {w : World} {ad : Addr} {u : Value} (hc : w.cell? (ad.add 0) = some u) : ∃ b o, ad = ⟨b, o, none⟩ := by
  obtain ⟨b, o, s⟩ := ad
  cases s with
  | none => exact ⟨b, o, rfl⟩
  | some s =>
    exfalso
    have e : (⟨b, o, some s⟩ : Addr).add 0 = ⟨b, o, some s⟩ := rfl
    rw [e] at hc
    unfold World.cell? at hc
    split at hc
    · simp at hc
    · cases hc

section
variable {H : Type} {enc : TypeId × Value → H} {w : World} {base : Nat} {spare : Nat → Bool} {held : Bool}
theorem open_agg {P : Program} {r : Reach} {b0 : Nat} {t : TypeId} {fs : Array Field} {v : Value} {d : DataW H} {p : List MemPlace} (hs : P.underlying t = some (.struct fs)) (hone : oneCellFields P fs = true) (hC : P.cellsOf t = fs.size)
    (hv : Value.okWide P w r b0 t v) (h : DataW.Trod enc P w base spare held t v d p) :
    ∃ (l : List Value) (n : Nat), l.length = fs.size ∧ v = .agg l.toArray ∧ ∀ i f, fs[i]? = some f → ∀ (hi : i < l.length), ∃ y, DataW.trod enc P w base spare held n f.type [l[i]] = some y := by
  obtain ⟨cs, rfl, hsz⟩ := okWide_struct hs hv
  obtain ⟨fuel, hf⟩ := h
  obtain ⟨xs, n, _, hx, _, hlen, hg⟩ := DataW.trod_struct hs hf
  obtain ⟨l⟩ := cs
  have hll : l.length = fs.size := hsz.trans hC
  refine ⟨l, n, hll, rfl, fun i f hf hi => ?_⟩
  obtain ⟨o, k⟩ := hone_of hone i f hf
  have h1 := hg i f hf
  rw [o, k] at h1
  have e : ((Value.cells (.agg ⟨l⟩)).toList.drop i).take 1 = [l[i]] := by
    show (l.drop i).take 1 = _
    rw [List.drop_eq_getElem_cons hi]
    rfl
  rw [e] at h1
  have hxi : xs[i]? = some (xs[i]'(by omega)) := List.getElem?_eq_getElem (by omega)
  exact ⟨_, h1.trans hxi⟩
end
end Go.Proofs.Ytibpmiapcihkfaa

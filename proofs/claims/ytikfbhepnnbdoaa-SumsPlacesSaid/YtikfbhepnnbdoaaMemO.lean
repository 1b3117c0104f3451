/-
  A row of bytes of the call's own, seen through a slice that begins anywhere: append and reslice.
-/
import Derived.Test.YtikfbhepnnbdoaaMemK
import Derived.Test.YtikfbhepnnbdoaaMemC
import Derived.ArgAppend
namespace Go.Proofs.Ytikfbhepnnbdoaa
set_option linter.all false
open Go.RowKit

def SlAt (w : World) (E base g o cap : Nat) (bs : List UInt8) : Prop :=
  base ≤ g ∧ bs.length ≤ cap ∧ cap ≤ maxLen ∧ ∃ cur, w.heap[g]? = some (.cells cur E (0, 0)) ∧ cur.size = o + cap ∧ ∀ i (h : i < bs.length), cur[o + i]? = some (bV bs[i])
section
variable {w w' : World} {E base g o cap : Nat} {bs : List UInt8}
theorem SlAt.lt (h : SlAt w E base g o cap bs) : g < w.heap.size := by
  obtain ⟨_, _, _, cur, h1, _⟩ := h
  rcases Nat.lt_or_ge g w.heap.size with hlt | hge
  · exact hlt
  · rw [Array.getElem?_eq_none hge] at h1; cases h1
theorem SlAt.of_own {n : Nat} (h : Own w E base (.slice (some ⟨g, 0, none⟩) n cap) bs) : n = bs.length ∧ SlAt w E base g 0 cap bs := by
  rcases h.2 with ⟨h0, _⟩ | ⟨g', cap', cur, hv, hbg, hg, hnc, hcm, hcs, htake⟩
  · cases h0
  · injection hv with e1 e2 e3
    injection e1 with e1
    injection e1 with e1 e4
    subst e1 e2 e3
    refine ⟨rfl, hbg, hnc, hcm, cur, hg, by omega, fun i hi => ?_⟩
    have e := congrArg (fun l => l[i]?) htake
    simp only [List.getElem?_take, bVs_get bs i hi, bVs_len, Nat.mul_one, hi, if_true, Array.getElem?_toList] at e
    rw [Nat.zero_add, e]
    rfl
theorem SlAt.kept (h : SlAt w E base g o cap bs) (hb : w'.heap[g]? = w.heap[g]?) : SlAt w' E base g o cap bs := by
  obtain ⟨h1, h2, h3, cur, h4, h5⟩ := h
  exact ⟨h1, h2, h3, cur, hb.trans h4, h5⟩
theorem SlAt.cell (h : SlAt w E base g o cap bs) (i : Nat) (hi : i < bs.length) : w.cell? ⟨g, o + i, none⟩ = some (.int .u8 (bs[i].toNat : Int)) := by
  obtain ⟨_, _, _, cur, h4, _, h6⟩ := h
  rw [cell_of_row w g (o + i) _ E (0, 0) h4]
  exact h6 i hi
theorem SlAt.spare (h : SlAt w E base g o cap bs) (j : Nat) (hj : j < cap) : (w.cell? ⟨g, o + j, none⟩).isSome = true ∧ w.frozen? ⟨g, o + j, none⟩ = false := by
  obtain ⟨_, _, _, cur, h4, h5, _⟩ := h
  rw [cell_of_row w g (o + j) _ E (0, 0) h4]
  refine ⟨?_, by simp [World.frozen?, h4]⟩
  rw [Array.getElem?_eq_getElem (by omega)]
  rfl
theorem SlAt.snoc (h : SlAt w E base g o cap bs) (b : UInt8) (hc : bs.length + 1 ≤ cap) : SlAt (w.setCell ⟨g, o + bs.length, none⟩ (bV b)) E base g o cap (bs ++ [b]) := by
  obtain ⟨h1, h2, h3, cur, h4, h5, h6⟩ := h
  refine ⟨h1, by simpa using hc, h3, cur.setIfInBounds (o + bs.length) (bV b), ?_, by simpa using h5, fun i hi => ?_⟩
  · exact heap_setCell_same w g (o + bs.length) cur E (bV b) h4
  · simp only [List.length_append, List.length_singleton] at hi
    rw [Array.getElem?_setIfInBounds]
    by_cases e : i = bs.length
    · subst e
      rw [if_pos rfl, if_pos (by omega)]
      simp
    · rw [if_neg (by omega), h6 i (by omega), List.getElem_append_left (by omega)]
theorem SlAt.drop (h : SlAt w E base g o cap bs) (k : Nat) (hk : k ≤ bs.length) : SlAt w E base g (o + k) (cap - k) (bs.drop k) := by
  obtain ⟨h1, h2, h3, cur, h4, h5, h6⟩ := h
  refine ⟨h1, by rw [List.length_drop]; omega, by omega, cur, h4, by omega, fun i hi => ?_⟩
  rw [List.length_drop] at hi
  rw [List.getElem_drop, Nat.add_assoc]
  exact h6 (k + i) (by omega)
end
/-- all but block g, and what is new, is as it was -/
structure But (g : Nat) (w w' : World) : Prop where
  os : w'.os = w.os
  tape : w'.tape = w.tape
  output : w'.output = w.output
  size : w.heap.size ≤ w'.heap.size
  block : ∀ k, k < w.heap.size → k ≠ g → w'.heap[k]? = w.heap[k]?
theorem But.setCell (w : World) (a : Addr) (u : Value) : But a.block w (w.setCell a u) :=
  ⟨rfl, rfl, rfl, by simp [World.setCell], fun k _ hk => heap_setCell_other w a k u hk⟩
theorem But.of_grown {g : Nat} {w w' : World} (h : w.grownBy w' none) : But g w w' :=
  ⟨h.os, h.tape, h.output, h.size, fun k hk _ => h.block k hk (by simp)⟩
theorem But.below {g base : Nat} {w w' : World} (h : But g w w') (hg : base ≤ g) (hb : base ≤ w.heap.size) : Below base w w' :=
  ⟨h.os, h.tape, h.output, h.size, fun k hk => h.block k (by omega) (by omega)⟩
/-- one byte is appended -/
theorem wpList_append_sl {P : Program} (w : World) {ops : Array Oper} {rest : List Oper} {o : Oper} {a : Act} {Q : Exit → Act → World → Prop}
    (hgd : o.guard = none) (s x : Operand) (t : TypeId) (hop : o.op = Op.call { callee := Callee.builtin Builtin.append, args := #[s, x], argTypes := #[t, t] })
    (E : TypeId) (ht : P.underlying t = some (.slice E)) (hi : (P.info? E).map (fun i => (i.zero, i.size, i.bytes)) = some (some (.int .u8 0), 1, 1))
    (base g off n cap : Nat) (bs : List UInt8) (hS : SlAt w E base g off cap bs) (hn : bs.length = n) (hs : a.eval s = .slice (some ⟨g, off, none⟩) n cap) (hb : n ≤ 1000000000000)
    (ad : Addr) (c : Nat) (b : UInt8) (hx : a.eval x = .slice (some ad) 1 c) (hc : w.cell? ad = some (.int .u8 (b.toNat : Int))) (hbase : base ≤ w.heap.size)
    (h : ∀ g' o' cap' w', SlAt w' E base g' o' cap' (bs ++ [b]) → But g w w' → (g' = g ∨ w.heap.size ≤ g') → wpList P ops Q rest (a.put o.dst (.slice (some ⟨g', o', none⟩) (n + 1) cap')) w') :
    wpList P ops Q (o :: rest) a w := by
  subst hn
  obtain ⟨i0, hi0, hz0, hz1, hz2⟩ := info_parts hi
  refine wpList_append_arg w hgd s x t hop E i0 (.int .u8 0) 1 1 ht hi0 hz0 hz1 hz2 rfl (by omega) g off bs.length cap (bVs bs) hs (by simp [bVs_len]) (fun j u hu => ?_)
    ad 1 c [bV b] hx rfl (fun j u hu => ?_) (fun u hu => ?_) (fun hr j hj => ?_) (by simp only [maxLen]; omega) (by omega) (fun hr => ?_) (fun hr v' w' h1 h2 => ?_)
  · have hj : j < bs.length := by
      have := (List.getElem?_eq_some_iff.1 hu).1
      simpa [bVs_len] using this
    rw [bVs_get bs j hj] at hu
    injection hu with hu
    subst hu
    exact hS.cell j hj
  · cases j with
    | zero =>
      simp only [List.getElem?_cons_zero, Option.some.injEq] at hu
      subst hu
      have e1 : ad.add 0 = ad := by unfold Addr.add; split <;> simp_all
      rw [e1]
      exact hc
    | succ j => simp at hu
  · simp only [List.mem_singleton] at hu
    subst hu
    rfl
  · simp only [List.length_singleton] at hj
    obtain rfl : j = 0 := by omega
    have := hS.spare bs.length (by omega)
    simpa using this
  · have e1 : w.setCells g (off + bs.length * 1) [bV b] = w.setCell ⟨g, off + bs.length, none⟩ (bV b) := by rw [Nat.mul_one]; rfl
    rw [e1]
    exact h g off cap _ (hS.snoc b (by omega)) (But.setCell w ⟨g, off + bs.length, none⟩ (bV b)) (.inl rfl)
  · have hown : Own w' E w.heap.size v' (bs ++ [b]) := by
      unfold Own
      rw [List.length_append, bVs_app]
      exact h1
    obtain ⟨A', c', rfl, hr', hg'⟩ := hown.form
    obtain ⟨ad', rfl⟩ := hr'.some_ (i := 0) (by simp)
    obtain ⟨g', rfl, hlt, _⟩ := hg' ad' rfl
    obtain ⟨h3, h4⟩ := SlAt.of_own hown
    rw [h3.symm] at *
    have h5 : SlAt w' E base g' 0 c' (bs ++ [b]) := ⟨Nat.le_trans hbase h4.1, h4.2⟩
    have h6 : (bs ++ [b]).length = bs.length + 1 := by simp
    rw [h6]
    exact h g' 0 c' w' h5 (But.of_grown h2) (.inr hlt)
end Go.Proofs.Ytikfbhepnnbdoaa

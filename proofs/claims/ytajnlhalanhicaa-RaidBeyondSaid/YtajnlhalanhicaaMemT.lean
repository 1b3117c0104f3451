/-
 A row of one-cell elements of the call's own, seen through a slice that begins anywhere: append and reslice.
-/
import Derived.Test.YtajnlhalanhicaaBase
namespace Go.Proofs.Ytajnlhalanhicaa
set_option linter.all false
set_option maxRecDepth 20000
open Go.RowKit
def VlAt (w : World) (E base g o cap : Nat) (vs : List Value) : Prop :=
 base ≤ g ∧ vs.length ≤ cap ∧ cap ≤ maxLen ∧ ∃ cur, w.heap[g]? = some (.cells cur E (0, 0)) ∧ cur.size = o + cap ∧ ∀ i (h : i < vs.length), cur[o + i]? = some vs[i]
section
variable {w w' : World} {E base g o cap : Nat} {vs : List Value}
theorem VlAt.lt (h : VlAt w E base g o cap vs) : g < w.heap.size := by
 obtain ⟨_, _, _, cur, h1, _⟩ := h
 rcases Nat.lt_or_ge g w.heap.size with hlt | hge
 ·exact hlt
 ·rw [Array.getElem?_eq_none hge] at h1; cases h1
theorem VlAt.kept (h : VlAt w E base g o cap vs) (hb : w'.heap[g]? = w.heap[g]?) : VlAt w' E base g o cap vs := by
 obtain ⟨h1, h2, h3, cur, h4, h5⟩ := h
 exact ⟨h1, h2, h3, cur, hb.trans h4, h5⟩
theorem VlAt.cell (h : VlAt w E base g o cap vs) (i : Nat) (hi : i < vs.length) : w.cell? ⟨g, o + i, none⟩ = some vs[i] := by
 obtain ⟨_, _, _, cur, h4, _, h6⟩ := h
 rw [cell_of_row w g (o + i) _ E (0, 0) h4]
 exact h6 i hi
theorem VlAt.spare (h : VlAt w E base g o cap vs) (j : Nat) (hj : j < cap) : (w.cell? ⟨g, o + j, none⟩).isSome = true ∧ w.frozen? ⟨g, o + j, none⟩ = false := by
 obtain ⟨_, _, _, cur, h4, h5, _⟩ := h
 rw [cell_of_row w g (o + j) _ E (0, 0) h4]
 refine ⟨?_, by simp [World.frozen?, h4]⟩
 rw [Array.getElem?_eq_getElem (by omega)]
 rfl
theorem VlAt.snoc (h : VlAt w E base g o cap vs) (b : Value) (hc : vs.length + 1 ≤ cap) : VlAt (w.setCell ⟨g, o + vs.length, none⟩ b) E base g o cap (vs ++ [b]) := by
 obtain ⟨h1, h2, h3, cur, h4, h5, h6⟩ := h
 refine ⟨h1, by simpa using hc, h3, cur.setIfInBounds (o + vs.length) b, ?_, by simpa using h5, fun i hi => ?_⟩
 ·exact heap_setCell_same w g (o + vs.length) cur E b h4
 ·simp only [List.length_append, List.length_singleton] at hi
  rw [Array.getElem?_setIfInBounds]
  by_cases e : i = vs.length
  ·subst e
   rw [if_pos rfl, if_pos (by omega)]
   simp
  ·rw [if_neg (by omega), h6 i (by omega), List.getElem_append_left (by omega)]
theorem VlAt.drop (h : VlAt w E base g o cap vs) (k : Nat) (hk : k ≤ vs.length) : VlAt w E base g (o + k) (cap - k) (vs.drop k) := by
 obtain ⟨h1, h2, h3, cur, h4, h5, h6⟩ := h
 refine ⟨h1, by rw [List.length_drop]; omega, by omega, cur, h4, by omega, fun i hi => ?_⟩
 rw [List.length_drop] at hi
 rw [List.getElem_drop, Nat.add_assoc]
 exact h6 (k + i) (by omega)
end
theorem step_append_vl {P : Program} {ops : Array Oper} {o : Oper} {a : Act} {w : World} {K : Act → World → Prop} {Q : Exit → Act → World → Prop} {X : Prop} (hgd : Region.wanted o (yielded ops a.tmps) = true) (s x : Operand) (t : TypeId)
  (ho : o.op = .call { callee := .builtin .append, args := #[s, x], argTypes := #[t, t] })
  (base E : Nat) (z : Value) (by_ : Nat) (ht : P.underlying t = some (.slice E)) (hi : (P.info? E).map (fun i => (i.zero, i.size, i.bytes)) = some (some z, 1, by_)) (hz : z.cells.size = 1)
  (g off n cap : Nat) (vs : List Value) (hS : VlAt w E base g off cap vs) (hn : vs.length = n) (hs : a.eval s = .slice (some ⟨g, off, none⟩) n cap) (hb : (n + 1) * by_ ≤ 140737488355328) (hb2 : n + 1 ≤ 1000000000000)
  (ad : Addr) (c : Nat) (v : Value) (hx : a.eval x = .slice (some ad) 1 c) (hc : w.cell? ad = some v) (hv : v.oneCell' = true) (hbase : base ≤ w.heap.size)
  (h : ∀ g' o' cap' w', VlAt w' E base g' o' cap' (vs ++ [v]) → But g w w' → (g' = g ∨ w.heap.size ≤ g') → K (a.put o.dst (.slice (some ⟨g', o', none⟩) (n + 1) cap')) w') :
  if Region.wanted o (yielded ops a.tmps) = true then Oper.wp P o a w K Q else X := by
 rw [if_pos hgd]
 subst hn
 obtain ⟨i0, hi0, hz0, hz1, hz2⟩ := info_parts hi
 have hc' : ∀ j u, [v][j]? = some u → w.cell? (ad.add j) = some u := by
  intro j u hu
  cases j with
  | zero =>
   simp only [List.getElem?_cons_zero, Option.some.injEq] at hu
   subst hu
   have e1 : ad.add 0 = ad := by unfold Addr.add; split <;> simp_all
   rw [e1]
   exact hc
  | succ j => simp at hu
 have h1c : ∀ u ∈ [v], u.oneCell' = true := fun u hu => by
  simp only [List.mem_singleton] at hu
  subst hu
  exact hv
 by_cases hr : vs.length + 1 ≤ cap
 ·have hrun := run_append_room_cells (P := P) w t o.type E i0 ht hi0 g off vs.length cap ad 1 c [v] (by simp [hz1]) hc' h1c hr
   (fun j hj => by
    simp only [List.length_singleton] at hj
    obtain rfl : j = 0 := by omega
    have := hS.spare vs.length (by omega)
    rw [hz1]
    simpa using this.1)
   (fun j hj => by
    simp only [List.length_singleton] at hj
    obtain rfl : j = 0 := by omega
    have := hS.spare vs.length (by omega)
    rw [hz1]
    simpa using this.2)
  unfold Oper.wp
  simp [execOp, ho, resolve, invoke, builtin, hs, hx, hrun, Result.andThen]
  have e1 : w.setCells g (off + vs.length * i0.size) [v] = w.setCell ⟨g, off + vs.length, none⟩ v := by rw [hz1, Nat.mul_one]; rfl
  rw [e1]
  exact h g off cap _ (hS.snoc v hr) (But.setCell w ⟨g, off + vs.length, none⟩ v) (.inl rfl)
 ·obtain ⟨v', w', hrun, r1, r2⟩ := run_append_arg_grows (P := P) w t o.type E i0 z 1 by_ ht hi0 hz0 hz1 hz2 hz (by omega) ⟨g, off, none⟩ vs.length cap vs (by simp) (fun j u hu => by
    have hj : j < vs.length := (List.getElem?_eq_some_iff.1 hu).1
    rw [Addr.add_lit]
    rw [List.getElem?_eq_getElem hj] at hu
    injection hu with hu
    subst hu
    exact hS.cell j hj) ad 1 c [v] rfl hc' (by omega) (by simp only [maxLen]; omega) hb
  unfold Oper.wp
  simp [execOp, ho, resolve, invoke, builtin, hs, hx, hrun, Result.andThen]
  rcases r1.2 with ⟨h0, _⟩ | ⟨g', cap', cur, hv', hbg, hg, hnc, hcm, hcs, htake⟩
  ·omega
  ·subst hv'
   refine h g' 0 cap' w' ⟨Nat.le_trans hbase hbg, by simpa using hnc, hcm, cur, hg, by simpa using hcs, fun i hi => ?_⟩ (But.of_grown r2) (.inr hbg)
   have e := congrArg (fun l => l[i]?) htake
   have hi' : i < vs.length + 1 := by simpa using hi
   simp only [List.getElem?_take, Nat.mul_one, hi', if_true, Array.getElem?_toList] at e
   rw [Nat.zero_add, e]
   exact List.getElem?_eq_getElem hi
end Go.Proofs.Ytajnlhalanhicaa

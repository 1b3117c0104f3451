/-
  Slices of one-cell elements in memory, whatever they are: what they read as, which rows the call itself owns, append.
-/
import Derived.Test.YtikfbhepnnbdoaaMem
namespace Go.Proofs.Ytikfbhepnnbdoaa
set_option linter.all false
open Go.RowKit

/-- the slice with address A reads as the values vs -/
def RdV (w : World) (A : Option Addr) (vs : List Value) : Prop :=
  vs.length ≤ 9223372036854775807 ∧ (A = none → vs = []) ∧ ∀ ad, A = some ad → ∀ i (h : i < vs.length), w.cell? (ad.add i) = some vs[i]
theorem RdV.nil (w : World) : RdV w none [] := ⟨by simp, fun _ => rfl, fun _ h => by cases h⟩
theorem RdV.le {w : World} {A : Option Addr} {vs : List Value} (h : RdV w A vs) : vs.length ≤ 9223372036854775807 := h.1
theorem RdV.cell {w : World} {ad : Addr} {vs : List Value} (h : RdV w (some ad) vs) (i : Nat) (hi : i < vs.length) : w.cell? (ad.add i) = some vs[i] := h.2.2 ad rfl i hi
theorem RdV.some_ {w : World} {A : Option Addr} {vs : List Value} (h : RdV w A vs) {i : Nat} (hi : i < vs.length) : ∃ ad, A = some ad := by
  cases A with
  | none => have := h.2.1 rfl; subst this; simp at hi
  | some ad => exact ⟨ad, rfl⟩
theorem RdV.below {w w' : World} {A : Option Addr} {vs : List Value} (h : RdV w A vs) (hb : Below w.heap.size w w') : RdV w' A vs :=
  ⟨h.1, h.2.1, fun ad e i hi => (hb.cell (World.block_lt_of_cell? w _ (h.2.2 ad e i hi))).trans (h.2.2 ad e i hi)⟩
theorem RdV.drew {w : World} {A : Option Addr} {vs : List Value} (h : RdV w A vs) : RdV w.drew A vs := h

def OwnV (w : World) (E base : Nat) (v : Value) (vs : List Value) : Prop := w.ownsRow base E 1 v vs.length vs
theorem ownV_nil (w : World) (E base : Nat) : OwnV w E base (.slice none 0 0) [] := World.ownsRow_nil _ _ _ _
theorem OwnV.form {w : World} {E base : Nat} {v : Value} {vs : List Value} (h : OwnV w E base v vs) :
    ∃ A c, v = .slice A vs.length c ∧ RdV w A vs ∧ (∀ ad, A = some ad → ∃ g, ad = ⟨g, 0, none⟩ ∧ base ≤ g ∧ g < w.heap.size) := by
  rcases h.2 with ⟨rfl, h0⟩ | ⟨g, cap, cur, rfl, hbg, hg, hnc, hcm, hcs, htk⟩
  · have e : vs = [] := List.eq_nil_of_length_eq_zero h0
    subst e
    exact ⟨none, 0, rfl, RdV.nil w, fun _ e => by cases e⟩
  · refine ⟨some ⟨g, 0, none⟩, cap, rfl, ⟨by simp only [maxLen] at hcm; omega, (fun e => by cases e), ?_⟩, ?_⟩
    · intro ad e i hi
      injection e with e
      subst e
      exact World.ownsRow.cells h rfl i _ (List.getElem?_eq_getElem hi)
    · intro ad e
      injection e with e
      subst e
      exact ⟨g, rfl, hbg, (World.ownsRow.lt h g rfl).2⟩
theorem OwnV.rd {w : World} {E base n c : Nat} {A : Option Addr} {vs : List Value} (h : OwnV w E base (.slice A n c) vs) : RdV w A vs := by
  obtain ⟨A', c', hv, hr, _⟩ := h.form
  injection hv with h1
  subst h1
  exact hr
theorem OwnV.below {w w' : World} {E base : Nat} {v : Value} {vs : List Value} (h : OwnV w E base v vs) (hb : Below w.heap.size w w') : OwnV w' E base v vs :=
  World.ownsRow.kept (row := none) h ⟨hb.os, hb.tape, hb.output, hb.size, fun k hk _ => hb.block k hk⟩ (by
    rcases h.2 with ⟨rfl, _⟩ | ⟨g, cap, cur, rfl, _⟩
    · exact .inl rfl
    · exact .inr (by simp [Value.ownBlock]))
theorem OwnV.alloc {w : World} {E base : Nat} {v : Value} {vs : List Value} (h : OwnV w E base v vs) (o : Obj) : OwnV (w.alloc o) E base v vs := h.below ((Below.refl _ _).alloc (Nat.le_refl _) _)
theorem OwnV.drew {w : World} {E base : Nat} {v : Value} {vs : List Value} (h : OwnV w E base v vs) : OwnV w.drew E base v vs := h
theorem OwnV.grow {w w' : World} {E base : Nat} {v : Value} {vs : List Value} (h : OwnV w E base v vs) (hg : w.grownBy w' v.ownBlock) (hb : base ≤ w.heap.size) : Below base w w' :=
  (Below.refl base w).grown hg hb fun k hk => (World.ownsRow.lt h k hk).1
theorem OwnV.some_ {w : World} {E base n c : Nat} {A : Option Addr} {vs : List Value} (h : OwnV w E base (.slice A n c) vs) {i : Nat} (hi : i < vs.length) :
    n = vs.length ∧ ∃ g, A = some ⟨g, 0, none⟩ ∧ base ≤ g ∧ g < w.heap.size := by
  obtain ⟨A', c', hv, hr, hs⟩ := h.form
  injection hv with h1 h2 h3
  subst h1 h2
  refine ⟨rfl, ?_⟩
  obtain ⟨ad, rfl⟩ := hr.some_ hi
  obtain ⟨g, rfl, h1, h2⟩ := hs ad rfl
  exact ⟨g, rfl, h1, h2⟩
theorem OwnV.set {w : World} {E base g c : Nat} {vs : List Value} (h : OwnV w E base (.slice (some ⟨g, 0, none⟩) vs.length c) vs) (i : Nat) (u : Value) :
    OwnV (w.setCell ⟨g, i, none⟩ u) E base (.slice (some ⟨g, 0, none⟩) (vs.set i u).length c) (vs.set i u) := by
  have := (World.ownsRow.stored h i u).1
  unfold OwnV
  rw [List.length_set]
  exact this
theorem OwnV.cellG {w : World} {E base g c : Nat} {vs : List Value} (h : OwnV w E base (.slice (some ⟨g, 0, none⟩) vs.length c) vs) (i : Nat) (hi : i < vs.length) :
    w.cell? ⟨g, i, none⟩ = some vs[i] := by
  rw [World.ownsRow.cellAt h i (by omega), List.getElem?_eq_getElem hi]
theorem OwnV.frozenG {w : World} {E base g c : Nat} {vs : List Value} (h : OwnV w E base (.slice (some ⟨g, 0, none⟩) vs.length c) vs) (i : Nat) :
    w.frozen? ⟨g, i, none⟩ = false := World.ownsRow.frozenAt h i
theorem OwnV.len {w : World} {E base n c : Nat} {A : Option Addr} {vs : List Value} (h : OwnV w E base (.slice A n c) vs) : n = vs.length := by
  obtain ⟨A', c', hv, _⟩ := h.form
  injection hv
theorem OwnV.cellN {w : World} {E base g n c : Nat} {vs : List Value} (h : OwnV w E base (.slice (some ⟨g, 0, none⟩) n c) vs) (i : Nat) (hi : i < vs.length) : w.cell? ⟨g, i, none⟩ = some vs[i] := by
  have e := h.len
  subst e
  exact h.cellG i hi
theorem OwnV.frozenN {w : World} {E base g n c : Nat} {vs : List Value} (h : OwnV w E base (.slice (some ⟨g, 0, none⟩) n c) vs) (i : Nat) : w.frozen? ⟨g, i, none⟩ = false := by
  have e := h.len
  subst e
  exact h.frozenG i
theorem OwnV.setN {w : World} {E base g n c : Nat} {vs : List Value} (h : OwnV w E base (.slice (some ⟨g, 0, none⟩) n c) vs) (i : Nat) (u : Value) :
    OwnV (w.setCell ⟨g, i, none⟩ u) E base (.slice (some ⟨g, 0, none⟩) n c) (vs.set i u) := by
  have e := h.len
  subst e
  have := h.set i u
  rw [List.length_set] at this
  exact this
theorem OwnV.lit (w : World) (E : Nat) (vs : List Value) (n : Nat) (hn : vs.length = n) (hm : n ≤ 9223372036854775807) :
    OwnV (w.alloc (.cells vs.toArray E)) E w.heap.size (.slice (some ⟨w.heap.size, 0, none⟩) n n) vs := by
  subst hn
  exact ⟨by rw [Nat.mul_one], .inr ⟨w.heap.size, vs.length, vs.toArray, rfl, Nat.le_refl _, heap_alloc_new w _, Nat.le_refl _, by simp only [maxLen]; omega, by simp, by simp [List.take_of_length_le]⟩⟩
theorem RdV.lit (w : World) (E : Nat) (vs : List Value) (hm : vs.length ≤ 9223372036854775807) : RdV (w.alloc (.cells vs.toArray E)) (some ⟨w.heap.size, 0, none⟩) vs := (OwnV.lit w E vs _ rfl hm).rd

section
variable {P : Program}
theorem run_append_v (w : World) (base t ty e : Nat) (z : Value) (by_ : Nat) (ht : P.underlying t = some (.slice e)) (hi : (P.info? e).map (fun i => (i.zero, i.size, i.bytes)) = some (some z, 1, by_)) (hz : z.cells.size = 1)
    (v : Value) (vs us : List Value) (A : Option Addr) (m c : Nat) (hown : OwnV w e base v vs) (hr : RdV w A us) (hu : ∀ u ∈ us, u.oneCell' = true) (hm : us.length = m) (hl : vs.length + m ≤ maxLen) (hb : (vs.length + m) * by_ ≤ 140737488355328) (hbase : base ≤ w.heap.size) :
    ∃ v' w', (Builtin.append_ #[t, t] ty #[v, .slice A m c]).run P w = .ok v' w' ∧ OwnV w' e base v' (vs ++ us) ∧ w.grownBy w' v.ownBlock := by
  subst hm
  obtain ⟨i0, hi0, hz0, hz1, hz2⟩ := info_parts hi
  cases A with
  | none =>
    have e0 : us = [] := hr.2.1 rfl
    subst e0
    refine ⟨v, w, ?_, by simpa using hown, World.grownBy.refl w _⟩
    rcases hown.2 with ⟨rfl, h0⟩ | ⟨g, cap, cur, rfl, _, _, hnc, _⟩
    · simp [Builtin.append_, run_underlying ht, sizeOf, typeInfo, hi0, Builtin.lenOf, Builtin.firstCells]
    · simp [Builtin.append_, run_underlying ht, sizeOf, typeInfo, hi0, Builtin.lenOf, Builtin.firstCells, hnc, storeCells]
  | some ad =>
    obtain ⟨v', w', h1, h2, h3, _⟩ := run_append_own (P := P) w base t ty e i0 z 1 by_ ht hi0 hz0 hz1 hz2 hz (by omega) v vs.length vs hown ad us.length c us (by omega)
      (fun j u hu => by
        have hj : j < us.length := (List.getElem?_eq_some_iff.1 hu).1
        rw [List.getElem?_eq_getElem hj] at hu
        injection hu with hu
        subst hu
        exact hr.cell j hj)
      hu hl hb hbase
    refine ⟨v', w', h1, ?_, h3⟩
    unfold OwnV
    rw [List.length_append]
    exact h2

theorem wp_append_v {o : Oper} {a : Act} {w : World} {K : Act → World → Prop} {Q : Exit → Act → World → Prop} (s x : Operand) (t : TypeId)
    (ho : o.op = .call { callee := .builtin .append, args := #[s, x], argTypes := #[t, t] })
    (base e : Nat) (z : Value) (by_ : Nat) (ht : P.underlying t = some (.slice e)) (hi : (P.info? e).map (fun i => (i.zero, i.size, i.bytes)) = some (some z, 1, by_)) (hz : z.cells.size = 1)
    (v : Value) (vs us : List Value) (A : Option Addr) (m c : Nat) (hs : a.eval s = v) (hx : a.eval x = .slice A m c) (hown : OwnV w e base v vs) (hr : RdV w A us) (hu : ∀ u ∈ us, u.oneCell' = true) (hm : us.length = m) (hl : vs.length + m ≤ maxLen) (hb : (vs.length + m) * by_ ≤ 140737488355328) (hbase : base ≤ w.heap.size)
    (h : ∀ v' w', OwnV w' e base v' (vs ++ us) → w.grownBy w' v.ownBlock → Below base w w' → K (a.put o.dst v') w') : o.wp P a w K Q := by
  obtain ⟨v', w', hrun, h2, h3⟩ := run_append_v (P := P) w base t o.type e z by_ ht hi hz v vs us A m c hown hr hu hm hl hb hbase
  unfold Oper.wp execOp
  simp only [ho, resolve, invoke, builtin, Sem.run_bind, Sem.run_pure, Result.andThen_ok, List.map_toArray, List.map_cons, List.map_nil, hs, hx, hrun]
  exact h v' w' h2 h3 (hown.grow h3 hbase)

theorem wpList_append_v {ops : Array Oper} {rest : List Oper} {o : Oper} {a : Act} {w : World} {Q : Exit → Act → World → Prop} (hgd : Region.wanted o (yielded ops a.tmps) = true) (s x : Operand) (t : TypeId)
    (ho : o.op = .call { callee := .builtin .append, args := #[s, x], argTypes := #[t, t] })
    (base e : Nat) (z : Value) (by_ : Nat) (ht : P.underlying t = some (.slice e)) (hi : (P.info? e).map (fun i => (i.zero, i.size, i.bytes)) = some (some z, 1, by_)) (hz : z.cells.size = 1)
    (v : Value) (vs us : List Value) (A : Option Addr) (m c : Nat) (hs : a.eval s = v) (hx : a.eval x = .slice A m c) (hown : OwnV w e base v vs) (hr : RdV w A us) (hu : ∀ u ∈ us, u.oneCell' = true) (hm : us.length = m) (hl : vs.length + m ≤ maxLen) (hb : (vs.length + m) * by_ ≤ 140737488355328) (hbase : base ≤ w.heap.size)
    (h : ∀ v' w', OwnV w' e base v' (vs ++ us) → w.grownBy w' v.ownBlock → Below base w w' → wpList P ops Q rest (a.put o.dst v') w') : wpList P ops Q (o :: rest) a w :=
  wpList_step fun K hK => by
    rw [if_pos hgd]
    exact wp_append_v s x t ho base e z by_ ht hi hz v vs us A m c hs hx hown hr hu hm hl hb hbase fun v' w' h2 h3 h4 => hK _ _ (h v' w' h2 h3 h4)

theorem step_append_v {ops : Array Oper} {o : Oper} {a : Act} {w : World} {K : Act → World → Prop} {Q : Exit → Act → World → Prop} {X : Prop} (hgd : Region.wanted o (yielded ops a.tmps) = true) (s x : Operand) (t : TypeId)
    (ho : o.op = .call { callee := .builtin .append, args := #[s, x], argTypes := #[t, t] })
    (base e : Nat) (z : Value) (by_ : Nat) (ht : P.underlying t = some (.slice e)) (hi : (P.info? e).map (fun i => (i.zero, i.size, i.bytes)) = some (some z, 1, by_)) (hz : z.cells.size = 1)
    (v : Value) (vs us : List Value) (A : Option Addr) (m c : Nat) (hs : a.eval s = v) (hx : a.eval x = .slice A m c) (hown : OwnV w e base v vs) (hr : RdV w A us) (hu : ∀ u ∈ us, u.oneCell' = true) (hm : us.length = m) (hl : vs.length + m ≤ maxLen) (hb : (vs.length + m) * by_ ≤ 140737488355328) (hbase : base ≤ w.heap.size)
    (h : ∀ v' w', OwnV w' e base v' (vs ++ us) → w.grownBy w' v.ownBlock → Below base w w' → K (a.put o.dst v') w') :
    if Region.wanted o (yielded ops a.tmps) = true then Oper.wp P o a w K Q else X := by
  rw [if_pos hgd]
  exact wp_append_v s x t ho base e z by_ ht hi hz v vs us A m c hs hx hown hr hu hm hl hb hbase h
end

end Go.Proofs.Ytikfbhepnnbdoaa

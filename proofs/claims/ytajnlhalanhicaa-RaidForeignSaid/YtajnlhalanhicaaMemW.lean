/-
 Append in place, onto a row of bytes known whole.
-/
import Derived.Test.YtajnlhalanhicaaBase
namespace Go.Proofs.Ytajnlhalanhicaa
set_option linter.all false
set_option maxRecDepth 20000
open Go.RowKit
section
variable {P : Program}
theorem run_append_in_rd (w : World) (t ty e : TypeId) (ht : P.underlying t = some (.slice e)) (hi : (P.info? e).map (fun i => (i.zero, i.size, i.bytes)) = some (some (.int .u8 0), 1, 1))
  (g n cap : Nat) (full cs : List UInt8) (A : Option Addr) (m c : Nat) (hg : RowB w g e full) (hr : Rd w A cs) (hm : cs.length = m) (hc : full.length = cap) (hfit : n + m ≤ cap) :
  (Builtin.append_ #[t, t] ty #[.slice (some ⟨g, 0, none⟩) n cap, .slice A m c]).run P w = .ok (.slice (some ⟨g, 0, none⟩) (n + m) cap) (w.setRow g (bVs (putB full n cs)).toArray) := by
 subst hm hc
 obtain ⟨i0, hi0, hz0, hz1, hz2⟩ := info_parts hi
 have hst := run_storeCells_at P g n e (bVs cs) 0 (bVs full).toArray w hg (by simp [bVs_len]; omega) (bVs_one cs)
 have hput := bVs_put full cs n
 simp only [Nat.add_zero] at hst
 rw [hput] at hst
 have hfc : (Builtin.firstCells 1 cs.length (.slice A cs.length c)).run P w = .ok (bVs cs).toArray w := by
  cases A with
  | none =>
   have e0 : cs = [] := hr.2.1 rfl
   subst e0
   simp [Builtin.firstCells, bVs]
  | some ad =>
   exact run_firstCells_some (P := P) w 1 cs.length ad cs.length c (bVs cs) (by simp [bVs_len]) fun j u hu => by
    have hj : j < cs.length := by
     have := (List.getElem?_eq_some_iff.1 hu).1
     simpa [bVs_len] using this
    rw [bVs_get cs j hj] at hu
    injection hu with hu
    subst hu
    exact hr.cell j hj
 simp [Builtin.append_, run_underlying ht, sizeOf, typeInfo, hi0, hz1, Builtin.lenOf, hfit, hfc, Addr.add_lit, hst]
theorem run_append_in_str (w : World) (t tx ty e : TypeId) (ht : P.underlying t = some (.slice e)) (hx : P.underlying tx = some .string) (hi : (P.info? e).map (fun i => (i.zero, i.size, i.bytes)) = some (some (.int .u8 0), 1, 1))
  (g n cap : Nat) (full cs : List UInt8) (hg : RowB w g e full) (hc : full.length = cap) (hfit : n + cs.length ≤ cap) :
  (Builtin.append_ #[t, tx] ty #[.slice (some ⟨g, 0, none⟩) n cap, .string ⟨cs.toArray⟩]).run P w = .ok (.slice (some ⟨g, 0, none⟩) (n + cs.length) cap) (w.setRow g (bVs (putB full n cs)).toArray) := by
 subst hc
 obtain ⟨i0, hi0, hz0, hz1, hz2⟩ := info_parts hi
 have hsz : (⟨cs.toArray⟩ : ByteArray).size = cs.length := by simp [ByteArray.size]
 have hst := run_storeCells_at P g n e (bVs cs) 0 (bVs full).toArray w hg (by simp [bVs_len]; omega) (bVs_one cs)
 have hput := bVs_put full cs n
 simp only [Nat.add_zero] at hst
 rw [hput] at hst
 have hex : List.take cs.length (List.map (fun b : UInt8 => Value.int .u8 (b.toNat : Int)) cs) = bVs cs := by
  rw [List.take_of_length_le (by simp)]
  rfl
 simp [Builtin.append_, run_underlying ht, run_underlying hx, sizeOf, typeInfo, hi0, hz1, Builtin.lenOf, Builtin.firstCells, hsz, hfit, hex, Addr.add_lit, hst, Result.andThen_ok]
theorem run_append_in_zeros (w : World) (t tx ty e : TypeId) (k : IntKind) (ht : P.underlying t = some (.slice e)) (hx : P.underlying tx = some (.int k)) (hi : (P.info? e).map (fun i => (i.zero, i.size, i.bytes)) = some (some (.int .u8 0), 1, 1))
  (g n m cap : Nat) (full : List UInt8) (hg : RowB w g e full) (hc : full.length = cap) (hfit : n + m ≤ cap) (hm : m ≤ 140737488355328) (hm1 : 0 < m) :
  (Builtin.append_ #[t, tx] ty #[.slice (some ⟨g, 0, none⟩) n cap, .int .i64 (m : Int)]).run P w = .ok (.slice (some ⟨g, 0, none⟩) (n + m) cap) (w.setRow g (bVs (putB full n (List.replicate m 0))).toArray) := by
 subst hc
 obtain ⟨i0, hi0, hz0, hz1, hz2⟩ := info_parts hi
 have hst := run_storeCells_at P g n e (bVs (List.replicate m 0)) 0 (bVs full).toArray w hg (by simp [bVs_len]; omega) (bVs_one _)
 have hput := bVs_put full (List.replicate m 0) n
 simp only [Nat.add_zero] at hst
 rw [hput] at hst
 have hw : IntKind.i64.wrap (m : Int) = m := IntWalk.i64_in _ (by omega)
 have hzc : Builtin.zeroCells #[.int .u8 0] m = (bVs (List.replicate m 0)).toArray := by
  apply Array.ext_getElem?
  intro i
  unfold Builtin.zeroCells
  have e1 : (#[Value.int .u8 0] : Array Value).size = 1 := rfl
  rw [e1, Nat.mul_one]
  by_cases h : i < m
  ·rw [Array.getElem?_map, Array.getElem?_range, if_pos h]
   have e2 : i % 1 = 0 := Nat.mod_one i
   simp only [Option.map_some, e2]
   have := bVs_get (List.replicate m 0) i (by simpa using h)
   simp at this
   simp [this]
  ·rw [Array.getElem?_eq_none (by simp; omega), Array.getElem?_eq_none (by simp [bVs_len]; omega)]
 have h1 : ¬ ((m : Int) < 0) := by omega
 have h2 : ¬ (281474976710656 < (m : Int)) := by omega
 have ha : (asIntOf (Value.int .i64 (m : Int))).run P w = .ok (.i64, (m : Int)) w := rfl
 have h3 : ¬ ((m : Int) ≤ 0) := by omega
 have hm0 : m ≠ 0 := by omega
 simp [Builtin.append_, run_underlying ht, run_underlying hx, sizeOf, typeInfo, hi0, hz0, hz1, hz2, Builtin.lenOf, hfit, hw, Addr.add_lit, hst, Result.andThen_ok, asInt, zeroValue, hzc, h1, h2, h3, ha, Value.cells, hm0]
theorem ex_append_in_rd (w : World) (t ty e : TypeId) (ht : P.underlying t = some (.slice e)) (hi : (P.info? e).map (fun i => (i.zero, i.size, i.bytes)) = some (some (.int .u8 0), 1, 1))
  (g n cap : Nat) (full cs : List UInt8) (A : Option Addr) (m c : Nat) (hg : RowB w g e full) (hr : Rd w A cs) (hm : cs.length = m) (hc : full.length = cap) (hfit : n + m ≤ cap) (B : Nat) (hBg : B ≤ g) :
  ∃ w', (Builtin.append_ #[t, t] ty #[.slice (some ⟨g, 0, none⟩) n cap, .slice A m c]).run P w = .ok (.slice (some ⟨g, 0, none⟩) (n + m) cap) w' ∧ RowB w' g e (putB full n cs) ∧ Below B w w' ∧ ∀ k, k ≠ g → w'.heap[k]? = w.heap[k]? :=
 ⟨_, run_append_in_rd w t ty e ht hi g n cap full cs A m c hg hr hm hc hfit, setRow_heap w g _ _ e _ hg, below_put (Below.refl _ _) hBg _, fun k hk => setRow_other w g k _ hk⟩
theorem ex_append_in_str (w : World) (t tx ty e : TypeId) (ht : P.underlying t = some (.slice e)) (hx : P.underlying tx = some .string) (hi : (P.info? e).map (fun i => (i.zero, i.size, i.bytes)) = some (some (.int .u8 0), 1, 1))
  (g n cap : Nat) (full cs : List UInt8) (hg : RowB w g e full) (hc : full.length = cap) (hfit : n + cs.length ≤ cap) (B : Nat) (hBg : B ≤ g) :
  ∃ w', (Builtin.append_ #[t, tx] ty #[.slice (some ⟨g, 0, none⟩) n cap, .string ⟨cs.toArray⟩]).run P w = .ok (.slice (some ⟨g, 0, none⟩) (n + cs.length) cap) w' ∧ RowB w' g e (putB full n cs) ∧ Below B w w' ∧ ∀ k, k ≠ g → w'.heap[k]? = w.heap[k]? :=
 ⟨_, run_append_in_str w t tx ty e ht hx hi g n cap full cs hg hc hfit, setRow_heap w g _ _ e _ hg, below_put (Below.refl _ _) hBg _, fun k hk => setRow_other w g k _ hk⟩
theorem ex_append_in_zeros (w : World) (t tx ty e : TypeId) (k : IntKind) (ht : P.underlying t = some (.slice e)) (hx : P.underlying tx = some (.int k)) (hi : (P.info? e).map (fun i => (i.zero, i.size, i.bytes)) = some (some (.int .u8 0), 1, 1))
  (g n m cap : Nat) (full : List UInt8) (hg : RowB w g e full) (hc : full.length = cap) (hfit : n + m ≤ cap) (hm : m ≤ 140737488355328) (hm1 : 0 < m) (B : Nat) (hBg : B ≤ g) :
  ∃ w', (Builtin.append_ #[t, tx] ty #[.slice (some ⟨g, 0, none⟩) n cap, .int .i64 (m : Int)]).run P w = .ok (.slice (some ⟨g, 0, none⟩) (n + m) cap) w' ∧ RowB w' g e (putB full n (List.replicate m 0)) ∧ Below B w w' ∧ ∀ k, k ≠ g → w'.heap[k]? = w.heap[k]? :=
 ⟨_, run_append_in_zeros w t tx ty e k ht hx hi g n m cap full hg hc hfit hm hm1, setRow_heap w g _ _ e _ hg, below_put (Below.refl _ _) hBg _, fun k hk => setRow_other w g k _ hk⟩
theorem wpList_append_run {ops : Array Oper} {rest : List Oper} {o : Oper} {a : Act} {w : World} {Q : Exit → Act → World → Prop} (hgd : o.guard = none) (s x : Operand) (ts : Array TypeId)
  (ho : o.op = .call { callee := .builtin .append, args := #[s, x], argTypes := ts }) {vs vx v : Value} {w' : World} (hrun : (Builtin.append_ ts o.type #[vs, vx]).run P w = .ok v w') (hs : a.eval s = vs) (hx : a.eval x = vx)
  (h : wpList P ops Q rest (a.put o.dst v) w') : wpList P ops Q (o :: rest) a w :=
 wpList_plain hgd fun K hK => by
  unfold Oper.wp execOp
  simp only [ho, resolve, invoke, builtin, Sem.run_bind, Sem.run_pure, Result.andThen_ok, List.map_toArray, List.map_cons, List.map_nil, hs, hx, hrun]
  exact hK _ _ h
def set3 (w : World) (g : Nat) (v0 v1 v2 : Value) : World := ((w.setCell ⟨g, 0, none⟩ v0).setCell ⟨g, 1, none⟩ v1).setCell ⟨g, 2, none⟩ v2
theorem set3_row (w : World) (g t : Nat) (u0 u1 u2 v0 v1 v2 : Value) (h : w.heap[g]? = some (.cells #[u0, u1, u2] t)) : (set3 w g v0 v1 v2).heap[g]? = some (.cells #[v0, v1, v2] t) := by
 unfold set3
 have h0 : (w.setCell ⟨g, 0, none⟩ v0).heap[g]? = some (.cells #[v0, u1, u2] t) := (heap_setCell_same w g 0 _ t v0 h).trans (by rfl)
 have h1 : ((w.setCell ⟨g, 0, none⟩ v0).setCell ⟨g, 1, none⟩ v1).heap[g]? = some (.cells #[v0, v1, u2] t) := (heap_setCell_same (w.setCell ⟨g, 0, none⟩ v0) g 1 _ t v1 h0).trans (by rfl)
 exact (heap_setCell_same ((w.setCell ⟨g, 0, none⟩ v0).setCell ⟨g, 1, none⟩ v1) g 2 _ t v2 h1).trans (by rfl)
theorem set3_below {B g : Nat} {w0 w : World} (h : Below B w0 w) (hg : B ≤ g) (v0 v1 v2 : Value) : Below B w0 (set3 w g v0 v1 v2) := by
 unfold set3
 exact ((h.setCell (p := ⟨g, 0, none⟩) hg v0).setCell (p := ⟨g, 1, none⟩) hg v1).setCell (p := ⟨g, 2, none⟩) hg v2
theorem set3_other (w : World) (g k : Nat) (v0 v1 v2 : Value) (h : k ≠ g) : (set3 w g v0 v1 v2).heap[k]? = w.heap[k]? := by
 unfold set3
 rw [heap_setCell_other _ ⟨g, 2, none⟩ k _ h, heap_setCell_other _ ⟨g, 1, none⟩ k _ h, heap_setCell_other _ ⟨g, 0, none⟩ k _ h]
theorem row3_cells (w : World) (g t : Nat) (u0 u1 u2 : Value) (h : w.heap[g]? = some (.cells #[u0, u1, u2] t)) :
  w.cell? ⟨g, 0, none⟩ = some u0 ∧ w.cell? ⟨g, 1, none⟩ = some u1 ∧ w.cell? ⟨g, 2, none⟩ = some u2 ∧ ∀ j, w.frozen? ⟨g, j, none⟩ = false :=
 ⟨cell_of_row w g 0 _ _ _ h, cell_of_row w g 1 _ _ _ h, cell_of_row w g 2 _ _ _ h, fun j => frozen_of_row w g j _ _ h⟩
end
end Go.Proofs.Ytajnlhalanhicaa

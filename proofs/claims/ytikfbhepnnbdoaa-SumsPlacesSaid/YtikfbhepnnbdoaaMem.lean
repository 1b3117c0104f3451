/-
  Slices of bytes in memory: what a slice value reads as, which rows the call itself owns, and the laws of append, of conversions to strings and of copies, said of lists of bytes.
-/
import Derived.WalkKit
import Derived.WalkSpells
import Derived.WalkLawsBesides
import Derived.Lib.Hide
import Derived.Maps.AppendAt
import Derived.BigQuiet
import Derived.Deep.QuietTactic
namespace Go.Proofs.Ytikfbhepnnbdoaa
set_option linter.all false
open Go.RowKit

theorem add_block (a : Addr) (n : Nat) : (a.add n).block = a.block := by unfold Addr.add; split <;> rfl

/-- the value of a byte -/
def bV (b : UInt8) : Value := .int .u8 (b.toNat : Int)
def bVs (bs : List UInt8) : List Value := bs.map bV
theorem bVs_len (bs : List UInt8) : (bVs bs).length = bs.length := by simp [bVs]
theorem bVs_get (bs : List UInt8) (i : Nat) (h : i < bs.length) : (bVs bs)[i]? = some (.int .u8 (bs[i].toNat : Int)) := by
  simp [bVs, bV, h]
theorem bVs_one (bs : List UInt8) : ∀ u ∈ bVs bs, u.oneCell' = true := by
  intro u hu
  simp only [bVs, List.mem_map] at hu
  obtain ⟨b, _, rfl⟩ := hu
  rfl
theorem bVs_app (bs cs : List UInt8) : bVs (bs ++ cs) = bVs bs ++ bVs cs := by simp [bVs]

/-- the slice with address A and so many bytes reads as bs -/
def Rd (w : World) (A : Option Addr) (bs : List UInt8) : Prop :=
  bs.length ≤ 9223372036854775807 ∧ (A = none → bs = []) ∧ ∀ ad, A = some ad → ∀ i (h : i < bs.length), w.cell? (ad.add i) = some (.int .u8 (bs[i].toNat : Int))

theorem Rd.nil (w : World) : Rd w none [] := ⟨by simp, fun _ => rfl, fun _ h => by cases h⟩
theorem Rd.le {w : World} {A : Option Addr} {bs : List UInt8} (h : Rd w A bs) : bs.length ≤ 9223372036854775807 := h.1
theorem Rd.cell {w : World} {ad : Addr} {bs : List UInt8} (h : Rd w (some ad) bs) (i : Nat) (hi : i < bs.length) : w.cell? (ad.add i) = some (.int .u8 (bs[i].toNat : Int)) := h.2.2 ad rfl i hi
theorem Rd.some_ {w : World} {A : Option Addr} {bs : List UInt8} (h : Rd w A bs) {i : Nat} (hi : i < bs.length) : ∃ ad, A = some ad := by
  cases A with
  | none => have := h.2.1 rfl; subst this; simp at hi
  | some ad => exact ⟨ad, rfl⟩

theorem Rd.below {w w' : World} {A : Option Addr} {bs : List UInt8} (h : Rd w A bs) (hb : Below w.heap.size w w') : Rd w' A bs :=
  ⟨h.1, h.2.1, fun ad e i hi => (hb.cell (World.block_lt_of_cell? w _ (h.2.2 ad e i hi))).trans (h.2.2 ad e i hi)⟩
theorem Rd.alloc {w : World} {A : Option Addr} {bs : List UInt8} (h : Rd w A bs) (o : Obj) : Rd (w.alloc o) A bs := h.below ((Below.refl _ _).alloc (Nat.le_refl _) _)
theorem Rd.drewN {w : World} {A : Option Addr} {bs : List UInt8} (h : Rd w A bs) (n : Nat) : Rd (w.drewN n) A bs := h
theorem Rd.drew {w : World} {A : Option Addr} {bs : List UInt8} (h : Rd w A bs) : Rd w.drew A bs := h

theorem below_drewN {B : Nat} {a w : World} (h : Below B a w) (n : Nat) : Below B a (w.drewN n) := ⟨h.os, h.tape, h.output, h.size, h.block⟩
theorem below_to {a b c : World} (h : Below a.heap.size a b) (k : Below b.heap.size b c) : Below a.heap.size a c := h.trans (k.mono h.size)

/-- a row of bytes that the call itself owns -/
def Own (w : World) (E base : Nat) (v : Value) (bs : List UInt8) : Prop := w.ownsRow base E 1 v bs.length (bVs bs)

theorem Own.form {w : World} {E base : Nat} {v : Value} {bs : List UInt8} (h : Own w E base v bs) :
    ∃ A c, v = .slice A bs.length c ∧ Rd w A bs ∧ (∀ ad, A = some ad → ∃ g, ad = ⟨g, 0, none⟩ ∧ base ≤ g ∧ g < w.heap.size) := by
  rcases h.2 with ⟨rfl, h0⟩ | ⟨g, cap, cur, rfl, hbg, hg, hnc, hcm, hcs, htk⟩
  · have e : bs = [] := List.eq_nil_of_length_eq_zero h0
    subst e
    exact ⟨none, 0, rfl, Rd.nil w, fun _ e => by cases e⟩
  · refine ⟨some ⟨g, 0, none⟩, cap, rfl, ⟨by simp only [maxLen] at hcm; omega, (fun e => by cases e), ?_⟩, ?_⟩
    · intro ad e i hi
      injection e with e
      subst e
      exact World.ownsRow.cells h rfl i _ (bVs_get bs i hi)
    · intro ad e
      injection e with e
      subst e
      exact ⟨g, rfl, hbg, (World.ownsRow.lt h g rfl).2⟩

theorem Own.below {w w' : World} {E base : Nat} {v : Value} {bs : List UInt8} (h : Own w E base v bs) (hb : Below w.heap.size w w') : Own w' E base v bs :=
  World.ownsRow.kept (row := none) h ⟨hb.os, hb.tape, hb.output, hb.size, fun k hk _ => hb.block k hk⟩ (by
    rcases h.2 with ⟨rfl, _⟩ | ⟨g, cap, cur, rfl, _⟩
    · exact .inl rfl
    · exact .inr (by simp [Value.ownBlock]))
theorem Own.base_le {w : World} {E base base' : Nat} {v : Value} {bs : List UInt8} (h : Own w E base v bs) (hb : base' ≤ base) : Own w E base' v bs := by
  refine ⟨h.1, ?_⟩
  rcases h.2 with h0 | ⟨g, cap, cur, hv, hbg, r⟩
  · exact .inl h0
  · exact .inr ⟨g, cap, cur, hv, Nat.le_trans hb hbg, r⟩

theorem Own.set {w : World} {E base g c : Nat} {bs : List UInt8} (h : Own w E base (.slice (some ⟨g, 0, none⟩) bs.length c) bs) (i : Nat) (b : UInt8) :
    Own (w.setCell ⟨g, i, none⟩ (.int .u8 (b.toNat : Int))) E base (.slice (some ⟨g, 0, none⟩) (bs.set i b).length c) (bs.set i b) := by
  have := (World.ownsRow.stored h i (.int .u8 (b.toNat : Int))).1
  unfold Own
  rw [List.length_set]
  have e : bVs (bs.set i b) = (bVs bs).set i (.int .u8 (b.toNat : Int)) := by simp [bVs, List.map_set, bV]
  rw [e]
  exact this
theorem Own.cellG {w : World} {E base g c : Nat} {bs : List UInt8} (h : Own w E base (.slice (some ⟨g, 0, none⟩) bs.length c) bs) (i : Nat) (hi : i < bs.length) :
    w.cell? ⟨g, i, none⟩ = some (.int .u8 (bs[i].toNat : Int)) := by
  rw [World.ownsRow.cellAt h i (by omega), bVs_get bs i hi]
theorem Own.cellEx {w : World} {E base g n c : Nat} {bs : List UInt8} (h : Own w E base (.slice (some ⟨g, 0, none⟩) n c) bs) (i : Nat) (hi : i < bs.length) :
    ∃ u, w.cell? ⟨g, i, none⟩ = some u := by
  have hn : n = bs.length := by
    obtain ⟨A', c', hv, _⟩ := h.form
    injection hv
  subst hn
  exact ⟨_, h.cellG i hi⟩
theorem Own.frozenG {w : World} {E base g c : Nat} {bs : List UInt8} (h : Own w E base (.slice (some ⟨g, 0, none⟩) bs.length c) bs) (i : Nat) :
    w.frozen? ⟨g, i, none⟩ = false := World.ownsRow.frozenAt h i
theorem Own.some_ {w : World} {E base n c : Nat} {A : Option Addr} {bs : List UInt8} (h : Own w E base (.slice A n c) bs) {i : Nat} (hi : i < bs.length) :
    n = bs.length ∧ ∃ g, A = some ⟨g, 0, none⟩ ∧ base ≤ g ∧ g < w.heap.size := by
  obtain ⟨A', c', hv, hr, hs⟩ := h.form
  injection hv with h1 h2 h3
  subst h1 h2
  refine ⟨rfl, ?_⟩
  obtain ⟨ad, rfl⟩ := hr.some_ hi
  obtain ⟨g, rfl, h1, h2⟩ := hs ad rfl
  exact ⟨g, rfl, h1, h2⟩

theorem own_nil (w : World) (E base : Nat) : Own w E base (.slice none 0 0) [] := World.ownsRow_nil _ _ _ _
/-- a literal block -/
theorem Own.lit (w : World) (E : Nat) (bs : List UInt8) (n : Nat) (hn : bs.length = n) (hm : n ≤ 9223372036854775807) :
    Own (w.alloc (.cells (bVs bs).toArray E)) E w.heap.size (.slice (some ⟨w.heap.size, 0, none⟩) n n) bs := by
  subst hn
  refine ⟨by rw [bVs_len, Nat.mul_one], .inr ⟨w.heap.size, bs.length, (bVs bs).toArray, rfl, Nat.le_refl _, heap_alloc_new w _, Nat.le_refl _, by simp only [maxLen]; omega, by simp [bVs_len], by simp [bVs_len, List.take_of_length_le]⟩⟩

theorem Rd.lit (w : World) (E : Nat) (bs : List UInt8) (hm : bs.length ≤ 9223372036854775807) : Rd (w.alloc (.cells (bVs bs).toArray E)) (some ⟨w.heap.size, 0, none⟩) bs := by
  obtain ⟨A, c, hv, hr, _⟩ := (Own.lit w E bs bs.length rfl hm).form
  injection hv with h1
  subst h1
  exact hr

theorem Rd.litM (w : World) (E : Nat) (bs : List UInt8) (fr : Nat × Nat) (hm : bs.length ≤ 9223372036854775807) : Rd (w.alloc (.cells (bVs bs).toArray E fr)) (some ⟨w.heap.size, 0, none⟩) bs :=
  ⟨hm, (fun e => by cases e), fun ad e i hi => by
    injection e with e
    subst e
    have e1 : (⟨w.heap.size, 0, none⟩ : Addr).add i = ⟨w.heap.size, i, none⟩ := by unfold Addr.add; split <;> simp_all
    rw [e1, World.cell?_alloc_mark]
    have := bVs_get bs i hi
    simpa using this⟩
theorem Rd.lit2 (w : World) (E : Nat) (bs cs : List UInt8) (hm : bs.length ≤ 9223372036854775807) : Rd ((w.alloc (.cells (bVs cs).toArray E)).alloc (.cells (bVs bs).toArray E)) (some ⟨w.heap.size + 1, 0, none⟩) bs := by
  have h := Rd.lit (w.alloc (.cells (bVs cs).toArray E)) E bs hm
  simpa using h
theorem below_lit {B : Nat} {w w1 : World} (h : Below B w w1) (hB : B ≤ w1.heap.size) (o : Obj) : Below B w (w1.alloc o) := h.alloc hB o
theorem own_lit {w : World} {E base : Nat} {v : Value} {bs : List UInt8} (h : Own w E base v bs) (o : Obj) : Own (w.alloc o) E base v bs := h.below ((Below.refl _ _).alloc (Nat.le_refl _) _)
theorem Own.rd {w : World} {E base n c : Nat} {A : Option Addr} {bs : List UInt8} (h : Own w E base (.slice A n c) bs) : Rd w A bs := by
  obtain ⟨A', c', hv, hr, _⟩ := h.form
  injection hv with h1
  subst h1
  exact hr
theorem Own.grow {w w' : World} {E base : Nat} {v : Value} {bs : List UInt8} (h : Own w E base v bs) (hg : w.grownBy w' v.ownBlock) (hb : base ≤ w.heap.size) : Below base w w' :=
  (Below.refl base w).grown hg hb fun k hk => (World.ownsRow.lt h k hk).1
/-- an empty row, just made -/
theorem Own.none_ (w : World) (E : Nat) : Own (w.alloc (.cells #[] E)) E w.heap.size (.slice (some ⟨w.heap.size, 0, none⟩) 0 0) [] := Own.lit w E [] 0 rfl (by omega)
theorem below_made {w w' : World} {E : Nat} (hg : (w.alloc (.cells #[] E)).grownBy w' (Value.slice (some ⟨w.heap.size, 0, none⟩) 0 0).ownBlock) : Below w.heap.size w w' :=
  ((Below.refl _ _).alloc (Nat.le_refl _) _).grown hg (by simp) (by simp [Value.ownBlock])
/-- the first cell of what is owned -/
theorem Own.first {w : World} {E base n c : Nat} {A : Option Addr} {bs : List UInt8} (h : Own w E base (.slice A n c) bs) (hb : 0 < bs.length) :
    ∃ g, A = some ⟨g, 0, none⟩ ∧ base ≤ g ∧ g < w.heap.size ∧ ∀ i (hi : i < bs.length), w.cell? ⟨g, i, none⟩ = some (.int .u8 (bs[i].toNat : Int)) ∧ w.frozen? ⟨g, i, none⟩ = false := by
  obtain ⟨hn, g, rfl, h1, h2⟩ := h.some_ hb
  subst hn
  exact ⟨g, rfl, h1, h2, fun i hi => ⟨h.cellG i hi, h.frozenG i⟩⟩

section
variable {P : Program}

theorem run_append_rd (w : World) (base t ty e : Nat) (ht : P.underlying t = some (.slice e)) (hi : (P.info? e).map (fun i => (i.zero, i.size, i.bytes)) = some (some (.int .u8 0), 1, 1))
    (v : Value) (bs cs : List UInt8) (A : Option Addr) (m c : Nat) (hown : Own w e base v bs) (hr : Rd w A cs) (hm : cs.length = m) (hb : bs.length + m ≤ 140737488355328) (hbase : base ≤ w.heap.size) :
    ∃ v' w', (Builtin.append_ #[t, t] ty #[v, .slice A m c]).run P w = .ok v' w' ∧ Own w' e base v' (bs ++ cs) ∧ w.grownBy w' v.ownBlock := by
  subst hm
  obtain ⟨i0, hi0, hz0, hz1, hz2⟩ := info_parts hi
  cases A with
  | none =>
    have e0 : cs = [] := hr.2.1 rfl
    subst e0
    refine ⟨v, w, ?_, by simpa using hown, World.grownBy.refl w _⟩
    rcases hown.2 with ⟨rfl, h0⟩ | ⟨g, cap, cur, rfl, _, _, hnc, _⟩
    · simp [Builtin.append_, run_underlying ht, sizeOf, typeInfo, hi0, Builtin.lenOf, Builtin.firstCells]
    · simp [Builtin.append_, run_underlying ht, sizeOf, typeInfo, hi0, Builtin.lenOf, Builtin.firstCells, hnc, storeCells]
  | some ad =>
    obtain ⟨v', w', h1, h2, h3, _⟩ := run_append_own (P := P) w base t ty e i0 (.int .u8 0) 1 1 ht hi0 hz0 hz1 hz2 rfl (by omega) v bs.length (bVs bs) hown ad cs.length c (bVs cs) (by simp [bVs_len])
      (fun j u hu => by
        have hj : j < cs.length := by
          have := (List.getElem?_eq_some_iff.1 hu).1
          simpa [bVs_len] using this
        rw [bVs_get cs j hj] at hu
        injection hu with hu
        subst hu
        exact hr.cell j hj)
      (bVs_one cs) (by simp only [maxLen]; omega) (by omega) hbase
    refine ⟨v', w', h1, ?_, h3⟩
    unfold Own
    rw [List.length_append, bVs_app]
    exact h2

theorem wp_append_rd {o : Oper} {a : Act} {w : World} {K : Act → World → Prop} {Q : Exit → Act → World → Prop} (s x : Operand) (t : TypeId)
    (ho : o.op = .call { callee := .builtin .append, args := #[s, x], argTypes := #[t, t] })
    (base e : Nat) (ht : P.underlying t = some (.slice e)) (hi : (P.info? e).map (fun i => (i.zero, i.size, i.bytes)) = some (some (.int .u8 0), 1, 1))
    (v : Value) (bs cs : List UInt8) (A : Option Addr) (m c : Nat) (hs : a.eval s = v) (hx : a.eval x = .slice A m c) (hown : Own w e base v bs) (hr : Rd w A cs) (hm : cs.length = m) (hb : bs.length + m ≤ 140737488355328) (hbase : base ≤ w.heap.size)
    (h : ∀ v' w', Own w' e base v' (bs ++ cs) → w.grownBy w' v.ownBlock → K (a.put o.dst v') w') : o.wp P a w K Q := by
  obtain ⟨v', w', hrun, h2, h3⟩ := run_append_rd (P := P) w base t o.type e ht hi v bs cs A m c hown hr hm hb hbase
  unfold Oper.wp execOp
  simp only [ho, resolve, invoke, builtin, Sem.run_bind, Sem.run_pure, Result.andThen_ok, List.map_toArray, List.map_cons, List.map_nil, hs, hx, hrun]
  exact h v' w' h2 h3

theorem wpList_append_rd {ops : Array Oper} {rest : List Oper} {o : Oper} {a : Act} {w : World} {Q : Exit → Act → World → Prop} (hgd : Region.wanted o (yielded ops a.tmps) = true) (s x : Operand) (t : TypeId)
    (ho : o.op = .call { callee := .builtin .append, args := #[s, x], argTypes := #[t, t] })
    (base e : Nat) (ht : P.underlying t = some (.slice e)) (hi : (P.info? e).map (fun i => (i.zero, i.size, i.bytes)) = some (some (.int .u8 0), 1, 1))
    (v : Value) (bs cs : List UInt8) (A : Option Addr) (m c : Nat) (hs : a.eval s = v) (hx : a.eval x = .slice A m c) (hown : Own w e base v bs) (hr : Rd w A cs) (hm : cs.length = m) (hb : bs.length + m ≤ 140737488355328) (hbase : base ≤ w.heap.size)
    (h : ∀ v' w', Own w' e base v' (bs ++ cs) → w.grownBy w' v.ownBlock → wpList P ops Q rest (a.put o.dst v') w') : wpList P ops Q (o :: rest) a w :=
  wpList_step fun K hK => by
    rw [if_pos hgd]
    exact wp_append_rd s x t ho base e ht hi v bs cs A m c hs hx hown hr hm hb hbase fun v' w' h2 h3 => hK _ _ (h v' w' h2 h3)

/-- string(b) -/
theorem run_string_rd (w : World) (src dst e : TypeId) (hs : P.underlying src = some (.slice e)) (he : P.underlying e = some (.int .u8)) (hd : P.underlying dst = some .string)
    (A : Option Addr) (n c : Nat) (bs : List UInt8) (hr : Rd w A bs) (hn : bs.length = n) : (convert src dst (.slice A n c)).run P w = .ok (.string ⟨bs.toArray⟩) w := by
  subst hn
  cases A with
  | none =>
    have e0 : bs = [] := hr.2.1 rfl
    subst e0
    exact run_convert_bytes_nil w src e hs he 0 c dst hd
  | some ad => exact run_convert_bytes_back w src dst e ad c bs hs he hd fun j hj => hr.cell j hj

/-- make([]byte, n) -/
theorem run_make_rd (t e : TypeId) (ht : P.underlying t = some (.slice e)) (hi : (P.info? e).map (fun i => (i.zero, i.size, i.bytes)) = some (some (.int .u8 0), 1, 1)) (kl kc : IntKind) (n : Nat) (hn : n ≤ 281474976710656) (w : World) :
    (Instr.makeSlice t (.int kl (n : Int)) (.int kc (n : Int))).run P w = .ok (.slice (some ⟨w.heap.size, 0, none⟩) n n) (w.alloc (.cells (bVs (List.replicate n 0)).toArray e)) := by
  obtain ⟨i0, hi0, hz0, hz1, hz2⟩ := info_parts hi
  have h := run_make (P := P) (w := w) t e i0 (.int .u8 0) ht hi0 hz0 kl kc (n : Int) (n : Int) (by omega) (Int.le_refl _) (by rw [hz2]; omega) (by omega)
  simp only [Int.toNat_natCast, hz1, Nat.mul_one] at h
  rw [h]
  have e1 : madeCells (Value.int IntKind.u8 0).cells n = (bVs (List.replicate n 0)).toArray := by
    apply Array.toList_inj.1
    show (madeCells #[Value.int IntKind.u8 0] n).toList = _
    rw [toList_madeCells_one]
    simp [bVs, bV]
  rw [e1]
theorem Own.made (w : World) (E n : Nat) (hn : n ≤ 281474976710656) : Own (w.alloc (.cells (bVs (List.replicate n 0)).toArray E)) E w.heap.size (.slice (some ⟨w.heap.size, 0, none⟩) n n) (List.replicate n 0) :=
  Own.lit w E _ n (by simp) (by omega)
end

end Go.Proofs.Ytikfbhepnnbdoaa

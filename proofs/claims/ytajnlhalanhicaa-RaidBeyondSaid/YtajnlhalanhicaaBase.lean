/-
 Several texts of this work in one (merge.py): Mem, Math, MathB, MathC, MemV, MemK, MemS, MemA, MemB, MemC, MemO, MemR.
-/
import Derived.WalkKit
import Derived.WalkSpells
import Derived.WalkLawsBesides
import Derived.Lib.Hide
import Derived.Maps.AppendAt
import Derived.BigQuiet
import Derived.Deep.QuietTactic
import Derived.Deep.AppendLies
import Derived.Deep.RegionHeld3
import Derived.RegionTactic
import Derived.Laws.IdiomStrings
import Derived.ArgAppend
import Derived.Laws.ResultCell
namespace Go.Proofs.Ytajnlhalanhicaa
set_option linter.all false
set_option maxRecDepth 20000
section
open Go.RowKit
theorem add_block (a : Addr) (n : Nat) : (a.add n).block = a.block := by unfold Addr.add; split <;> rfl
def bV (b : UInt8) : Value := .int .u8 (b.toNat : Int)
def bVs (bs : List UInt8) : List Value := bs.map bV
theorem bVs_len (bs : List UInt8) : (bVs bs).length = bs.length := by simp [bVs]
theorem bVs_get (bs : List UInt8) (i : Nat) (h : i < bs.length) : (bVs bs)[i]? = some (.int .u8 (bs[i].toNat : Int)) := by
 simp [bVs, bV, h]
theorem bVs_one (bs : List UInt8) : ∀ u ∈ bVs bs, u.oneCell' = true := by
 intro u hu
 simp only [bVs, List.mem_map] at hu
 obtain ⟨b, _, rfl⟩ := hu
 rfl
theorem bVs_app (bs cs : List UInt8) : bVs (bs ++ cs) = bVs bs ++ bVs cs := by simp [bVs]
def Rd (w : World) (A : Option Addr) (bs : List UInt8) : Prop :=
 bs.length ≤ 9223372036854775807 ∧ (A = none → bs = []) ∧ ∀ ad, A = some ad → ∀ i (h : i < bs.length), w.cell? (ad.add i) = some (.int .u8 (bs[i].toNat : Int))
theorem Rd.nil (w : World) : Rd w none [] := ⟨by simp, fun _ => rfl, fun _ h => by cases h⟩
theorem Rd.le {w : World} {A : Option Addr} {bs : List UInt8} (h : Rd w A bs) : bs.length ≤ 9223372036854775807 := h.1
theorem Rd.cell {w : World} {ad : Addr} {bs : List UInt8} (h : Rd w (some ad) bs) (i : Nat) (hi : i < bs.length) : w.cell? (ad.add i) = some (.int .u8 (bs[i].toNat : Int)) := h.2.2 ad rfl i hi
theorem Rd.some_ {w : World} {A : Option Addr} {bs : List UInt8} (h : Rd w A bs) {i : Nat} (hi : i < bs.length) : ∃ ad, A = some ad := by
 cases A with
 | none => have := h.2.1 rfl; subst this; simp at hi
 | some ad => exact ⟨ad, rfl⟩
theorem Rd.below {w w' : World} {A : Option Addr} {bs : List UInt8} (h : Rd w A bs) (hb : Below w.heap.size w w') : Rd w' A bs :=
 ⟨h.1, h.2.1, fun ad e i hi => (hb.cell (World.block_lt_of_cell? w _ (h.2.2 ad e i hi))).trans (h.2.2 ad e i hi)⟩
theorem Rd.alloc {w : World} {A : Option Addr} {bs : List UInt8} (h : Rd w A bs) (o : Obj) : Rd (w.alloc o) A bs := h.below ((Below.refl _ _).alloc (Nat.le_refl _) _)
theorem Rd.drew {w : World} {A : Option Addr} {bs : List UInt8} (h : Rd w A bs) : Rd w.drew A bs := h
theorem below_drewN {B : Nat} {a w : World} (h : Below B a w) (n : Nat) : Below B a (w.drewN n) := ⟨h.os, h.tape, h.output, h.size, h.block⟩
theorem below_to {a b c : World} (h : Below a.heap.size a b) (k : Below b.heap.size b c) : Below a.heap.size a c := h.trans (k.mono h.size)
def Own (w : World) (E base : Nat) (v : Value) (bs : List UInt8) : Prop := w.ownsRow base E 1 v bs.length (bVs bs)
theorem Own.form {w : World} {E base : Nat} {v : Value} {bs : List UInt8} (h : Own w E base v bs) :
  ∃ A c, v = .slice A bs.length c ∧ Rd w A bs ∧ (∀ ad, A = some ad → ∃ g, ad = ⟨g, 0, none⟩ ∧ base ≤ g ∧ g < w.heap.size) := by
 rcases h.2 with ⟨rfl, h0⟩ | ⟨g, cap, cur, rfl, hbg, hg, hnc, hcm, hcs, htk⟩
 ·have e : bs = [] := List.eq_nil_of_length_eq_zero h0
  subst e
  exact ⟨none, 0, rfl, Rd.nil w, fun _ e => by cases e⟩
 ·refine ⟨some ⟨g, 0, none⟩, cap, rfl, ⟨by simp only [maxLen] at hcm; omega, (fun e => by cases e), ?_⟩, ?_⟩
  ·intro ad e i hi
   injection e with e
   subst e
   exact World.ownsRow.cells h rfl i _ (bVs_get bs i hi)
  ·intro ad e
   injection e with e
   subst e
   exact ⟨g, rfl, hbg, (World.ownsRow.lt h g rfl).2⟩
theorem Own.below {w w' : World} {E base : Nat} {v : Value} {bs : List UInt8} (h : Own w E base v bs) (hb : Below w.heap.size w w') : Own w' E base v bs :=
 World.ownsRow.kept (row := none) h ⟨hb.os, hb.tape, hb.output, hb.size, fun k hk _ => hb.block k hk⟩ (by
  rcases h.2 with ⟨rfl, _⟩ | ⟨g, cap, cur, rfl, _⟩
  ·exact .inl rfl
  ·exact .inr (by simp [Value.ownBlock]))
theorem Own.base_le {w : World} {E base base' : Nat} {v : Value} {bs : List UInt8} (h : Own w E base v bs) (hb : base' ≤ base) : Own w E base' v bs := by
 refine ⟨h.1, ?_⟩
 rcases h.2 with h0 | ⟨g, cap, cur, hv, hbg, r⟩
 ·exact .inl h0
 ·exact .inr ⟨g, cap, cur, hv, Nat.le_trans hb hbg, r⟩
theorem Own.set {w : World} {E base g c : Nat} {bs : List UInt8} (h : Own w E base (.slice (some ⟨g, 0, none⟩) bs.length c) bs) (i : Nat) (b : UInt8) :
  Own (w.setCell ⟨g, i, none⟩ (.int .u8 (b.toNat : Int))) E base (.slice (some ⟨g, 0, none⟩) (bs.set i b).length c) (bs.set i b) := by
 have := (World.ownsRow.stored h i (.int .u8 (b.toNat : Int))).1
 unfold Own
 rw [List.length_set]
 have e : bVs (bs.set i b) = (bVs bs).set i (.int .u8 (b.toNat : Int)) := by simp [bVs, List.map_set, bV]
 rw [e]
 exact this
theorem Own.cellG {w : World} {E base g c : Nat} {bs : List UInt8} (h : Own w E base (.slice (some ⟨g, 0, none⟩) bs.length c) bs) (i : Nat) (hi : i < bs.length) :
  w.cell? ⟨g, i, none⟩ = some (.int .u8 (bs[i].toNat : Int)) := by
 rw [World.ownsRow.cellAt h i (by omega), bVs_get bs i hi]
theorem Own.cellEx {w : World} {E base g n c : Nat} {bs : List UInt8} (h : Own w E base (.slice (some ⟨g, 0, none⟩) n c) bs) (i : Nat) (hi : i < bs.length) :
  ∃ u, w.cell? ⟨g, i, none⟩ = some u := by
 have hn : n = bs.length := by
  obtain ⟨A', c', hv, _⟩ := h.form
  injection hv
 subst hn
 exact ⟨_, h.cellG i hi⟩
theorem Own.frozenG {w : World} {E base g c : Nat} {bs : List UInt8} (h : Own w E base (.slice (some ⟨g, 0, none⟩) bs.length c) bs) (i : Nat) :
  w.frozen? ⟨g, i, none⟩ = false := World.ownsRow.frozenAt h i
theorem Own.some_ {w : World} {E base n c : Nat} {A : Option Addr} {bs : List UInt8} (h : Own w E base (.slice A n c) bs) {i : Nat} (hi : i < bs.length) :
  n = bs.length ∧ ∃ g, A = some ⟨g, 0, none⟩ ∧ base ≤ g ∧ g < w.heap.size := by
 obtain ⟨A', c', hv, hr, hs⟩ := h.form
 injection hv with h1 h2 h3
 subst h1 h2
 refine ⟨rfl, ?_⟩
 obtain ⟨ad, rfl⟩ := hr.some_ hi
 obtain ⟨g, rfl, h1, h2⟩ := hs ad rfl
 exact ⟨g, rfl, h1, h2⟩
theorem own_nil (w : World) (E base : Nat) : Own w E base (.slice none 0 0) [] := World.ownsRow_nil _ _ _ _
theorem Own.lit (w : World) (E : Nat) (bs : List UInt8) (n : Nat) (hn : bs.length = n) (hm : n ≤ 9223372036854775807) :
  Own (w.alloc (.cells (bVs bs).toArray E)) E w.heap.size (.slice (some ⟨w.heap.size, 0, none⟩) n n) bs := by
 subst hn
 refine ⟨by rw [bVs_len, Nat.mul_one], .inr ⟨w.heap.size, bs.length, (bVs bs).toArray, rfl, Nat.le_refl _, heap_alloc_new w _, Nat.le_refl _, by simp only [maxLen]; omega, by simp [bVs_len], by simp [bVs_len, List.take_of_length_le]⟩⟩
theorem Rd.lit (w : World) (E : Nat) (bs : List UInt8) (hm : bs.length ≤ 9223372036854775807) : Rd (w.alloc (.cells (bVs bs).toArray E)) (some ⟨w.heap.size, 0, none⟩) bs := by
 obtain ⟨A, c, hv, hr, _⟩ := (Own.lit w E bs bs.length rfl hm).form
 injection hv with h1
 subst h1
 exact hr
theorem Rd.litM (w : World) (E : Nat) (bs : List UInt8) (fr : Nat × Nat) (hm : bs.length ≤ 9223372036854775807) : Rd (w.alloc (.cells (bVs bs).toArray E fr)) (some ⟨w.heap.size, 0, none⟩) bs :=
 ⟨hm, (fun e => by cases e), fun ad e i hi => by
  injection e with e
  subst e
  have e1 : (⟨w.heap.size, 0, none⟩ : Addr).add i = ⟨w.heap.size, i, none⟩ := by unfold Addr.add; split <;> simp_all
  rw [e1, World.cell?_alloc_mark]
  have := bVs_get bs i hi
  simpa using this⟩
theorem own_lit {w : World} {E base : Nat} {v : Value} {bs : List UInt8} (h : Own w E base v bs) (o : Obj) : Own (w.alloc o) E base v bs := h.below ((Below.refl _ _).alloc (Nat.le_refl _) _)
theorem Own.rd {w : World} {E base n c : Nat} {A : Option Addr} {bs : List UInt8} (h : Own w E base (.slice A n c) bs) : Rd w A bs := by
 obtain ⟨A', c', hv, hr, _⟩ := h.form
 injection hv with h1
 subst h1
 exact hr
theorem Own.grow {w w' : World} {E base : Nat} {v : Value} {bs : List UInt8} (h : Own w E base v bs) (hg : w.grownBy w' v.ownBlock) (hb : base ≤ w.heap.size) : Below base w w' :=
 (Below.refl base w).grown hg hb fun k hk => (World.ownsRow.lt h k hk).1
theorem Own.none_ (w : World) (E : Nat) : Own (w.alloc (.cells #[] E)) E w.heap.size (.slice (some ⟨w.heap.size, 0, none⟩) 0 0) [] := Own.lit w E [] 0 rfl (by omega)
theorem Own.first {w : World} {E base n c : Nat} {A : Option Addr} {bs : List UInt8} (h : Own w E base (.slice A n c) bs) (hb : 0 < bs.length) :
  ∃ g, A = some ⟨g, 0, none⟩ ∧ base ≤ g ∧ g < w.heap.size ∧ ∀ i (hi : i < bs.length), w.cell? ⟨g, i, none⟩ = some (.int .u8 (bs[i].toNat : Int)) ∧ w.frozen? ⟨g, i, none⟩ = false := by
 obtain ⟨hn, g, rfl, h1, h2⟩ := h.some_ hb
 subst hn
 exact ⟨g, rfl, h1, h2, fun i hi => ⟨h.cellG i hi, h.frozenG i⟩⟩
section
variable {P : Program}
theorem run_append_rd (w : World) (base t ty e : Nat) (ht : P.underlying t = some (.slice e)) (hi : (P.info? e).map (fun i => (i.zero, i.size, i.bytes)) = some (some (.int .u8 0), 1, 1))
  (v : Value) (bs cs : List UInt8) (A : Option Addr) (m c : Nat) (hown : Own w e base v bs) (hr : Rd w A cs) (hm : cs.length = m) (hb : bs.length + m ≤ 140737488355328) (hbase : base ≤ w.heap.size) :
  ∃ v' w', (Builtin.append_ #[t, t] ty #[v, .slice A m c]).run P w = .ok v' w' ∧ Own w' e base v' (bs ++ cs) ∧ w.grownBy w' v.ownBlock := by
 subst hm
 obtain ⟨i0, hi0, hz0, hz1, hz2⟩ := info_parts hi
 cases A with
 | none =>
  have e0 : cs = [] := hr.2.1 rfl
  subst e0
  refine ⟨v, w, ?_, by simpa using hown, World.grownBy.refl w _⟩
  rcases hown.2 with ⟨rfl, h0⟩ | ⟨g, cap, cur, rfl, _, _, hnc, _⟩
  ·simp [Builtin.append_, run_underlying ht, sizeOf, typeInfo, hi0, Builtin.lenOf, Builtin.firstCells]
  ·simp [Builtin.append_, run_underlying ht, sizeOf, typeInfo, hi0, Builtin.lenOf, Builtin.firstCells, hnc, storeCells]
 | some ad =>
  obtain ⟨v', w', h1, h2, h3, _⟩ := run_append_own (P := P) w base t ty e i0 (.int .u8 0) 1 1 ht hi0 hz0 hz1 hz2 rfl (by omega) v bs.length (bVs bs) hown ad cs.length c (bVs cs) (by simp [bVs_len])
   (fun j u hu => by
    have hj : j < cs.length := by
     have := (List.getElem?_eq_some_iff.1 hu).1
     simpa [bVs_len] using this
    rw [bVs_get cs j hj] at hu
    injection hu with hu
    subst hu
    exact hr.cell j hj)
   (bVs_one cs) (by simp only [maxLen]; omega) (by omega) hbase
  refine ⟨v', w', h1, ?_, h3⟩
  unfold Own
  rw [List.length_append, bVs_app]
  exact h2
theorem wp_append_rd {o : Oper} {a : Act} {w : World} {K : Act → World → Prop} {Q : Exit → Act → World → Prop} (s x : Operand) (t : TypeId)
  (ho : o.op = .call { callee := .builtin .append, args := #[s, x], argTypes := #[t, t] })
  (base e : Nat) (ht : P.underlying t = some (.slice e)) (hi : (P.info? e).map (fun i => (i.zero, i.size, i.bytes)) = some (some (.int .u8 0), 1, 1))
  (v : Value) (bs cs : List UInt8) (A : Option Addr) (m c : Nat) (hs : a.eval s = v) (hx : a.eval x = .slice A m c) (hown : Own w e base v bs) (hr : Rd w A cs) (hm : cs.length = m) (hb : bs.length + m ≤ 140737488355328) (hbase : base ≤ w.heap.size)
  (h : ∀ v' w', Own w' e base v' (bs ++ cs) → w.grownBy w' v.ownBlock → K (a.put o.dst v') w') : o.wp P a w K Q := by
 obtain ⟨v', w', hrun, h2, h3⟩ := run_append_rd (P := P) w base t o.type e ht hi v bs cs A m c hown hr hm hb hbase
 unfold Oper.wp execOp
 simp only [ho, resolve, invoke, builtin, Sem.run_bind, Sem.run_pure, Result.andThen_ok, List.map_toArray, List.map_cons, List.map_nil, hs, hx, hrun]
 exact h v' w' h2 h3
theorem wpList_append_rd {ops : Array Oper} {rest : List Oper} {o : Oper} {a : Act} {w : World} {Q : Exit → Act → World → Prop} (hgd : Region.wanted o (yielded ops a.tmps) = true) (s x : Operand) (t : TypeId)
  (ho : o.op = .call { callee := .builtin .append, args := #[s, x], argTypes := #[t, t] })
  (base e : Nat) (ht : P.underlying t = some (.slice e)) (hi : (P.info? e).map (fun i => (i.zero, i.size, i.bytes)) = some (some (.int .u8 0), 1, 1))
  (v : Value) (bs cs : List UInt8) (A : Option Addr) (m c : Nat) (hs : a.eval s = v) (hx : a.eval x = .slice A m c) (hown : Own w e base v bs) (hr : Rd w A cs) (hm : cs.length = m) (hb : bs.length + m ≤ 140737488355328) (hbase : base ≤ w.heap.size)
  (h : ∀ v' w', Own w' e base v' (bs ++ cs) → w.grownBy w' v.ownBlock → wpList P ops Q rest (a.put o.dst v') w') : wpList P ops Q (o :: rest) a w :=
 wpList_step fun K hK => by
  rw [if_pos hgd]
  exact wp_append_rd s x t ho base e ht hi v bs cs A m c hs hx hown hr hm hb hbase fun v' w' h2 h3 => hK _ _ (h v' w' h2 h3)
theorem run_string_rd (w : World) (src dst e : TypeId) (hs : P.underlying src = some (.slice e)) (he : P.underlying e = some (.int .u8)) (hd : P.underlying dst = some .string)
  (A : Option Addr) (n c : Nat) (bs : List UInt8) (hr : Rd w A bs) (hn : bs.length = n) : (convert src dst (.slice A n c)).run P w = .ok (.string ⟨bs.toArray⟩) w := by
 subst hn
 cases A with
 | none =>
  have e0 : bs = [] := hr.2.1 rfl
  subst e0
  exact run_convert_bytes_nil w src e hs he 0 c dst hd
 | some ad => exact run_convert_bytes_back w src dst e ad c bs hs he hd fun j hj => hr.cell j hj
theorem run_make_rd (t e : TypeId) (ht : P.underlying t = some (.slice e)) (hi : (P.info? e).map (fun i => (i.zero, i.size, i.bytes)) = some (some (.int .u8 0), 1, 1)) (kl kc : IntKind) (n : Nat) (hn : n ≤ 281474976710656) (w : World) :
  (Instr.makeSlice t (.int kl (n : Int)) (.int kc (n : Int))).run P w = .ok (.slice (some ⟨w.heap.size, 0, none⟩) n n) (w.alloc (.cells (bVs (List.replicate n 0)).toArray e)) := by
 obtain ⟨i0, hi0, hz0, hz1, hz2⟩ := info_parts hi
 have h := run_make (P := P) (w := w) t e i0 (.int .u8 0) ht hi0 hz0 kl kc (n : Int) (n : Int) (by omega) (Int.le_refl _) (by rw [hz2]; omega) (by omega)
 simp only [Int.toNat_natCast, hz1, Nat.mul_one] at h
 rw [h]
 have e1 : madeCells (Value.int IntKind.u8 0).cells n = (bVs (List.replicate n 0)).toArray := by
  apply Array.toList_inj.1
  show (madeCells #[Value.int IntKind.u8 0] n).toList = _
  rw [toList_madeCells_one]
  simp [bVs, bV]
 rw [e1]
theorem Own.made (w : World) (E n : Nat) (hn : n ≤ 281474976710656) : Own (w.alloc (.cells (bVs (List.replicate n 0)).toArray E)) E w.heap.size (.slice (some ⟨w.heap.size, 0, none⟩) n n) (List.replicate n 0) :=
 Own.lit w E _ n (by simp) (by omega)
end
end
section
def leNum : List UInt8 → Nat
 | [] => 0
 | b :: r => b.toNat + 256 * leNum r
def leBytes (x : Nat) : Nat → List UInt8
 | 0 => []
 | n + 1 => UInt8.ofNat (x % 256) :: leBytes (x / 256) n
theorem leBytes_len (n : Nat) : ∀ x, (leBytes x n).length = n := by
 induction n with
 | zero => intro x; rfl
 | succ n ih => intro x; simp [leBytes, ih]
theorem leBytes_get (n : Nat) : ∀ x i (h : i < (leBytes x n).length), (leBytes x n)[i].toNat = x / 256 ^ i % 256 := by
 induction n with
 | zero => intro x i h; simp [leBytes] at h
 | succ n ih =>
  intro x i h
  cases i with
  | zero => simp [leBytes]
  | succ i =>
   simp only [leBytes, List.getElem_cons_succ]
   rw [ih, Nat.div_div_eq_div_mul, Nat.pow_succ, Nat.mul_comm]
theorem leNum_leBytes (n : Nat) : ∀ x, leNum (leBytes x n) = x % 256 ^ n := by
 induction n with
 | zero => intro x; simp [leBytes, leNum, Nat.mod_one]
 | succ n ih =>
  intro x
  simp only [leBytes, leNum, ih]
  rw [Nat.pow_succ, Nat.mul_comm (256 ^ n) 256, Nat.mod_mul]
  have : (UInt8.ofNat (x % 256)).toNat = x % 256 := by simp
  omega
theorem leNum_lt (bs : List UInt8) : leNum bs < 256 ^ bs.length := by
 induction bs with
 | nil => simp [leNum]
 | cons b r ih =>
  simp only [leNum, List.length_cons, Nat.pow_succ]
  have := b.toNat_lt
  omega
theorem pow8 (k : Nat) : 2 ^ (8 * k) = 256 ^ k := by rw [Nat.pow_mul]
def part (bs : List UInt8) (k n : Nat) : List UInt8 := bs.take k ++ List.replicate (n - k) 0
theorem part_zero (bs : List UInt8) (n : Nat) : part bs 0 n = List.replicate n 0 := by simp [part]
theorem part_all (bs : List UInt8) (n : Nat) (h : bs.length = n) : part bs n n = bs := by simp [part, List.take_of_length_le, h]
theorem part_len (bs : List UInt8) (k n : Nat) (h : bs.length = n) (hk : k ≤ n) : (part bs k n).length = n := by
 simp [part]; omega
theorem part_set (bs : List UInt8) (k n : Nat) (h : bs.length = n) (hk : k < n) : (part bs k n).set k (bs[k]'(by omega)) = part bs (k + 1) n := by
 unfold part
 have e : n - k = (n - (k + 1)) + 1 := by omega
 rw [e, List.replicate_succ, List.set_append_right _ _ (by rw [List.length_take]; omega), List.take_succ_eq_append_getElem (by omega), List.append_assoc]
 have e2 : k - (bs.take k).length = 0 := by rw [List.length_take]; omega
 rw [e2]
 rfl
theorem leBytes_at (x k n : Nat) (h : k < (leBytes x n).length) : (leBytes x n)[k] = UInt8.ofNat (x / 256 ^ k % 256) := by
 apply UInt8.toNat_inj.1
 rw [leBytes_get]
 simp
def crcT : List Nat := [0, 274646895, 549293790, 820201905, 1098587580, 1361435347, 1640403810, 1905808397, 2197175160, 2460548119, 2722870694, 2987750089, 3280807620, 3553878443, 3811616794, 4084100981]
def nib (c : Nat) : Nat := crcT.getD (c % 16) 0 ^^^ (c / 16)
def crcB (c : Nat) (b : UInt8) : Nat := nib (nib (c ^^^ b.toNat))
def crcL (c : Nat) (bs : List UInt8) : Nat := bs.foldl crcB c
def crc (seed : Nat) (bs : List UInt8) : Nat := 4294967295 - crcL (4294967295 - seed) bs
theorem crcT_lt (j : Nat) : crcT.getD j 0 < 4294967296 := by
 by_cases h : j < 16
 ·have : ∀ j, j < 16 → crcT.getD j 0 < 4294967296 := by decide
  exact this j h
 ·have e : crcT[j]? = none := List.getElem?_eq_none (by simp [crcT]; omega)
  simp [List.getD, e]
theorem xor_lt32 {a b : Nat} (ha : a < 4294967296) (hb : b < 4294967296) : a ^^^ b < 4294967296 := Nat.xor_lt_two_pow (n := 32) ha hb
theorem nib_lt (c : Nat) (h : c < 4294967296) : nib c < 4294967296 := xor_lt32 (crcT_lt _) (by omega)
theorem crcB_lt (c : Nat) (b : UInt8) (h : c < 4294967296) : crcB c b < 4294967296 :=
 nib_lt _ (nib_lt _ (xor_lt32 h (by have := b.toNat_lt; omega)))
theorem crcL_lt (bs : List UInt8) : ∀ c, c < 4294967296 → crcL c bs < 4294967296 := by
 induction bs with
 | nil => intro c h; exact h
 | cons b r ih => intro c h; exact ih _ (crcB_lt c b h)
theorem crc_lt (seed : Nat) (bs : List UInt8) : crc seed bs < 4294967296 := by unfold crc; omega
theorem crcL_snoc (c : Nat) (bs : List UInt8) (k : Nat) (h : k < bs.length) : crcL c (bs.take (k + 1)) = crcB (crcL c (bs.take k)) bs[k] := by
 rw [List.take_succ_eq_append_getElem h]
 unfold crcL
 rw [List.foldl_append]
 rfl
theorem crcT_top : ∀ j, j < 16 → crcT.getD j 0 / 268435456 = j := by decide
theorem nib_top (c : Nat) (h : c < 4294967296) : nib c / 268435456 = c % 16 := by
 have e : (268435456 : Nat) = 2 ^ 28 := by decide
 unfold nib
 rw [e, Nat.xor_div_two_pow]
 have h1 : c / 16 / 2 ^ 28 = 0 := by
  rw [← e]; omega
 rw [h1, Nat.xor_zero, ← e]
 exact crcT_top _ (by omega)
theorem xor_cancel {a b c : Nat} (h : a ^^^ b = a ^^^ c) : b = c := by
 have := congrArg (a ^^^ ·) h
 simpa [← Nat.xor_assoc] using this
theorem nib_inj {c d : Nat} (hc : c < 4294967296) (hd : d < 4294967296) (h : nib c = nib d) : c = d := by
 have h1 : c % 16 = d % 16 := by rw [← nib_top c hc, ← nib_top d hd, h]
 unfold nib at h
 rw [h1] at h
 have h2 := xor_cancel h
 omega
theorem crcB_inj_seed {c d : Nat} {b : UInt8} (hc : c < 4294967296) (hd : d < 4294967296) (h : crcB c b = crcB d b) : c = d := by
 have hb := b.toNat_lt
 have h1 := nib_inj (nib_lt _ (xor_lt32 hc (by omega))) (nib_lt _ (xor_lt32 hd (by omega))) h
 have h2 := nib_inj (xor_lt32 hc (by omega)) (xor_lt32 hd (by omega)) h1
 rw [Nat.xor_comm c, Nat.xor_comm d] at h2
 exact xor_cancel h2
theorem crcB_inj_byte {c : Nat} {a b : UInt8} (hc : c < 4294967296) (h : crcB c a = crcB c b) : a = b := by
 have ha := a.toNat_lt
 have hb := b.toNat_lt
 have h1 := nib_inj (nib_lt _ (xor_lt32 hc (by omega))) (nib_lt _ (xor_lt32 hc (by omega))) h
 have h2 := nib_inj (xor_lt32 hc (by omega)) (xor_lt32 hc (by omega)) h1
 exact UInt8.toNat_inj.1 (xor_cancel h2)
theorem crcL_inj (bs : List UInt8) : ∀ {c d : Nat}, c < 4294967296 → d < 4294967296 → crcL c bs = crcL d bs → c = d := by
 induction bs with
 | nil => intro c d _ _ h; exact h
 | cons b r ih => intro c d hc hd h; exact crcB_inj_seed hc hd (ih (crcB_lt c b hc) (crcB_lt d b hd) h)
theorem crcL_app (bs cs : List UInt8) (c : Nat) : crcL c (bs ++ cs) = crcL (crcL c bs) cs := by
 unfold crcL; rw [List.foldl_append]
theorem crcL_turned (bs : List UInt8) (i : Nat) (hi : i < bs.length) (x : UInt8) (hx : x ≠ bs[i]) (c : Nat) (hc : c < 4294967296) : crcL c bs ≠ crcL c (bs.set i x) := by
 have e1 : bs = bs.take i ++ bs[i] :: bs.drop (i + 1) := by
  conv => lhs; rw [← List.take_append_drop i bs, List.drop_eq_getElem_cons hi]
 have e2 : bs.set i x = bs.take i ++ x :: bs.drop (i + 1) := List.set_eq_take_append_cons_drop.trans (by rw [if_pos hi])
 intro h
 rw [e2] at h
 rw [e1, crcL_app] at h
 have e3 : (bs.take i ++ bs[i] :: bs.drop (i + 1)).take i = bs.take i := by rw [← e1]
 have e4 : (bs.take i ++ bs[i] :: bs.drop (i + 1)).drop (i + 1) = bs.drop (i + 1) := by rw [← e1]
 rw [e3, e4, crcL_app] at h
 have hl := crcL_lt (bs.take i) c hc
 exact hx (crcB_inj_byte hl (crcL_inj (bs.drop (i + 1)) (crcB_lt _ _ hl) (crcB_lt _ _ hl) h)).symm
theorem crc_turned (bs : List UInt8) (i : Nat) (hi : i < bs.length) (x : UInt8) (hx : x ≠ bs[i]) (seed : Nat) : crc seed bs ≠ crc seed (bs.set i x) := by
 unfold crc
 have h := crcL_turned bs i hi x hx (4294967295 - seed) (by omega)
 have h1 := crcL_lt bs (4294967295 - seed) (by omega)
 have h2 := crcL_lt (bs.set i x) (4294967295 - seed) (by omega)
 omega
theorem crc_app (seed : Nat) (hs : seed < 4294967296) (bs cs : List UInt8) : crc seed (bs ++ cs) = crc (crc seed bs) cs := by
 have h1 := crcL_lt bs (4294967295 - seed) (by omega)
 unfold crc
 rw [crcL_app]
 congr 2
 omega
end
section
end
section
end
section
open Go.RowKit
def RdV (w : World) (A : Option Addr) (vs : List Value) : Prop :=
 vs.length ≤ 9223372036854775807 ∧ (A = none → vs = []) ∧ ∀ ad, A = some ad → ∀ i (h : i < vs.length), w.cell? (ad.add i) = some vs[i]
theorem RdV.nil (w : World) : RdV w none [] := ⟨by simp, fun _ => rfl, fun _ h => by cases h⟩
theorem RdV.cell {w : World} {ad : Addr} {vs : List Value} (h : RdV w (some ad) vs) (i : Nat) (hi : i < vs.length) : w.cell? (ad.add i) = some vs[i] := h.2.2 ad rfl i hi
theorem RdV.some_ {w : World} {A : Option Addr} {vs : List Value} (h : RdV w A vs) {i : Nat} (hi : i < vs.length) : ∃ ad, A = some ad := by
 cases A with
 | none => have := h.2.1 rfl; subst this; simp at hi
 | some ad => exact ⟨ad, rfl⟩
theorem RdV.below {w w' : World} {A : Option Addr} {vs : List Value} (h : RdV w A vs) (hb : Below w.heap.size w w') : RdV w' A vs :=
 ⟨h.1, h.2.1, fun ad e i hi => (hb.cell (World.block_lt_of_cell? w _ (h.2.2 ad e i hi))).trans (h.2.2 ad e i hi)⟩
theorem RdV.drew {w : World} {A : Option Addr} {vs : List Value} (h : RdV w A vs) : RdV w.drew A vs := h
def OwnV (w : World) (E base : Nat) (v : Value) (vs : List Value) : Prop := w.ownsRow base E 1 v vs.length vs
theorem OwnV.form {w : World} {E base : Nat} {v : Value} {vs : List Value} (h : OwnV w E base v vs) :
  ∃ A c, v = .slice A vs.length c ∧ RdV w A vs ∧ (∀ ad, A = some ad → ∃ g, ad = ⟨g, 0, none⟩ ∧ base ≤ g ∧ g < w.heap.size) := by
 rcases h.2 with ⟨rfl, h0⟩ | ⟨g, cap, cur, rfl, hbg, hg, hnc, hcm, hcs, htk⟩
 ·have e : vs = [] := List.eq_nil_of_length_eq_zero h0
  subst e
  exact ⟨none, 0, rfl, RdV.nil w, fun _ e => by cases e⟩
 ·refine ⟨some ⟨g, 0, none⟩, cap, rfl, ⟨by simp only [maxLen] at hcm; omega, (fun e => by cases e), ?_⟩, ?_⟩
  ·intro ad e i hi
   injection e with e
   subst e
   exact World.ownsRow.cells h rfl i _ (List.getElem?_eq_getElem hi)
  ·intro ad e
   injection e with e
   subst e
   exact ⟨g, rfl, hbg, (World.ownsRow.lt h g rfl).2⟩
theorem OwnV.rd {w : World} {E base n c : Nat} {A : Option Addr} {vs : List Value} (h : OwnV w E base (.slice A n c) vs) : RdV w A vs := by
 obtain ⟨A', c', hv, hr, _⟩ := h.form
 injection hv with h1
 subst h1
 exact hr
theorem OwnV.below {w w' : World} {E base : Nat} {v : Value} {vs : List Value} (h : OwnV w E base v vs) (hb : Below w.heap.size w w') : OwnV w' E base v vs :=
 World.ownsRow.kept (row := none) h ⟨hb.os, hb.tape, hb.output, hb.size, fun k hk _ => hb.block k hk⟩ (by
  rcases h.2 with ⟨rfl, _⟩ | ⟨g, cap, cur, rfl, _⟩
  ·exact .inl rfl
  ·exact .inr (by simp [Value.ownBlock]))
theorem OwnV.alloc {w : World} {E base : Nat} {v : Value} {vs : List Value} (h : OwnV w E base v vs) (o : Obj) : OwnV (w.alloc o) E base v vs := h.below ((Below.refl _ _).alloc (Nat.le_refl _) _)
theorem OwnV.drew {w : World} {E base : Nat} {v : Value} {vs : List Value} (h : OwnV w E base v vs) : OwnV w.drew E base v vs := h
theorem OwnV.grow {w w' : World} {E base : Nat} {v : Value} {vs : List Value} (h : OwnV w E base v vs) (hg : w.grownBy w' v.ownBlock) (hb : base ≤ w.heap.size) : Below base w w' :=
 (Below.refl base w).grown hg hb fun k hk => (World.ownsRow.lt h k hk).1
theorem OwnV.some_ {w : World} {E base n c : Nat} {A : Option Addr} {vs : List Value} (h : OwnV w E base (.slice A n c) vs) {i : Nat} (hi : i < vs.length) :
  n = vs.length ∧ ∃ g, A = some ⟨g, 0, none⟩ ∧ base ≤ g ∧ g < w.heap.size := by
 obtain ⟨A', c', hv, hr, hs⟩ := h.form
 injection hv with h1 h2 h3
 subst h1 h2
 refine ⟨rfl, ?_⟩
 obtain ⟨ad, rfl⟩ := hr.some_ hi
 obtain ⟨g, rfl, h1, h2⟩ := hs ad rfl
 exact ⟨g, rfl, h1, h2⟩
theorem OwnV.set {w : World} {E base g c : Nat} {vs : List Value} (h : OwnV w E base (.slice (some ⟨g, 0, none⟩) vs.length c) vs) (i : Nat) (u : Value) :
  OwnV (w.setCell ⟨g, i, none⟩ u) E base (.slice (some ⟨g, 0, none⟩) (vs.set i u).length c) (vs.set i u) := by
 have := (World.ownsRow.stored h i u).1
 unfold OwnV
 rw [List.length_set]
 exact this
theorem OwnV.cellG {w : World} {E base g c : Nat} {vs : List Value} (h : OwnV w E base (.slice (some ⟨g, 0, none⟩) vs.length c) vs) (i : Nat) (hi : i < vs.length) :
  w.cell? ⟨g, i, none⟩ = some vs[i] := by
 rw [World.ownsRow.cellAt h i (by omega), List.getElem?_eq_getElem hi]
theorem OwnV.frozenG {w : World} {E base g c : Nat} {vs : List Value} (h : OwnV w E base (.slice (some ⟨g, 0, none⟩) vs.length c) vs) (i : Nat) :
  w.frozen? ⟨g, i, none⟩ = false := World.ownsRow.frozenAt h i
theorem OwnV.len {w : World} {E base n c : Nat} {A : Option Addr} {vs : List Value} (h : OwnV w E base (.slice A n c) vs) : n = vs.length := by
 obtain ⟨A', c', hv, _⟩ := h.form
 injection hv
theorem OwnV.cellN {w : World} {E base g n c : Nat} {vs : List Value} (h : OwnV w E base (.slice (some ⟨g, 0, none⟩) n c) vs) (i : Nat) (hi : i < vs.length) : w.cell? ⟨g, i, none⟩ = some vs[i] := by
 have e := h.len
 subst e
 exact h.cellG i hi
theorem OwnV.frozenN {w : World} {E base g n c : Nat} {vs : List Value} (h : OwnV w E base (.slice (some ⟨g, 0, none⟩) n c) vs) (i : Nat) : w.frozen? ⟨g, i, none⟩ = false := by
 have e := h.len
 subst e
 exact h.frozenG i
theorem OwnV.lit (w : World) (E : Nat) (vs : List Value) (n : Nat) (hn : vs.length = n) (hm : n ≤ 9223372036854775807) :
  OwnV (w.alloc (.cells vs.toArray E)) E w.heap.size (.slice (some ⟨w.heap.size, 0, none⟩) n n) vs := by
 subst hn
 exact ⟨by rw [Nat.mul_one], .inr ⟨w.heap.size, vs.length, vs.toArray, rfl, Nat.le_refl _, heap_alloc_new w _, Nat.le_refl _, by simp only [maxLen]; omega, by simp, by simp [List.take_of_length_le]⟩⟩
theorem RdV.lit (w : World) (E : Nat) (vs : List Value) (hm : vs.length ≤ 9223372036854775807) : RdV (w.alloc (.cells vs.toArray E)) (some ⟨w.heap.size, 0, none⟩) vs := (OwnV.lit w E vs _ rfl hm).rd
section
variable {P : Program}
theorem run_append_v (w : World) (base t ty e : Nat) (z : Value) (by_ : Nat) (ht : P.underlying t = some (.slice e)) (hi : (P.info? e).map (fun i => (i.zero, i.size, i.bytes)) = some (some z, 1, by_)) (hz : z.cells.size = 1)
  (v : Value) (vs us : List Value) (A : Option Addr) (m c : Nat) (hown : OwnV w e base v vs) (hr : RdV w A us) (hu : ∀ u ∈ us, u.oneCell' = true) (hm : us.length = m) (hl : vs.length + m ≤ maxLen) (hb : (vs.length + m) * by_ ≤ 140737488355328) (hbase : base ≤ w.heap.size) :
  ∃ v' w', (Builtin.append_ #[t, t] ty #[v, .slice A m c]).run P w = .ok v' w' ∧ OwnV w' e base v' (vs ++ us) ∧ w.grownBy w' v.ownBlock := by
 subst hm
 obtain ⟨i0, hi0, hz0, hz1, hz2⟩ := info_parts hi
 cases A with
 | none =>
  have e0 : us = [] := hr.2.1 rfl
  subst e0
  refine ⟨v, w, ?_, by simpa using hown, World.grownBy.refl w _⟩
  rcases hown.2 with ⟨rfl, h0⟩ | ⟨g, cap, cur, rfl, _, _, hnc, _⟩
  ·simp [Builtin.append_, run_underlying ht, sizeOf, typeInfo, hi0, Builtin.lenOf, Builtin.firstCells]
  ·simp [Builtin.append_, run_underlying ht, sizeOf, typeInfo, hi0, Builtin.lenOf, Builtin.firstCells, hnc, storeCells]
 | some ad =>
  obtain ⟨v', w', h1, h2, h3, _⟩ := run_append_own (P := P) w base t ty e i0 z 1 by_ ht hi0 hz0 hz1 hz2 hz (by omega) v vs.length vs hown ad us.length c us (by omega)
   (fun j u hu => by
    have hj : j < us.length := (List.getElem?_eq_some_iff.1 hu).1
    rw [List.getElem?_eq_getElem hj] at hu
    injection hu with hu
    subst hu
    exact hr.cell j hj)
   hu hl hb hbase
  refine ⟨v', w', h1, ?_, h3⟩
  unfold OwnV
  rw [List.length_append]
  exact h2
theorem wp_append_v {o : Oper} {a : Act} {w : World} {K : Act → World → Prop} {Q : Exit → Act → World → Prop} (s x : Operand) (t : TypeId)
  (ho : o.op = .call { callee := .builtin .append, args := #[s, x], argTypes := #[t, t] })
  (base e : Nat) (z : Value) (by_ : Nat) (ht : P.underlying t = some (.slice e)) (hi : (P.info? e).map (fun i => (i.zero, i.size, i.bytes)) = some (some z, 1, by_)) (hz : z.cells.size = 1)
  (v : Value) (vs us : List Value) (A : Option Addr) (m c : Nat) (hs : a.eval s = v) (hx : a.eval x = .slice A m c) (hown : OwnV w e base v vs) (hr : RdV w A us) (hu : ∀ u ∈ us, u.oneCell' = true) (hm : us.length = m) (hl : vs.length + m ≤ maxLen) (hb : (vs.length + m) * by_ ≤ 140737488355328) (hbase : base ≤ w.heap.size)
  (h : ∀ v' w', OwnV w' e base v' (vs ++ us) → w.grownBy w' v.ownBlock → Below base w w' → K (a.put o.dst v') w') : o.wp P a w K Q := by
 obtain ⟨v', w', hrun, h2, h3⟩ := run_append_v (P := P) w base t o.type e z by_ ht hi hz v vs us A m c hown hr hu hm hl hb hbase
 unfold Oper.wp execOp
 simp only [ho, resolve, invoke, builtin, Sem.run_bind, Sem.run_pure, Result.andThen_ok, List.map_toArray, List.map_cons, List.map_nil, hs, hx, hrun]
 exact h v' w' h2 h3 (hown.grow h3 hbase)
theorem wpList_append_v {ops : Array Oper} {rest : List Oper} {o : Oper} {a : Act} {w : World} {Q : Exit → Act → World → Prop} (hgd : Region.wanted o (yielded ops a.tmps) = true) (s x : Operand) (t : TypeId)
  (ho : o.op = .call { callee := .builtin .append, args := #[s, x], argTypes := #[t, t] })
  (base e : Nat) (z : Value) (by_ : Nat) (ht : P.underlying t = some (.slice e)) (hi : (P.info? e).map (fun i => (i.zero, i.size, i.bytes)) = some (some z, 1, by_)) (hz : z.cells.size = 1)
  (v : Value) (vs us : List Value) (A : Option Addr) (m c : Nat) (hs : a.eval s = v) (hx : a.eval x = .slice A m c) (hown : OwnV w e base v vs) (hr : RdV w A us) (hu : ∀ u ∈ us, u.oneCell' = true) (hm : us.length = m) (hl : vs.length + m ≤ maxLen) (hb : (vs.length + m) * by_ ≤ 140737488355328) (hbase : base ≤ w.heap.size)
  (h : ∀ v' w', OwnV w' e base v' (vs ++ us) → w.grownBy w' v.ownBlock → Below base w w' → wpList P ops Q rest (a.put o.dst v') w') : wpList P ops Q (o :: rest) a w :=
 wpList_step fun K hK => by
  rw [if_pos hgd]
  exact wp_append_v s x t ho base e z by_ ht hi hz v vs us A m c hs hx hown hr hu hm hl hb hbase fun v' w' h2 h3 h4 => hK _ _ (h v' w' h2 h3 h4)
end
end
section
open Go.RowKit
section
variable {P : Program}
theorem ownsRow_rd {w : World} {base e size n m c : Nat} {A : Option Addr} {vs : List Value} (h : w.ownsRow base e size (.slice A m c) n vs) (hv : vs.length ≤ 9223372036854775807) : RdV w A vs := by
 rcases h.2 with ⟨h1, h2⟩ | ⟨g, cap, cur, hv', hbg, hg, hnc, hcm, hcs, htk⟩
 ·injection h1 with e1 e2 e3
  subst e1 h2
  have e : vs = [] := List.eq_nil_of_length_eq_zero (by rw [h.1, Nat.zero_mul])
  subst e
  exact RdV.nil w
 ·injection hv' with e1 e2 e3
  subst e1
  refine ⟨hv, (fun e => by cases e), fun ad e i hi => ?_⟩
  injection e with e
  subst e
  exact World.ownsRow.cells h rfl i _ (List.getElem?_eq_getElem hi)
theorem ownsRow_form {w : World} {base e size n : Nat} {v : Value} {vs : List Value} (h : w.ownsRow base e size v n vs) : ∃ A c, v = .slice A n c ∧ n ≤ c ∧ (∀ ad, A = some ad → ∃ g, ad = ⟨g, 0, none⟩ ∧ base ≤ g ∧ g < w.heap.size) := by
 rcases h.2 with ⟨rfl, h2⟩ | ⟨g, cap, cur, rfl, hbg, hg, hnc, hcm, hcs, htk⟩
 ·subst h2
  exact ⟨none, 0, rfl, Nat.le_refl _, fun _ e => by cases e⟩
 ·refine ⟨some ⟨g, 0, none⟩, cap, rfl, hnc, fun ad e => ?_⟩
  injection e with e
  subst e
  exact ⟨g, rfl, hbg, (Array.getElem?_eq_some_iff.1 hg).1⟩
theorem ownsRow_below {w w' : World} {base e size n : Nat} {v : Value} {vs : List Value} (h : w.ownsRow base e size v n vs) (hb : Below w.heap.size w w') : w'.ownsRow base e size v n vs :=
 World.ownsRow.kept (row := none) h ⟨hb.os, hb.tape, hb.output, hb.size, fun k hk _ => hb.block k hk⟩ (by
  rcases h.2 with ⟨rfl, _⟩ | ⟨g, cap, cur, rfl, _⟩
  ·exact .inl rfl
  ·exact .inr (by simp [Value.ownBlock]))
theorem run_append_k (w : World) (base t ty e : Nat) (z : Value) (size by_ : Nat) (ht : P.underlying t = some (.slice e)) (hi : (P.info? e).map (fun i => (i.zero, i.size, i.bytes)) = some (some z, size, by_)) (hz : z.cells.size = size) (hsz : 0 < size)
  (v : Value) (n : Nat) (vs us : List Value) (A : Option Addr) (m c : Nat) (hown : w.ownsRow base e size v n vs) (hr : RdV w A us) (hu : ∀ u ∈ us, u.oneCell' = true) (hm : us.length = m * size) (hl : n + m ≤ maxLen) (hb : (n + m) * by_ ≤ 140737488355328) (hbase : base ≤ w.heap.size) :
  ∃ v' w', (Builtin.append_ #[t, t] ty #[v, .slice A m c]).run P w = .ok v' w' ∧ w'.ownsRow base e size v' (n + m) (vs ++ us) ∧ w.grownBy w' v.ownBlock := by
 obtain ⟨i0, hi0, hz0, hz1, hz2⟩ := info_parts hi
 cases A with
 | none =>
  have e0 : us = [] := hr.2.1 rfl
  subst e0
  have hm0 : m = 0 := by
   rcases Nat.mul_eq_zero.1 hm.symm with h | h
   ·exact h
   ·omega
  subst hm0
  refine ⟨v, w, ?_, by simpa using hown, World.grownBy.refl w _⟩
  rcases hown.2 with ⟨rfl, h0⟩ | ⟨g, cap, cur, rfl, _, _, hnc, _⟩
  ·simp [Builtin.append_, run_underlying ht, sizeOf, typeInfo, hi0, Builtin.lenOf, Builtin.firstCells]
  ·simp [Builtin.append_, run_underlying ht, sizeOf, typeInfo, hi0, Builtin.lenOf, Builtin.firstCells, hnc, storeCells]
 | some ad =>
  obtain ⟨v', w', h1, h2, h3, _⟩ := run_append_own (P := P) w base t ty e i0 z size by_ ht hi0 hz0 hz1 hz2 hz hsz v n vs hown ad m c us hm
   (fun j u hu => by
    have hj : j < us.length := (List.getElem?_eq_some_iff.1 hu).1
    rw [List.getElem?_eq_getElem hj] at hu
    injection hu with hu
    subst hu
    exact hr.cell j hj)
   hu hl hb hbase
  exact ⟨v', w', h1, h2, h3⟩
end
end
section
open Go.RowKit
end
section
open Go.RowKit
section
variable {P : Program}
theorem run_append_at (w : World) (base t ty e : Nat) (z : Value) (size by_ : Nat) (ht : P.underlying t = some (.slice e)) (hi : (P.info? e).map (fun i => (i.zero, i.size, i.bytes)) = some (some z, size, by_)) (hz : z.cells.size = size) (hsz : 0 < size)
  (v : Value) (n : Nat) (vs us : List Value) (A : Option Addr) (m c : Nat) (hown : w.ownsRow base e size v n vs) (hr : RdV w A us) (hu : ∀ u ∈ us, u.oneCell' = true) (hm : us.length = m * size) (hl : n + m ≤ maxLen) (hb : (n + m) * by_ ≤ 140737488355328) (hbase : base ≤ w.heap.size) :
  ∃ v' w', (Builtin.append_ #[t, t] ty #[v, .slice A m c]).run P w = .ok v' w' ∧ w'.ownsRow base e size v' (n + m) (vs ++ us) ∧ w.grownBy w' v.ownBlock ∧ (v'.ownBlock = v.ownBlock ∨ v'.ownBlock = some w.heap.size) := by
 obtain ⟨i0, hi0, hz0, hz1, hz2⟩ := info_parts hi
 cases A with
 | none =>
  have e0 : us = [] := hr.2.1 rfl
  subst e0
  have hm0 : m = 0 := by
   rcases Nat.mul_eq_zero.1 hm.symm with h | h
   ·exact h
   ·omega
  subst hm0
  refine ⟨v, w, ?_, by simpa using hown, World.grownBy.refl w _, .inl rfl⟩
  rcases hown.2 with ⟨rfl, h0⟩ | ⟨g, cap, cur, rfl, _, _, hnc, _⟩
  ·simp [Builtin.append_, run_underlying ht, sizeOf, typeInfo, hi0, Builtin.lenOf, Builtin.firstCells]
  ·simp [Builtin.append_, run_underlying ht, sizeOf, typeInfo, hi0, Builtin.lenOf, Builtin.firstCells, hnc, storeCells]
 | some ad =>
  obtain ⟨v', w', h1, h2, h3, _, h5⟩ := run_append_own_at (P := P) (w := w) base t ty e i0 z size by_ ht hi0 hz0 hz1 hz2 hz hsz v n vs hown ad m c us hm
   (fun j u hu => by
    have hj : j < us.length := (List.getElem?_eq_some_iff.1 hu).1
    rw [List.getElem?_eq_getElem hj] at hu
    injection hu with hu
    subst hu
    exact hr.cell j hj)
   hu hl hb hbase
  exact ⟨v', w', h1, h2, h3, h5⟩
theorem step_append_at {ops : Array Oper} {o : Oper} {a : Act} {w : World} {K : Act → World → Prop} {Q : Exit → Act → World → Prop} {X : Prop} (hgd : Region.wanted o (yielded ops a.tmps) = true) (s x : Operand) (t : TypeId)
  (ho : o.op = .call { callee := .builtin .append, args := #[s, x], argTypes := #[t, t] })
  (base e : Nat) (z : Value) (size by_ : Nat) (ht : P.underlying t = some (.slice e)) (hi : (P.info? e).map (fun i => (i.zero, i.size, i.bytes)) = some (some z, size, by_)) (hz : z.cells.size = size) (hsz : 0 < size)
  (v : Value) (n : Nat) (vs us : List Value) (A : Option Addr) (m c : Nat) (hs : a.eval s = v) (hx : a.eval x = .slice A m c) (hown : w.ownsRow base e size v n vs) (hr : RdV w A us) (hu : ∀ u ∈ us, u.oneCell' = true) (hm : us.length = m * size) (hl : n + m ≤ maxLen) (hb : (n + m) * by_ ≤ 140737488355328) (hbase : base ≤ w.heap.size)
  (h : ∀ v' w', w'.ownsRow base e size v' (n + m) (vs ++ us) → w.grownBy w' v.ownBlock → (v'.ownBlock = v.ownBlock ∨ v'.ownBlock = some w.heap.size) → K (a.put o.dst v') w') :
  if Region.wanted o (yielded ops a.tmps) = true then Oper.wp P o a w K Q else X := by
 rw [if_pos hgd]
 obtain ⟨v', w', hrun, h2, h3, h4⟩ := run_append_at (P := P) w base t o.type e z size by_ ht hi hz hsz v n vs us A m c hown hr hu hm hl hb hbase
 unfold Oper.wp execOp
 simp only [ho, resolve, invoke, builtin, Sem.run_bind, Sem.run_pure, Result.andThen_ok, List.map_toArray, List.map_cons, List.map_nil, hs, hx, hrun]
 exact h v' w' h2 h3 h4
theorem wpList_append_at {ops : Array Oper} {rest : List Oper} {o : Oper} {a : Act} {w : World} {Q : Exit → Act → World → Prop} (hgd : Region.wanted o (yielded ops a.tmps) = true) (s x : Operand) (t : TypeId)
  (ho : o.op = .call { callee := .builtin .append, args := #[s, x], argTypes := #[t, t] })
  (base e : Nat) (z : Value) (size by_ : Nat) (ht : P.underlying t = some (.slice e)) (hi : (P.info? e).map (fun i => (i.zero, i.size, i.bytes)) = some (some z, size, by_)) (hz : z.cells.size = size) (hsz : 0 < size)
  (v : Value) (n : Nat) (vs us : List Value) (A : Option Addr) (m c : Nat) (hs : a.eval s = v) (hx : a.eval x = .slice A m c) (hown : w.ownsRow base e size v n vs) (hr : RdV w A us) (hu : ∀ u ∈ us, u.oneCell' = true) (hm : us.length = m * size) (hl : n + m ≤ maxLen) (hb : (n + m) * by_ ≤ 140737488355328) (hbase : base ≤ w.heap.size)
  (h : ∀ v' w', w'.ownsRow base e size v' (n + m) (vs ++ us) → w.grownBy w' v.ownBlock → (v'.ownBlock = v.ownBlock ∨ v'.ownBlock = some w.heap.size) → wpList P ops Q rest (a.put o.dst v') w') : wpList P ops Q (o :: rest) a w :=
 wpList_step fun _ hK => step_append_at hgd s x t ho base e z size by_ ht hi hz hsz v n vs us A m c hs hx hown hr hu hm hl hb hbase fun v' w' h2 h3 h4 => hK _ _ (h v' w' h2 h3 h4)
end
end
section
open Go.RowKit
def RowM (w : World) (g : Nat) (bs : List UInt8) : Prop :=
 ∃ (z : List Value) (e m : Nat), w.heap[g]? = some (.cells (bVs bs ++ z).toArray e (m, m + 1)) ∧ bs.length ≤ m
theorem RowM.of_block {w w' : World} {g : Nat} {bs : List UInt8} (h : RowM w g bs) (hb : w'.heap[g]? = w.heap[g]?) : RowM w' g bs := by
 obtain ⟨z, e, m, h1, h2⟩ := h
 exact ⟨z, e, m, hb.trans h1, h2⟩
theorem RowM.lt {w : World} {g : Nat} {bs : List UInt8} (h : RowM w g bs) : g < w.heap.size := by
 obtain ⟨z, e, m, h1, _⟩ := h
 exact (Array.getElem?_eq_some_iff.1 h1).1
theorem RowM.cell {w : World} {g : Nat} {bs : List UInt8} (h : RowM w g bs) (i : Nat) (hi : i < bs.length) : w.cell? ⟨g, i, none⟩ = some (.int .u8 (bs[i].toNat : Int)) := by
 obtain ⟨z, e, m, h1, _⟩ := h
 simp only [World.cell?, h1]
 have h2 := bVs_get bs i hi
 simp only [List.getElem?_toArray]
 rw [List.getElem?_append_left (by rw [bVs_len]; exact hi), h2]
 rfl
theorem RowM.frozen {w : World} {g : Nat} {bs : List UInt8} (h : RowM w g bs) (i : Nat) (hi : i < bs.length) : w.frozen? ⟨g, i, none⟩ = false := by
 obtain ⟨z, e, m, h1, h2⟩ := h
 simp only [World.frozen?, h1]
 simp
 omega
theorem RowM.set {w : World} {g : Nat} {bs : List UInt8} (h : RowM w g bs) (i : Nat) (hi : i < bs.length) (b : UInt8) : RowM (w.setCell ⟨g, i, none⟩ (.int .u8 (b.toNat : Int))) g (bs.set i b) := by
 obtain ⟨z, e, m, h1, h2⟩ := h
 refine ⟨z, e, m, ?_, by simpa using h2⟩
 have e1 : (bVs (bs.set i b) ++ z).toArray = (bVs bs ++ z).toArray.setIfInBounds i (.int .u8 (b.toNat : Int)) := by
  have : bVs (bs.set i b) = (bVs bs).set i (.int .u8 (b.toNat : Int)) := by simp [bVs, List.map_set, bV]
  rw [this]
  simp only [List.setIfInBounds_toArray]
  rw [List.set_append_left _ _ (by rw [bVs_len]; exact hi)]
 rw [e1]
 simp [World.setCell, Array.getElem?_modify, h1]
theorem RowM.rd {w : World} {g : Nat} {bs : List UInt8} (h : RowM w g bs) (h3 : bs.length ≤ 9223372036854775807) : Rd w (some ⟨g, 0, none⟩) bs := by
 refine ⟨h3, (fun e => by cases e), fun ad e i hi => ?_⟩
 injection e with e
 subst e
 have e1 : (⟨g, 0, none⟩ : Addr).add i = ⟨g, i, none⟩ := by unfold Addr.add; split <;> simp_all
 rw [e1]
 exact h.cell i hi
theorem ex_bytes {P : Program} (w : World) (src dst e : TypeId) (hs : P.underlying src = some .string) (hd : P.underlying dst = some (.slice e)) (he : P.underlying e = some (.int .u8)) (bs : List UInt8) :
  ∃ c w', (convert src dst (.string ⟨bs.toArray⟩)).run P w = .ok (.slice (some ⟨w.heap.size, 0, none⟩) bs.length c) w' ∧ RowM w' w.heap.size bs ∧ Below w.heap.size w w' ∧ w'.heap.size = w.heap.size + 1 ∧ bs.length ≤ c := by
 have h := run_bytes_of_string (P := P) w src dst e ⟨bs.toArray⟩ hs hd he
 have hsz : (⟨bs.toArray⟩ : ByteArray).size = bs.length := by simp [ByteArray.size]
 rw [hsz] at h
 have hrow : ∀ c, bytesRow ⟨bs.toArray⟩ c = (bVs bs ++ List.replicate (c - bs.length) (Value.int .u8 0)).toArray := by
  intro c
  simp only [bytesRow, hsz]
  apply Array.toList_inj.1
  simp [bVs, bV]
 refine ⟨_, _, h, ⟨List.replicate (grownCap w bs.length 0 e - bs.length) (Value.int .u8 0), e, (bytesRow ⟨bs.toArray⟩ (grownCap w bs.length 0 e)).size, ?_, ?_⟩, ?_, by simp, grownCap_ge w bs.length 0 e⟩
 ·rw [← hrow]
  exact heap_alloc_new w.drew _
 ·rw [hrow]
  simp [bVs_len]
 ·exact ((Below.refl _ _).drew).alloc (Nat.le_refl _) _
end
section
open Go.RowKit
def RowB (w : World) (g E : Nat) (bs : List UInt8) : Prop := w.heap[g]? = some (.cells (bVs bs).toArray E (0, 0))
def putB (bs : List UInt8) (o : Nat) (cs : List UInt8) : List UInt8 := bs.take o ++ cs ++ bs.drop (o + cs.length)
theorem RowB.made (w : World) (E : Nat) (bs : List UInt8) : RowB (w.alloc (.cells (bVs bs).toArray E)) w.heap.size E bs := heap_alloc_new w _
theorem RowB.lt {w : World} {g E : Nat} {bs : List UInt8} (h : RowB w g E bs) : g < w.heap.size := by
 rcases Nat.lt_or_ge g w.heap.size with hlt | hge
 ·exact hlt
 ·unfold RowB at h; rw [Array.getElem?_eq_none hge] at h; cases h
theorem RowB.below {w w' : World} {g E B : Nat} {bs : List UInt8} (h : RowB w g E bs) (hb : Below B w w') (hg : g < B) : RowB w' g E bs := (hb.block g hg).trans h
theorem RowB.keep {w w' : World} {g E : Nat} {bs : List UInt8} (h : RowB w g E bs) (hb : Below w.heap.size w w') : RowB w' g E bs := h.below hb h.lt
theorem RowB.alloc {w : World} {g E : Nat} {bs : List UInt8} (h : RowB w g E bs) (o : Obj) : RowB (w.alloc o) g E bs := h.keep ((Below.refl _ _).alloc (Nat.le_refl _) _)
theorem RowB.cell {w : World} {g E : Nat} {bs : List UInt8} (h : RowB w g E bs) (i : Nat) (hi : i < bs.length) : w.cell? ⟨g, i, none⟩ = some (.int .u8 (bs[i].toNat : Int)) := by
 rw [cell_of_row w g i _ E (0, 0) h]
 have := bVs_get bs i hi
 simpa using this
theorem RowB.rd {w : World} {g E : Nat} {bs : List UInt8} (h : RowB w g E bs) (o : Nat) (cs : List UInt8) (ho : o + cs.length ≤ bs.length) (hc : ∀ i (hi : i < cs.length), cs[i] = bs[o + i]'(by omega)) (hl : bs.length ≤ 9223372036854775807) :
  Rd w (some ⟨g, o, none⟩) cs :=
 ⟨by omega, (fun e => by cases e), fun ad e i hi => by
  injection e with e
  subst e
  have e1 : (⟨g, o, none⟩ : Addr).add i = ⟨g, o + i, none⟩ := by unfold Addr.add; split <;> simp_all
  rw [e1, h.cell (o + i) (by omega), hc i hi]⟩
theorem RowB.rd0 {w : World} {g E : Nat} {bs : List UInt8} (h : RowB w g E bs) (n : Nat) (hn : n ≤ bs.length) (hl : bs.length ≤ 9223372036854775807) : Rd w (some ⟨g, 0, none⟩) (bs.take n) :=
 h.rd 0 (bs.take n) (by simp; omega) (fun i hi => by simp) hl
theorem RowB.set {w : World} {g E : Nat} {bs : List UInt8} (h : RowB w g E bs) (i : Nat) (b : UInt8) : RowB (w.setCell ⟨g, i, none⟩ (.int .u8 (b.toNat : Int))) g E (bs.set i b) := by
 unfold RowB at h ⊢
 have e : (bVs (bs.set i b)).toArray = (bVs bs).toArray.setIfInBounds i (.int .u8 (b.toNat : Int)) := by
  simp [bVs, List.map_set, bV]
 rw [e]
 simp [World.setCell, Array.getElem?_modify, h]
theorem RowB.own {w : World} {g E : Nat} {bs : List UInt8} (h : RowB w g E bs) (base n : Nat) (hb : base ≤ g) (hn : bs.length = n) (hl : n ≤ 9223372036854775807) : Own w E base (.slice (some ⟨g, 0, none⟩) n n) bs := by
 subst hn
 exact ⟨by rw [bVs_len, Nat.mul_one], .inr ⟨g, bs.length, (bVs bs).toArray, rfl, hb, h, Nat.le_refl _, by simp only [maxLen]; omega, by simp [bVs_len], by simp [bVs_len, List.take_of_length_le]⟩⟩
theorem bVs_put (bs cs : List UInt8) (o : Nat) : (bVs bs).take o ++ bVs cs ++ (bVs bs).drop (o + (bVs cs).length) = bVs (putB bs o cs) := by
 simp [bVs, putB, List.map_take, List.map_drop]
section
variable {P : Program}
theorem run_copy_rd (w : World) (dT sT ty e : TypeId) (hu : P.underlying dT = some (.slice e)) (hi : (P.info? e).map (fun i => (i.zero, i.size, i.bytes)) = some (some (.int .u8 0), 1, 1))
  (g o dLen dCap : Nat) (bs cs : List UInt8) (A : Option Addr) (n c : Nat) (hg : RowB w g e bs) (hr : Rd w A cs) (hn : cs.length = n) (hd : n ≤ dLen) (hfit : o + n ≤ bs.length) :
  (Builtin.copy_ #[dT, sT] ty #[.slice (some ⟨g, o, none⟩) dLen dCap, .slice A n c]).run P w = .ok (goInt n) (w.setRow g (bVs (putB bs o cs)).toArray) := by
 subst hn
 obtain ⟨i0, hi0, hz0, hz1, hz2⟩ := info_parts hi
 have hs : (P.info? e).map (·.size) = some 1 := by simp [hi0, hz1]
 have hmin : Nat.min cs.length dLen = cs.length := Nat.min_eq_left hd
 have hrow := fun (a : Addr) (hsrc : ∀ j v, (bVs cs)[j]? = some v → w.cell? (a.add j) = some v) => run_copy_row (P := P) w dT sT ty e g o dLen dCap a cs.length c (bVs bs).toArray e (bVs cs) hu hs hg (by rw [bVs_len, hmin]) hsrc (by simp [bVs_len]; omega) (bVs_one cs)
 simp only [bVs_len] at hrow
 have hput := bVs_put bs cs o
 rw [bVs_len] at hput
 cases A with
 | none =>
  have e0 : cs = [] := hr.2.1 rfl
  subst e0
  have hpe : putB bs o [] = bs := by simp [putB]
  have hself : w.setRow g (bVs bs).toArray = w := setRow_self w g _ e (0, 0) hg
  rw [hpe, hself]
  exact run_copy_none w dT sT ty e _ _ dLen dCap 0 c hu hs (by simp)
 | some ad =>
  have h := hrow ad (fun j v hj => by
   have hj' : j < cs.length := by
    have := (List.getElem?_eq_some_iff.1 hj).1
    simpa [bVs_len] using this
   rw [bVs_get cs j hj'] at hj
   injection hj with hj
   subst hj
   exact hr.cell j hj')
  simp only [hput] at h
  exact h
theorem run_copy_str (w : World) (dT sT ty e : TypeId) (hu : P.underlying dT = some (.slice e)) (hi : (P.info? e).map (fun i => (i.zero, i.size, i.bytes)) = some (some (.int .u8 0), 1, 1))
  (g o dLen dCap : Nat) (bs cs : List UInt8) (hg : RowB w g e bs) (hd : cs.length ≤ dLen) (hfit : o + cs.length ≤ bs.length) :
  (Builtin.copy_ #[dT, sT] ty #[.slice (some ⟨g, o, none⟩) dLen dCap, .string ⟨cs.toArray⟩]).run P w = .ok (goInt cs.length) (w.setRow g (bVs (putB bs o cs)).toArray) := by
 obtain ⟨i0, hi0, hz0, hz1, hz2⟩ := info_parts hi
 have hsz : (⟨cs.toArray⟩ : ByteArray).size = cs.length := by simp [ByteArray.size]
 have hmin : Nat.min cs.length dLen = cs.length := Nat.min_eq_left hd
 have hst := run_storeCells_at P g o e (bVs cs) 0 (bVs bs).toArray w hg (by simp [bVs_len]; omega) (bVs_one cs)
 have hex : List.take cs.length (List.map (fun b : UInt8 => Value.int .u8 (b.toNat : Int)) cs) = bVs cs := by
  rw [List.take_of_length_le (by simp)]
  rfl
 have hput := bVs_put bs cs o
 simp only [Nat.add_zero] at hst
 rw [hput] at hst
 simp [Builtin.copy_, run_underlying hu, Builtin.lenOf, Builtin.firstCells, sizeOf, typeInfo, hi0, hsz, hmin, hex, hst, Result.andThen_ok]
theorem below_put {w w0 : World} {B g : Nat} (hb : Below B w0 w) (hg : B ≤ g) (cs : Array Value) : Below B w0 (w.setRow g cs) :=
 hb.trans ⟨rfl, rfl, rfl, by simp [World.setRow], fun k hk => setRow_other w g k cs (by omega)⟩
theorem ex_copy_rd (w : World) (dT sT ty e : TypeId) (hu : P.underlying dT = some (.slice e)) (hi : (P.info? e).map (fun i => (i.zero, i.size, i.bytes)) = some (some (.int .u8 0), 1, 1))
  (g o dLen dCap : Nat) (bs cs : List UInt8) (A : Option Addr) (n c : Nat) (hg : RowB w g e bs) (hr : Rd w A cs) (hn : cs.length = n) (hd : n ≤ dLen) (hfit : o + n ≤ bs.length) (B : Nat) (hBg : B ≤ g) :
  ∃ w', (Builtin.copy_ #[dT, sT] ty #[.slice (some ⟨g, o, none⟩) dLen dCap, .slice A n c]).run P w = .ok (.int .i64 n) w' ∧ RowB w' g e (putB bs o cs) ∧ Below B w w' ∧ ∀ k, k ≠ g → w'.heap[k]? = w.heap[k]? :=
 ⟨_, run_copy_rd (P := P) w dT sT ty e hu hi g o dLen dCap bs cs A n c hg hr hn hd hfit, setRow_heap w g _ _ e _ hg, below_put (Below.refl _ _) hBg _, fun k hk => setRow_other w g k _ hk⟩
theorem ex_copy_str (w : World) (dT sT ty e : TypeId) (hu : P.underlying dT = some (.slice e)) (hi : (P.info? e).map (fun i => (i.zero, i.size, i.bytes)) = some (some (.int .u8 0), 1, 1))
  (g o dLen dCap : Nat) (bs cs : List UInt8) (hg : RowB w g e bs) (hd : cs.length ≤ dLen) (hfit : o + cs.length ≤ bs.length) (B : Nat) (hBg : B ≤ g) :
  ∃ w', (Builtin.copy_ #[dT, sT] ty #[.slice (some ⟨g, o, none⟩) dLen dCap, .string ⟨cs.toArray⟩]).run P w = .ok (.int .i64 (cs.length : Int)) w' ∧ RowB w' g e (putB bs o cs) ∧ Below B w w' ∧ ∀ k, k ≠ g → w'.heap[k]? = w.heap[k]? :=
 ⟨_, run_copy_str (P := P) w dT sT ty e hu hi g o dLen dCap bs cs hg hd hfit, setRow_heap w g _ _ e _ hg, below_put (Below.refl _ _) hBg _, fun k hk => setRow_other w g k _ hk⟩
end
end
section
open Go.RowKit
def SlAt (w : World) (E base g o cap : Nat) (bs : List UInt8) : Prop :=
 base ≤ g ∧ bs.length ≤ cap ∧ cap ≤ maxLen ∧ ∃ cur, w.heap[g]? = some (.cells cur E (0, 0)) ∧ cur.size = o + cap ∧ ∀ i (h : i < bs.length), cur[o + i]? = some (bV bs[i])
section
variable {w w' : World} {E base g o cap : Nat} {bs : List UInt8}
theorem SlAt.lt (h : SlAt w E base g o cap bs) : g < w.heap.size := by
 obtain ⟨_, _, _, cur, h1, _⟩ := h
 rcases Nat.lt_or_ge g w.heap.size with hlt | hge
 ·exact hlt
 ·rw [Array.getElem?_eq_none hge] at h1; cases h1
theorem SlAt.kept (h : SlAt w E base g o cap bs) (hb : w'.heap[g]? = w.heap[g]?) : SlAt w' E base g o cap bs := by
 obtain ⟨h1, h2, h3, cur, h4, h5⟩ := h
 exact ⟨h1, h2, h3, cur, hb.trans h4, h5⟩
theorem SlAt.cell (h : SlAt w E base g o cap bs) (i : Nat) (hi : i < bs.length) : w.cell? ⟨g, o + i, none⟩ = some (.int .u8 (bs[i].toNat : Int)) := by
 obtain ⟨_, _, _, cur, h4, _, h6⟩ := h
 rw [cell_of_row w g (o + i) _ E (0, 0) h4]
 exact h6 i hi
theorem SlAt.spare (h : SlAt w E base g o cap bs) (j : Nat) (hj : j < cap) : (w.cell? ⟨g, o + j, none⟩).isSome = true ∧ w.frozen? ⟨g, o + j, none⟩ = false := by
 obtain ⟨_, _, _, cur, h4, h5, _⟩ := h
 rw [cell_of_row w g (o + j) _ E (0, 0) h4]
 refine ⟨?_, by simp [World.frozen?, h4]⟩
 rw [Array.getElem?_eq_getElem (by omega)]
 rfl
theorem SlAt.drop (h : SlAt w E base g o cap bs) (k : Nat) (hk : k ≤ bs.length) : SlAt w E base g (o + k) (cap - k) (bs.drop k) := by
 obtain ⟨h1, h2, h3, cur, h4, h5, h6⟩ := h
 refine ⟨h1, by rw [List.length_drop]; omega, by omega, cur, h4, by omega, fun i hi => ?_⟩
 rw [List.length_drop] at hi
 rw [List.getElem_drop, Nat.add_assoc]
 exact h6 (k + i) (by omega)
end
structure But (g : Nat) (w w' : World) : Prop where
 os : w'.os = w.os
 tape : w'.tape = w.tape
 output : w'.output = w.output
 size : w.heap.size ≤ w'.heap.size
 block : ∀ k, k < w.heap.size → k ≠ g → w'.heap[k]? = w.heap[k]?
theorem But.setCell (w : World) (a : Addr) (u : Value) : But a.block w (w.setCell a u) :=
 ⟨rfl, rfl, rfl, by simp [World.setCell], fun k _ hk => heap_setCell_other w a k u hk⟩
theorem But.of_grown {g : Nat} {w w' : World} (h : w.grownBy w' none) : But g w w' :=
 ⟨h.os, h.tape, h.output, h.size, fun k hk _ => h.block k hk (by simp)⟩
theorem But.below {g base : Nat} {w w' : World} (h : But g w w') (hg : base ≤ g) (hb : base ≤ w.heap.size) : Below base w w' :=
 ⟨h.os, h.tape, h.output, h.size, fun k hk => h.block k (by omega) (by omega)⟩
end
section
open Go.RowKit
theorem results_row_tmp {P : Program} {fn : Func} {p u : Tmp} {ty : TypeId} (h : fn.results = #[.cell p ty, .tmp u]) (tmps : Array Value) (w : World) (g : Nat) (t : TypeId) (cs : Array Value) (fr : Nat × Nat) (d : TypeDesc)
  (hp : tmps.getD p undef = .pointer (some ⟨g, 0, none⟩)) (hg : w.heap[g]? = some (.cells cs t fr))
  (hu : P.underlying ty = some d) (hd : (match d with | .struct _ | .array _ _ => true | _ => false) = true) (hi : (P.info? ty).map (·.size) = some cs.size) :
  (results fn tmps).run P w = .ok (.tuple #[.agg cs, tmps.getD u undef]) w := by
 rw [results_cell_tmp h, hp]
 simp [asAddr, Result.andThen, run_loadVar_row w g t ty cs fr d hg hu hd hi]
def set8 (w : World) (g : Nat) (v0 v1 v2 v3 v4 v5 v6 v7 : Value) : World :=
 (((((((w.setCell ⟨g, 0, none⟩ v0).setCell ⟨g, 1, none⟩ v1).setCell ⟨g, 2, none⟩ v2).setCell ⟨g, 3, none⟩ v3).setCell ⟨g, 4, none⟩ v4).setCell ⟨g, 5, none⟩ v5).setCell ⟨g, 6, none⟩ v6).setCell ⟨g, 7, none⟩ v7
theorem set8_row (w : World) (g t : Nat) (u0 u1 u2 u3 u4 u5 u6 u7 v0 v1 v2 v3 v4 v5 v6 v7 : Value) (h : w.heap[g]? = some (.cells #[u0, u1, u2, u3, u4, u5, u6, u7] t)) :
  (set8 w g v0 v1 v2 v3 v4 v5 v6 v7).heap[g]? = some (.cells #[v0, v1, v2, v3, v4, v5, v6, v7] t) := by
 unfold set8
 have h0 : (w.setCell ⟨g, 0, none⟩ v0).heap[g]? = some (.cells #[v0, u1, u2, u3, u4, u5, u6, u7] t) := (heap_setCell_same w g 0 _ t v0 h).trans (by rfl)
 have h1 : ((w.setCell ⟨g, 0, none⟩ v0).setCell ⟨g, 1, none⟩ v1).heap[g]? = some (.cells #[v0, v1, u2, u3, u4, u5, u6, u7] t) := (heap_setCell_same (w.setCell ⟨g, 0, none⟩ v0) g 1 _ t v1 h0).trans (by rfl)
 have h2 : (((w.setCell ⟨g, 0, none⟩ v0).setCell ⟨g, 1, none⟩ v1).setCell ⟨g, 2, none⟩ v2).heap[g]? = some (.cells #[v0, v1, v2, u3, u4, u5, u6, u7] t) := (heap_setCell_same ((w.setCell ⟨g, 0, none⟩ v0).setCell ⟨g, 1, none⟩ v1) g 2 _ t v2 h1).trans (by rfl)
 have h3 : ((((w.setCell ⟨g, 0, none⟩ v0).setCell ⟨g, 1, none⟩ v1).setCell ⟨g, 2, none⟩ v2).setCell ⟨g, 3, none⟩ v3).heap[g]? = some (.cells #[v0, v1, v2, v3, u4, u5, u6, u7] t) := (heap_setCell_same (((w.setCell ⟨g, 0, none⟩ v0).setCell ⟨g, 1, none⟩ v1).setCell ⟨g, 2, none⟩ v2) g 3 _ t v3 h2).trans (by rfl)
 have h4 : (((((w.setCell ⟨g, 0, none⟩ v0).setCell ⟨g, 1, none⟩ v1).setCell ⟨g, 2, none⟩ v2).setCell ⟨g, 3, none⟩ v3).setCell ⟨g, 4, none⟩ v4).heap[g]? = some (.cells #[v0, v1, v2, v3, v4, u5, u6, u7] t) := (heap_setCell_same ((((w.setCell ⟨g, 0, none⟩ v0).setCell ⟨g, 1, none⟩ v1).setCell ⟨g, 2, none⟩ v2).setCell ⟨g, 3, none⟩ v3) g 4 _ t v4 h3).trans (by rfl)
 have h5 : ((((((w.setCell ⟨g, 0, none⟩ v0).setCell ⟨g, 1, none⟩ v1).setCell ⟨g, 2, none⟩ v2).setCell ⟨g, 3, none⟩ v3).setCell ⟨g, 4, none⟩ v4).setCell ⟨g, 5, none⟩ v5).heap[g]? = some (.cells #[v0, v1, v2, v3, v4, v5, u6, u7] t) := (heap_setCell_same (((((w.setCell ⟨g, 0, none⟩ v0).setCell ⟨g, 1, none⟩ v1).setCell ⟨g, 2, none⟩ v2).setCell ⟨g, 3, none⟩ v3).setCell ⟨g, 4, none⟩ v4) g 5 _ t v5 h4).trans (by rfl)
 have h6 : (((((((w.setCell ⟨g, 0, none⟩ v0).setCell ⟨g, 1, none⟩ v1).setCell ⟨g, 2, none⟩ v2).setCell ⟨g, 3, none⟩ v3).setCell ⟨g, 4, none⟩ v4).setCell ⟨g, 5, none⟩ v5).setCell ⟨g, 6, none⟩ v6).heap[g]? = some (.cells #[v0, v1, v2, v3, v4, v5, v6, u7] t) := (heap_setCell_same ((((((w.setCell ⟨g, 0, none⟩ v0).setCell ⟨g, 1, none⟩ v1).setCell ⟨g, 2, none⟩ v2).setCell ⟨g, 3, none⟩ v3).setCell ⟨g, 4, none⟩ v4).setCell ⟨g, 5, none⟩ v5) g 6 _ t v6 h5).trans (by rfl)
 have h7 : ((((((((w.setCell ⟨g, 0, none⟩ v0).setCell ⟨g, 1, none⟩ v1).setCell ⟨g, 2, none⟩ v2).setCell ⟨g, 3, none⟩ v3).setCell ⟨g, 4, none⟩ v4).setCell ⟨g, 5, none⟩ v5).setCell ⟨g, 6, none⟩ v6).setCell ⟨g, 7, none⟩ v7).heap[g]? = some (.cells #[v0, v1, v2, v3, v4, v5, v6, v7] t) := (heap_setCell_same (((((((w.setCell ⟨g, 0, none⟩ v0).setCell ⟨g, 1, none⟩ v1).setCell ⟨g, 2, none⟩ v2).setCell ⟨g, 3, none⟩ v3).setCell ⟨g, 4, none⟩ v4).setCell ⟨g, 5, none⟩ v5).setCell ⟨g, 6, none⟩ v6) g 7 _ t v7 h6).trans (by rfl)
 exact h7
theorem set8_below {B g : Nat} {w0 w : World} (h : Below B w0 w) (hg : B ≤ g) (v0 v1 v2 v3 v4 v5 v6 v7 : Value) : Below B w0 (set8 w g v0 v1 v2 v3 v4 v5 v6 v7) := by
 unfold set8
 exact (((((((h.setCell (p := ⟨g, 0, none⟩) hg v0).setCell (p := ⟨g, 1, none⟩) hg v1).setCell (p := ⟨g, 2, none⟩) hg v2).setCell (p := ⟨g, 3, none⟩) hg v3).setCell (p := ⟨g, 4, none⟩) hg v4).setCell (p := ⟨g, 5, none⟩) hg v5).setCell (p := ⟨g, 6, none⟩) hg v6).setCell (p := ⟨g, 7, none⟩) hg v7
theorem row8_cells (w : World) (g t : Nat) (u0 u1 u2 u3 u4 u5 u6 u7 : Value) (h : w.heap[g]? = some (.cells #[u0, u1, u2, u3, u4, u5, u6, u7] t)) :
  w.cell? ⟨g, 0, none⟩ = some u0 ∧ w.cell? ⟨g, 1, none⟩ = some u1 ∧ w.cell? ⟨g, 2, none⟩ = some u2 ∧ w.cell? ⟨g, 3, none⟩ = some u3 ∧ w.cell? ⟨g, 4, none⟩ = some u4 ∧ w.cell? ⟨g, 5, none⟩ = some u5 ∧ w.cell? ⟨g, 6, none⟩ = some u6 ∧ w.cell? ⟨g, 7, none⟩ = some u7 ∧ ∀ j, w.frozen? ⟨g, j, none⟩ = false :=
 ⟨cell_of_row w g 0 _ _ _ h, cell_of_row w g 1 _ _ _ h, cell_of_row w g 2 _ _ _ h, cell_of_row w g 3 _ _ _ h, cell_of_row w g 4 _ _ _ h, cell_of_row w g 5 _ _ _ h, cell_of_row w g 6 _ _ _ h, cell_of_row w g 7 _ _ _ h, fun j => frozen_of_row w g j _ _ h⟩
end
end Go.Proofs.Ytajnlhalanhicaa

/-
 Several texts of this work in one (merge.py): ShOp, SuOp.
-/
import Derived.Test.YtajnlhalanhicaaShJ
import Derived.Test.YtajnlhalanhicaaSuJ
namespace Go.Proofs.Ytajnlhalanhicaa
set_option linter.all false
set_option maxRecDepth 20000
section
open Go.RowKit
structure OpM where
 kind : Int
 d : Int
 n : Int
 at_ : Int
 with_ : UInt8
 keep : List (List Int)
 ka : Option Addr
 kc : Nat
def opCells (o : OpM) : List Value := [.int .i64 o.kind, .int .i64 o.d, .int .i64 o.n, .int .i64 o.at_, .int .u8 (o.with_.toNat : Int), .slice o.ka o.keep.length o.kc]
structure OpsAt (w : World) (base : Nat) (A : Option Addr) (ops : List OpM) : Prop where
 none_ : A = none → ops = []
 spot : ∀ ad, A = some ad → 0 < ops.length → ∃ b o, ad = ⟨b, o, none⟩ ∧ b < base
 cell : ∀ b o, A = some ⟨b, o, none⟩ → ∀ i (h : i < ops.length), ∀ j, j < 6 → w.cell? ⟨b, o + i * 6 + j, none⟩ = (opCells ops[i])[j]?
 keeps : ∀ x ∈ ops, KeepL w base x.ka x.keep
theorem OpsAt.below {w w' : World} {base : Nat} {A : Option Addr} {ops : List OpM} (h : OpsAt w base A ops) (hb : Below base w w') (hs : base ≤ w.heap.size) : OpsAt w' base A ops := by
 refine ⟨h.none_, h.spot, fun b o e i hi j hj => ?_, fun x hx => (h.keeps x hx).below hb hs⟩
 obtain ⟨b', o', e', hlt⟩ := h.spot _ e (Nat.lt_of_le_of_lt (Nat.zero_le _) hi)
 simp only [Addr.mk.injEq, and_true] at e'
 obtain ⟨rfl, rfl⟩ := e'
 exact (hb.cell (p := ⟨b, o + i * 6 + j, none⟩) hlt).trans (h.cell b o e i hi j hj)
theorem OpsAt.get {w : World} {base : Nat} {A : Option Addr} {ops : List OpM} (h : OpsAt w base A ops) {i : Nat} (hi : i < ops.length) :
  ∃ b o, A = some ⟨b, o, none⟩ ∧ b < base ∧ w.cell? ⟨b, o + i * 6, none⟩ = some (.int .i64 ops[i].kind) ∧ w.cell? ⟨b, o + i * 6 + 1, none⟩ = some (.int .i64 ops[i].d) ∧ w.cell? ⟨b, o + i * 6 + 2, none⟩ = some (.int .i64 ops[i].n) ∧
   w.cell? ⟨b, o + i * 6 + 3, none⟩ = some (.int .i64 ops[i].at_) ∧ w.cell? ⟨b, o + i * 6 + 4, none⟩ = some (.int .u8 (ops[i].with_.toNat : Int)) ∧ w.cell? ⟨b, o + i * 6 + 5, none⟩ = some (.slice ops[i].ka ops[i].keep.length ops[i].kc) ∧ KeepL w base ops[i].ka ops[i].keep := by
 cases A with
 | none => have := h.none_ rfl; subst this; simp at hi
 | some ad =>
  obtain ⟨b, o, rfl, hlt⟩ := h.spot ad rfl (by omega)
  have hc := fun j hj => h.cell b o rfl i hi j hj
  exact ⟨b, o, rfl, hlt, (hc 0 (by omega)).trans rfl, (hc 1 (by omega)).trans rfl, (hc 2 (by omega)).trans rfl, (hc 3 (by omega)).trans rfl, (hc 4 (by omega)).trans rfl, (hc 5 (by omega)).trans rfl, h.keeps _ (List.getElem_mem hi)⟩
end
section
open Go.RowKit
structure OpS where
 kind : Int
 n : Int
 at_ : Int
 with_ : UInt8
 keep : List (List Int)
 ka : Option Addr
 kc : Nat
def opSCells (o : OpS) : List Value := [.int .i64 o.kind, .int .i64 o.n, .int .i64 o.at_, .int .u8 (o.with_.toNat : Int), .slice o.ka o.keep.length o.kc]
structure OpsS (w : World) (base : Nat) (A : Option Addr) (ops : List OpS) : Prop where
 none_ : A = none → ops = []
 spot : ∀ ad, A = some ad → 0 < ops.length → ∃ b o, ad = ⟨b, o, none⟩ ∧ b < base
 cell : ∀ b o, A = some ⟨b, o, none⟩ → ∀ i (h : i < ops.length), ∀ j, j < 5 → w.cell? ⟨b, o + i * 5 + j, none⟩ = (opSCells ops[i])[j]?
 keeps : ∀ x ∈ ops, KeepL w base x.ka x.keep
theorem OpsS.below {w w' : World} {base : Nat} {A : Option Addr} {ops : List OpS} (h : OpsS w base A ops) (hb : Below base w w') (hs : base ≤ w.heap.size) : OpsS w' base A ops := by
 refine ⟨h.none_, h.spot, fun b o e i hi j hj => ?_, fun x hx => (h.keeps x hx).below hb hs⟩
 obtain ⟨b', o', e', hlt⟩ := h.spot _ e (Nat.lt_of_le_of_lt (Nat.zero_le _) hi)
 simp only [Addr.mk.injEq, and_true] at e'
 obtain ⟨rfl, rfl⟩ := e'
 exact (hb.cell (p := ⟨b, o + i * 5 + j, none⟩) hlt).trans (h.cell b o e i hi j hj)
theorem OpsS.get {w : World} {base : Nat} {A : Option Addr} {ops : List OpS} (h : OpsS w base A ops) {i : Nat} (hi : i < ops.length) :
  ∃ b o, A = some ⟨b, o, none⟩ ∧ b < base ∧ w.cell? ⟨b, o + i * 5, none⟩ = some (.int .i64 ops[i].kind) ∧ w.cell? ⟨b, o + i * 5 + 1, none⟩ = some (.int .i64 ops[i].n) ∧
   w.cell? ⟨b, o + i * 5 + 2, none⟩ = some (.int .i64 ops[i].at_) ∧ w.cell? ⟨b, o + i * 5 + 3, none⟩ = some (.int .u8 (ops[i].with_.toNat : Int)) ∧ w.cell? ⟨b, o + i * 5 + 4, none⟩ = some (.slice ops[i].ka ops[i].keep.length ops[i].kc) ∧ KeepL w base ops[i].ka ops[i].keep := by
 cases A with
 | none => have := h.none_ rfl; subst this; simp at hi
 | some ad =>
  obtain ⟨b, o, rfl, hlt⟩ := h.spot ad rfl (by omega)
  have hc := fun j hj => h.cell b o rfl i hi j hj
  exact ⟨b, o, rfl, hlt, (hc 0 (by omega)).trans rfl, (hc 1 (by omega)).trans rfl, (hc 2 (by omega)).trans rfl, (hc 3 (by omega)).trans rfl, (hc 4 (by omega)).trans rfl, h.keeps _ (List.getElem_mem hi)⟩
end
end Go.Proofs.Ytajnlhalanhicaa

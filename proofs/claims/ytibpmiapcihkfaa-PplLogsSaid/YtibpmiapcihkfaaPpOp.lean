/-
  The calls of a log that came in: what they are as plain data, how they lie.
-/
import Derived.Test.YtibpmiapcihkfaaPpI
namespace Go.Proofs.Ytibpmiapcihkfaa
set_option linter.all false
open Go.RowKit

structure OpP where
  kind : Int
  slot : Int
  r : Rec
  ra : Option Addr
  rc : Nat
def opPCells (o : OpP) : List Value := [.int .i64 o.kind, .int .i64 o.slot, .int .i64 o.r.stripe, .int .i64 o.r.place, .slice o.ra o.r.part.length o.rc]
/-- the slice with address A holds these calls; whatever it leads to lies below base -/
structure OpsP (w : World) (base : Nat) (A : Option Addr) (ops : List OpP) : Prop where
  none_ : A = none → ops = []
  spot : ∀ ad, A = some ad → 0 < ops.length → ∃ b o, ad = ⟨b, o, none⟩ ∧ b < base
  cell : ∀ b o, A = some ⟨b, o, none⟩ → ∀ i (h : i < ops.length), ∀ j, j < 5 → w.cell? ⟨b, o + i * 5 + j, none⟩ = (opPCells ops[i])[j]?
  parts : ∀ x ∈ ops, Rd w x.ra x.r.part ∧ ∀ ad, x.ra = some ad → 0 < x.r.part.length → ad.block < base
theorem rd_base {w w' : World} {base : Nat} {A : Option Addr} {bs : List UInt8} (h : Rd w A bs) (hl : ∀ ad, A = some ad → 0 < bs.length → ad.block < base) (hb : Below base w w') : Rd w' A bs :=
  ⟨h.1, h.2.1, fun ad e i hi => (World.cell?_of_block (by rw [add_block]; exact hb.block _ (hl ad e (by omega)))).trans (h.2.2 ad e i hi)⟩
theorem OpsP.below {w w' : World} {base : Nat} {A : Option Addr} {ops : List OpP} (h : OpsP w base A ops) (hb : Below base w w') : OpsP w' base A ops := by
  refine ⟨h.none_, h.spot, fun b o e i hi j hj => ?_, fun x hx => ⟨rd_base (h.parts x hx).1 (h.parts x hx).2 hb, (h.parts x hx).2⟩⟩
  obtain ⟨b', o', e', hlt⟩ := h.spot _ e (Nat.lt_of_le_of_lt (Nat.zero_le _) hi)
  simp only [Addr.mk.injEq, and_true] at e'
  obtain ⟨rfl, rfl⟩ := e'
  exact (hb.cell (p := ⟨b, o + i * 5 + j, none⟩) hlt).trans (h.cell b o e i hi j hj)
theorem OpsP.get {w : World} {base : Nat} {A : Option Addr} {ops : List OpP} (h : OpsP w base A ops) {i : Nat} (hi : i < ops.length) :
    ∃ b o, A = some ⟨b, o, none⟩ ∧ b < base ∧ w.cell? ⟨b, o + i * 5, none⟩ = some (.int .i64 ops[i].kind) ∧ w.cell? ⟨b, o + i * 5 + 1, none⟩ = some (.int .i64 ops[i].slot) ∧
      w.cell? ⟨b, o + i * 5 + 2, none⟩ = some (.int .i64 ops[i].r.stripe) ∧ w.cell? ⟨b, o + i * 5 + 3, none⟩ = some (.int .i64 ops[i].r.place) ∧ w.cell? ⟨b, o + i * 5 + 4, none⟩ = some (.slice ops[i].ra ops[i].r.part.length ops[i].rc) ∧
      Rd w ops[i].ra ops[i].r.part ∧ ∀ ad, ops[i].ra = some ad → 0 < ops[i].r.part.length → ad.block < base := by
  cases A with
  | none => have := h.none_ rfl; subst this; simp at hi
  | some ad =>
    obtain ⟨b, o, rfl, hlt⟩ := h.spot ad rfl (by omega)
    have hc := fun j hj => h.cell b o rfl i hi j hj
    have hp := h.parts _ (List.getElem_mem hi)
    exact ⟨b, o, rfl, hlt, (hc 0 (by omega)).trans rfl, (hc 1 (by omega)).trans rfl, (hc 2 (by omega)).trans rfl, (hc 3 (by omega)).trans rfl, (hc 4 (by omega)).trans rfl, hp.1, hp.2⟩
end Go.Proofs.Ytibpmiapcihkfaa

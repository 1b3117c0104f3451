/-
  '[]byte(s)': the row that it makes; storing into it; reading it.
-/
import Derived.Test.YtikfbhepnnbdoaaMem
import Derived.Laws.IdiomStrings
namespace Go.Proofs.Ytikfbhepnnbdoaa
set_option linter.all false
open Go.RowKit

/-- block g begins with the bytes bs; behind them lie others, and the runtime's mark -/
def RowM (w : World) (g : Nat) (bs : List UInt8) : Prop :=
  ∃ (z : List Value) (e m : Nat), w.heap[g]? = some (.cells (bVs bs ++ z).toArray e (m, m + 1)) ∧ bs.length ≤ m
theorem RowM.of_block {w w' : World} {g : Nat} {bs : List UInt8} (h : RowM w g bs) (hb : w'.heap[g]? = w.heap[g]?) : RowM w' g bs := by
  obtain ⟨z, e, m, h1, h2⟩ := h
  exact ⟨z, e, m, hb.trans h1, h2⟩
theorem RowM.lt {w : World} {g : Nat} {bs : List UInt8} (h : RowM w g bs) : g < w.heap.size := by
  obtain ⟨z, e, m, h1, _⟩ := h
  exact (Array.getElem?_eq_some_iff.1 h1).1
theorem RowM.cell {w : World} {g : Nat} {bs : List UInt8} (h : RowM w g bs) (i : Nat) (hi : i < bs.length) : w.cell? ⟨g, i, none⟩ = some (.int .u8 (bs[i].toNat : Int)) := by
  obtain ⟨z, e, m, h1, _⟩ := h
  simp only [World.cell?, h1]
  have h2 := bVs_get bs i hi
  simp only [List.getElem?_toArray]
  rw [List.getElem?_append_left (by rw [bVs_len]; exact hi), h2]
  rfl
theorem RowM.frozen {w : World} {g : Nat} {bs : List UInt8} (h : RowM w g bs) (i : Nat) (hi : i < bs.length) : w.frozen? ⟨g, i, none⟩ = false := by
  obtain ⟨z, e, m, h1, h2⟩ := h
  simp only [World.frozen?, h1]
  simp
  omega
theorem RowM.set {w : World} {g : Nat} {bs : List UInt8} (h : RowM w g bs) (i : Nat) (hi : i < bs.length) (b : UInt8) : RowM (w.setCell ⟨g, i, none⟩ (.int .u8 (b.toNat : Int))) g (bs.set i b) := by
  obtain ⟨z, e, m, h1, h2⟩ := h
  refine ⟨z, e, m, ?_, by simpa using h2⟩
  have e1 : (bVs (bs.set i b) ++ z).toArray = (bVs bs ++ z).toArray.setIfInBounds i (.int .u8 (b.toNat : Int)) := by
    have : bVs (bs.set i b) = (bVs bs).set i (.int .u8 (b.toNat : Int)) := by simp [bVs, List.map_set, bV]
    rw [this]
    simp only [List.setIfInBounds_toArray]
    rw [List.set_append_left _ _ (by rw [bVs_len]; exact hi)]
  rw [e1]
  simp [World.setCell, Array.getElem?_modify, h1]
theorem RowM.rd {w : World} {g : Nat} {bs : List UInt8} (h : RowM w g bs) (h3 : bs.length ≤ 9223372036854775807) : Rd w (some ⟨g, 0, none⟩) bs := by
  refine ⟨h3, (fun e => by cases e), fun ad e i hi => ?_⟩
  injection e with e
  subst e
  have e1 : (⟨g, 0, none⟩ : Addr).add i = ⟨g, i, none⟩ := by unfold Addr.add; split <;> simp_all
  rw [e1]
  exact h.cell i hi

theorem ex_bytes {P : Program} (w : World) (src dst e : TypeId) (hs : P.underlying src = some .string) (hd : P.underlying dst = some (.slice e)) (he : P.underlying e = some (.int .u8)) (bs : List UInt8) :
    ∃ c w', (convert src dst (.string ⟨bs.toArray⟩)).run P w = .ok (.slice (some ⟨w.heap.size, 0, none⟩) bs.length c) w' ∧ RowM w' w.heap.size bs ∧ Below w.heap.size w w' ∧ w'.heap.size = w.heap.size + 1 ∧ bs.length ≤ c := by
  have h := run_bytes_of_string (P := P) w src dst e ⟨bs.toArray⟩ hs hd he
  have hsz : (⟨bs.toArray⟩ : ByteArray).size = bs.length := by simp [ByteArray.size]
  rw [hsz] at h
  have hrow : ∀ c, bytesRow ⟨bs.toArray⟩ c = (bVs bs ++ List.replicate (c - bs.length) (Value.int .u8 0)).toArray := by
    intro c
    simp only [bytesRow, hsz]
    apply Array.toList_inj.1
    simp [bVs, bV]
  refine ⟨_, _, h, ⟨List.replicate (grownCap w bs.length 0 e - bs.length) (Value.int .u8 0), e, (bytesRow ⟨bs.toArray⟩ (grownCap w bs.length 0 e)).size, ?_, ?_⟩, ?_, by simp, grownCap_ge w bs.length 0 e⟩
  · rw [← hrow]
    exact heap_alloc_new w.drew _
  · rw [hrow]
    simp [bVs_len]
  · exact ((Below.refl _ _).drew).alloc (Nat.le_refl _) _
end Go.Proofs.Ytikfbhepnnbdoaa

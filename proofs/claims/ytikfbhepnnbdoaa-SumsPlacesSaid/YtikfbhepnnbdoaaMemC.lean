/-
  A row of bytes known whole; copy into it, from a slice or from a string.
-/
import Derived.Test.YtikfbhepnnbdoaaMem
namespace Go.Proofs.Ytikfbhepnnbdoaa
set_option linter.all false
open Go.RowKit

/-- block g is just these bytes -/
def RowB (w : World) (g E : Nat) (bs : List UInt8) : Prop := w.heap[g]? = some (.cells (bVs bs).toArray E (0, 0))
/-- bytes put over others -/
def putB (bs : List UInt8) (o : Nat) (cs : List UInt8) : List UInt8 := bs.take o ++ cs ++ bs.drop (o + cs.length)

theorem RowB.made (w : World) (E : Nat) (bs : List UInt8) : RowB (w.alloc (.cells (bVs bs).toArray E)) w.heap.size E bs := heap_alloc_new w _
theorem RowB.lt {w : World} {g E : Nat} {bs : List UInt8} (h : RowB w g E bs) : g < w.heap.size := by
  rcases Nat.lt_or_ge g w.heap.size with hlt | hge
  · exact hlt
  · unfold RowB at h; rw [Array.getElem?_eq_none hge] at h; cases h
theorem RowB.below {w w' : World} {g E B : Nat} {bs : List UInt8} (h : RowB w g E bs) (hb : Below B w w') (hg : g < B) : RowB w' g E bs := (hb.block g hg).trans h
theorem RowB.keep {w w' : World} {g E : Nat} {bs : List UInt8} (h : RowB w g E bs) (hb : Below w.heap.size w w') : RowB w' g E bs := h.below hb h.lt
theorem RowB.alloc {w : World} {g E : Nat} {bs : List UInt8} (h : RowB w g E bs) (o : Obj) : RowB (w.alloc o) g E bs := h.keep ((Below.refl _ _).alloc (Nat.le_refl _) _)
theorem RowB.drew {w : World} {g E : Nat} {bs : List UInt8} (h : RowB w g E bs) : RowB w.drew g E bs := h
theorem RowB.cell {w : World} {g E : Nat} {bs : List UInt8} (h : RowB w g E bs) (i : Nat) (hi : i < bs.length) : w.cell? ⟨g, i, none⟩ = some (.int .u8 (bs[i].toNat : Int)) := by
  rw [cell_of_row w g i _ E (0, 0) h]
  have := bVs_get bs i hi
  simpa using this
theorem RowB.frozen {w : World} {g E : Nat} {bs : List UInt8} (h : RowB w g E bs) (i : Nat) : w.frozen? ⟨g, i, none⟩ = false := by
  unfold RowB at h
  simp [World.frozen?, h]
theorem RowB.rd {w : World} {g E : Nat} {bs : List UInt8} (h : RowB w g E bs) (o : Nat) (cs : List UInt8) (ho : o + cs.length ≤ bs.length) (hc : ∀ i (hi : i < cs.length), cs[i] = bs[o + i]'(by omega)) (hl : bs.length ≤ 9223372036854775807) :
    Rd w (some ⟨g, o, none⟩) cs :=
  ⟨by omega, (fun e => by cases e), fun ad e i hi => by
    injection e with e
    subst e
    have e1 : (⟨g, o, none⟩ : Addr).add i = ⟨g, o + i, none⟩ := by unfold Addr.add; split <;> simp_all
    rw [e1, h.cell (o + i) (by omega), hc i hi]⟩
theorem RowB.rd0 {w : World} {g E : Nat} {bs : List UInt8} (h : RowB w g E bs) (n : Nat) (hn : n ≤ bs.length) (hl : bs.length ≤ 9223372036854775807) : Rd w (some ⟨g, 0, none⟩) (bs.take n) :=
  h.rd 0 (bs.take n) (by simp; omega) (fun i hi => by simp) hl
theorem RowB.set {w : World} {g E : Nat} {bs : List UInt8} (h : RowB w g E bs) (i : Nat) (b : UInt8) : RowB (w.setCell ⟨g, i, none⟩ (.int .u8 (b.toNat : Int))) g E (bs.set i b) := by
  unfold RowB at h ⊢
  have e : (bVs (bs.set i b)).toArray = (bVs bs).toArray.setIfInBounds i (.int .u8 (b.toNat : Int)) := by
    simp [bVs, List.map_set, bV]
  rw [e]
  simp [World.setCell, Array.getElem?_modify, h]
/-- a row is owned -/
theorem RowB.own {w : World} {g E : Nat} {bs : List UInt8} (h : RowB w g E bs) (base n : Nat) (hb : base ≤ g) (hn : bs.length = n) (hl : n ≤ 9223372036854775807) : Own w E base (.slice (some ⟨g, 0, none⟩) n n) bs := by
  subst hn
  exact ⟨by rw [bVs_len, Nat.mul_one], .inr ⟨g, bs.length, (bVs bs).toArray, rfl, hb, h, Nat.le_refl _, by simp only [maxLen]; omega, by simp [bVs_len], by simp [bVs_len, List.take_of_length_le]⟩⟩

theorem bVs_put (bs cs : List UInt8) (o : Nat) : (bVs bs).take o ++ bVs cs ++ (bVs bs).drop (o + (bVs cs).length) = bVs (putB bs o cs) := by
  simp [bVs, putB, List.map_take, List.map_drop]

section
variable {P : Program}
theorem run_copy_rd (w : World) (dT sT ty e : TypeId) (hu : P.underlying dT = some (.slice e)) (hi : (P.info? e).map (fun i => (i.zero, i.size, i.bytes)) = some (some (.int .u8 0), 1, 1))
    (g o dLen dCap : Nat) (bs cs : List UInt8) (A : Option Addr) (n c : Nat) (hg : RowB w g e bs) (hr : Rd w A cs) (hn : cs.length = n) (hd : n ≤ dLen) (hfit : o + n ≤ bs.length) :
    (Builtin.copy_ #[dT, sT] ty #[.slice (some ⟨g, o, none⟩) dLen dCap, .slice A n c]).run P w = .ok (goInt n) (w.setRow g (bVs (putB bs o cs)).toArray) := by
  subst hn
  obtain ⟨i0, hi0, hz0, hz1, hz2⟩ := info_parts hi
  have hs : (P.info? e).map (·.size) = some 1 := by simp [hi0, hz1]
  have hmin : Nat.min cs.length dLen = cs.length := Nat.min_eq_left hd
  have hrow := fun (a : Addr) (hsrc : ∀ j v, (bVs cs)[j]? = some v → w.cell? (a.add j) = some v) => run_copy_row (P := P) w dT sT ty e g o dLen dCap a cs.length c (bVs bs).toArray e (bVs cs) hu hs hg (by rw [bVs_len, hmin]) hsrc (by simp [bVs_len]; omega) (bVs_one cs)
  simp only [bVs_len] at hrow
  have hput := bVs_put bs cs o
  rw [bVs_len] at hput
  cases A with
  | none =>
    have e0 : cs = [] := hr.2.1 rfl
    subst e0
    have hpe : putB bs o [] = bs := by simp [putB]
    have hself : w.setRow g (bVs bs).toArray = w := setRow_self w g _ e (0, 0) hg
    rw [hpe, hself]
    exact run_copy_none w dT sT ty e _ _ dLen dCap 0 c hu hs (by simp)
  | some ad =>
    have h := hrow ad (fun j v hj => by
      have hj' : j < cs.length := by
        have := (List.getElem?_eq_some_iff.1 hj).1
        simpa [bVs_len] using this
      rw [bVs_get cs j hj'] at hj
      injection hj with hj
      subst hj
      exact hr.cell j hj')
    simp only [hput] at h
    exact h

theorem run_copy_str (w : World) (dT sT ty e : TypeId) (hu : P.underlying dT = some (.slice e)) (hi : (P.info? e).map (fun i => (i.zero, i.size, i.bytes)) = some (some (.int .u8 0), 1, 1))
    (g o dLen dCap : Nat) (bs cs : List UInt8) (hg : RowB w g e bs) (hd : cs.length ≤ dLen) (hfit : o + cs.length ≤ bs.length) :
    (Builtin.copy_ #[dT, sT] ty #[.slice (some ⟨g, o, none⟩) dLen dCap, .string ⟨cs.toArray⟩]).run P w = .ok (goInt cs.length) (w.setRow g (bVs (putB bs o cs)).toArray) := by
  obtain ⟨i0, hi0, hz0, hz1, hz2⟩ := info_parts hi
  have hsz : (⟨cs.toArray⟩ : ByteArray).size = cs.length := by simp [ByteArray.size]
  have hmin : Nat.min cs.length dLen = cs.length := Nat.min_eq_left hd
  have hst := run_storeCells_at P g o e (bVs cs) 0 (bVs bs).toArray w hg (by simp [bVs_len]; omega) (bVs_one cs)
  have hex : List.take cs.length (List.map (fun b : UInt8 => Value.int .u8 (b.toNat : Int)) cs) = bVs cs := by
    rw [List.take_of_length_le (by simp)]
    rfl
  have hput := bVs_put bs cs o
  simp only [Nat.add_zero] at hst
  rw [hput] at hst
  simp [Builtin.copy_, run_underlying hu, Builtin.lenOf, Builtin.firstCells, sizeOf, typeInfo, hi0, hsz, hmin, hex, hst, Result.andThen_ok]

theorem below_put {w w0 : World} {B g : Nat} (hb : Below B w0 w) (hg : B ≤ g) (cs : Array Value) : Below B w0 (w.setRow g cs) :=
  hb.trans ⟨rfl, rfl, rfl, by simp [World.setRow], fun k hk => setRow_other w g k cs (by omega)⟩

/-- a copy, its effect told -/
theorem ex_copy_rd (w : World) (dT sT ty e : TypeId) (hu : P.underlying dT = some (.slice e)) (hi : (P.info? e).map (fun i => (i.zero, i.size, i.bytes)) = some (some (.int .u8 0), 1, 1))
    (g o dLen dCap : Nat) (bs cs : List UInt8) (A : Option Addr) (n c : Nat) (hg : RowB w g e bs) (hr : Rd w A cs) (hn : cs.length = n) (hd : n ≤ dLen) (hfit : o + n ≤ bs.length) (B : Nat) (hBg : B ≤ g) :
    ∃ w', (Builtin.copy_ #[dT, sT] ty #[.slice (some ⟨g, o, none⟩) dLen dCap, .slice A n c]).run P w = .ok (.int .i64 n) w' ∧ RowB w' g e (putB bs o cs) ∧ Below B w w' ∧ ∀ k, k ≠ g → w'.heap[k]? = w.heap[k]? :=
  ⟨_, run_copy_rd (P := P) w dT sT ty e hu hi g o dLen dCap bs cs A n c hg hr hn hd hfit, setRow_heap w g _ _ e _ hg, below_put (Below.refl _ _) hBg _, fun k hk => setRow_other w g k _ hk⟩
theorem ex_copy_str (w : World) (dT sT ty e : TypeId) (hu : P.underlying dT = some (.slice e)) (hi : (P.info? e).map (fun i => (i.zero, i.size, i.bytes)) = some (some (.int .u8 0), 1, 1))
    (g o dLen dCap : Nat) (bs cs : List UInt8) (hg : RowB w g e bs) (hd : cs.length ≤ dLen) (hfit : o + cs.length ≤ bs.length) (B : Nat) (hBg : B ≤ g) :
    ∃ w', (Builtin.copy_ #[dT, sT] ty #[.slice (some ⟨g, o, none⟩) dLen dCap, .string ⟨cs.toArray⟩]).run P w = .ok (.int .i64 (cs.length : Int)) w' ∧ RowB w' g e (putB bs o cs) ∧ Below B w w' ∧ ∀ k, k ≠ g → w'.heap[k]? = w.heap[k]? :=
  ⟨_, run_copy_str (P := P) w dT sT ty e hu hi g o dLen dCap bs cs hg hd hfit, setRow_heap w g _ _ e _ hg, below_put (Below.refl _ _) hBg _, fun k hk => setRow_other w g k _ hk⟩
end

end Go.Proofs.Ytikfbhepnnbdoaa

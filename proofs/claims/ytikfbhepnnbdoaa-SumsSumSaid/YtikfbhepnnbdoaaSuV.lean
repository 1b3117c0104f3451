/-
  What the walk over the sums' Write wants: copies into a row with the runtime's mark.
-/
import Derived.Test.YtikfbhepnnbdoaaSuT
import Derived.Test.YtikfbhepnnbdoaaMemO
import Derived.Laws.IdiomCopy
namespace Go.Proofs.Ytikfbhepnnbdoaa
set_option linter.all false
open Go.RowKit

theorem put_cons (bs : Bytes) (b : UInt8) (r : Bytes) (o : Nat) (h : o + (b :: r).length ≤ bs.length) : (bs.set o b).take (o + 1) ++ r ++ (bs.set o b).drop (o + 1 + r.length) = bs.take o ++ b :: r ++ bs.drop (o + (b :: r).length) := by
  simp only [List.length_cons] at h ⊢
  have e : bs.set o b = (bs.take o ++ [b]) ++ bs.drop (o + 1) := by
    rw [List.set_eq_take_append_cons_drop, if_pos (by omega)]
    simp
  have hl : (bs.take o ++ [b]).length = o + 1 := by simp; omega
  have e1 : (bs.set o b).take (o + 1) = bs.take o ++ [b] := by rw [e, List.take_left' hl]
  have e2 : (bs.set o b).drop (o + 1 + r.length) = bs.drop (o + (r.length + 1)) := by
    rw [← List.drop_drop, e, List.drop_left' hl, List.drop_drop]
    congr 1
    omega
  rw [e1, e2]
  simp
theorem RowM.put {g : Nat} : ∀ (cs bs : Bytes) (o : Nat) (w : World), RowM w g bs → o + cs.length ≤ bs.length → RowM (w.setCells g o (bVs cs)) g (putB bs o cs)
  | [], bs, o, w, h, _ => by
    have e : putB bs o [] = bs := by simp [putB]
    rw [e]
    exact h
  | b :: r, bs, o, w, h, hl => by
    have h1 := h.set o (by simp at hl; omega) b
    have h2 := RowM.put r (bs.set o b) (o + 1) (w.setCell ⟨g, o, none⟩ (.int .u8 (b.toNat : Int))) h1 (by simp at hl ⊢; omega)
    have e : putB (bs.set o b) (o + 1) r = putB bs o (b :: r) := put_cons bs b r o hl
    rw [← e]
    exact h2
theorem setCells_other (g k : Nat) (hk : k ≠ g) : ∀ (vs : List Value) (o : Nat) (w : World), (w.setCells g o vs).heap[k]? = w.heap[k]?
  | [], _, _ => rfl
  | v :: r, o, w => by
    rw [World.setCells, setCells_other g k hk r]
    exact heap_setCell_other w ⟨g, o, none⟩ k v hk
theorem setCells_size (g : Nat) : ∀ (vs : List Value) (o : Nat) (w : World), (w.setCells g o vs).heap.size = w.heap.size ∧ (w.setCells g o vs).os = w.os ∧ (w.setCells g o vs).tape = w.tape ∧ (w.setCells g o vs).output = w.output
  | [], _, _ => ⟨rfl, rfl, rfl, rfl⟩
  | v :: r, o, w => by
    have h := setCells_size g r (o + 1) (w.setCell ⟨g, o, none⟩ v)
    rw [World.setCells]
    exact ⟨h.1.trans (by simp [World.setCell]), h.2.1, h.2.2.1, h.2.2.2⟩
theorem put_four (bs : Bytes) (k : Nat) (a b : Bytes) (ha : a.length = 4) (hb : b.length = 4) (h : k + 8 ≤ bs.length) : putB (putB bs k a) (k + 4) b = bs.take k ++ (a ++ b) ++ bs.drop (k + 8) := by
  unfold putB
  have e1 : (bs.take k ++ a ++ bs.drop (k + a.length)).take (k + 4) = bs.take k ++ a := by
    rw [List.take_append_of_le_length (by simp [ha]; omega)]
    exact List.take_of_length_le (by simp [ha]; omega)
  have e2 : (bs.take k ++ a ++ bs.drop (k + a.length)).drop (k + 4 + b.length) = bs.drop (k + 8) := by
    rw [List.drop_append]
    have h1 : (bs.take k ++ a).length = k + 4 := by simp [ha]; omega
    rw [h1, List.drop_of_length_le (by omega), List.nil_append, List.drop_drop, ha, hb]
    congr 1
    omega
  rw [e1, e2]
  simp
section
variable {P : Program}
/-- a copy into a row with the runtime's mark, its effect told -/
theorem ex_copy_m (w : World) (dT sT ty e : TypeId) (hu : P.underlying dT = some (.slice e)) (hi : (P.info? e).map (fun i => (i.zero, i.size, i.bytes)) = some (some (.int .u8 0), 1, 1))
    (g o dLen dCap : Nat) (bs cs : Bytes) (ad : Addr) (n c : Nat) (hg : RowM w g bs) (hr : Rd w (some ad) cs) (hn : cs.length = n) (hd : n ≤ dLen) (hfit : o + n ≤ bs.length) :
    ∃ w', (Builtin.copy_ #[dT, sT] ty #[.slice (some ⟨g, o, none⟩) dLen dCap, .slice (some ad) n c]).run P w = .ok (.int .i64 n) w' ∧ RowM w' g (putB bs o cs) ∧ But g w w' := by
  subst hn
  obtain ⟨i0, hi0, hz0, hz1, hz2⟩ := info_parts hi
  have hs : (P.info? e).map (·.size) = some 1 := by simp [hi0, hz1]
  have h := run_copy_cells (P := P) w dT sT ty e g o dLen dCap ad cs.length c (bVs cs) hu hs (by rw [bVs_len]; exact (Nat.min_eq_left hd).symm) (fun j v hj => by
      have hj' : j < cs.length := by
        have := (List.getElem?_eq_some_iff.1 hj).1
        simpa [bVs_len] using this
      rw [bVs_get cs j hj'] at hj
      injection hj with hj
      subst hj
      exact hr.cell j hj')
    (fun j hj => by rw [bVs_len] at hj; rw [hg.cell (o + j) (by omega)]; rfl) (fun j hj => by rw [bVs_len] at hj; exact hg.frozen (o + j) (by omega)) (bVs_one cs)
  rw [bVs_len] at h
  obtain ⟨z1, z2, z3, z4⟩ := setCells_size g (bVs cs) o w
  exact ⟨_, h, RowM.put cs bs o w hg (by omega), ⟨z2, z3, z4, Nat.le_of_eq z1.symm, fun k _ hk => setCells_other g k hk _ _ _⟩⟩
end
theorem But.kept {g : Nat} {w w' : World} (h : But g w w') {X : Nat → Prop} (hX : ¬ X g) (hlt : ∀ b, X b → b < w.heap.size) : Kept X w w' :=
  ⟨h.os, h.tape, h.output, h.size, fun k hk => h.block k (hlt k hk) (fun e => hX (e ▸ hk))⟩
section
variable {X : Nat → Prop} {a g : Nat} {w w' : World} {s s' : ShM} {D : DevM}
/-- another's block, that lies in X, turns -/
theorem DvX.but (h : DvX X a g w s D) {b : Nat} (hb : X b) (hB : But b w w') : DvX X a g w' s D := by
  have hne : a ≠ b := fun e => h.out (e ▸ hb)
  refine ⟨?_, (hB.block a h.alt hne).trans h.row, h.out, h.disk, h.size⟩
  obtain ⟨h0, F, h1, h2, h3⟩ := h.sh
  exact ⟨fun k hk => Nat.lt_of_lt_of_le (h0 k hk) hB.size, F, h1.of_blocks fun k hk => hB.block k (h1.lt k hk) (fun e => h3 k hk (.inl (e ▸ hb))), h2, h3⟩
theorem Fresh.row {w0 : World} {v : Value} {bs : Bytes} (h : Fresh w0 w v bs) (hl : 0 < bs.length) : ∃ g c, v = .slice (some ⟨g, 0, none⟩) bs.length c ∧ w0.heap.size ≤ g ∧ bs.length ≤ c ∧ RowM w g bs := by
  obtain ⟨A, c, rfl, hA⟩ := h
  rcases hA with ⟨rfl, hn⟩ | ⟨x, rfl, hx, hr⟩
  · subst hn; simp at hl
  · exact ⟨x, c, rfl, hx.1, hx.2, hr⟩
theorem room_sec {N : Nat} (h : Room N s) (D : DevM) (n : Int) : Room N (devSector s D n).2.2.2 := by
  by_cases hb : 0 ≤ n ∧ n < D.size
  · by_cases h1 : (s.readR D.disk (sumAt n.toNat)).2.1 = 0
    · rw [sec_ok hb h1]
      exact room_read (room_read h _ _) _ _
    · rw [sec_err hb h1]
      exact room_read h _ _
  · rw [sec_bad hb]
    exact h
/-- what a call of 'Write' leaves -/
def WrPost (X : Nat → Prop) (a g : Nat) (w : World) (r : Int × ShM × DevM) (e : Ending) (w' : World) : Prop :=
  e = .returned (.int .i64 r.1) ∧ DvX X a g w' r.2.1 r.2.2 ∧ Kept X w w'
set_option maxRecDepth 10000 in
theorem su_write_nil (w : World) (n : Int) (v : Value) : Calls Try.prog 21 #[.pointer none, .int .i64 n, v] w fun e w' => e = .returned (.int .i64 2) ∧ w = w' := by
  go_enter Try.func21, Try.ntmps21
  go_wp2
  go_ret
  exact ⟨rfl, rfl⟩

end
end Go.Proofs.Ytikfbhepnnbdoaa

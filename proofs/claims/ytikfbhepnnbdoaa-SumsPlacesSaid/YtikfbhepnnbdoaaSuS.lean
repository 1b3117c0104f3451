/-
  THE WALK over the sums' spoil.
-/
import Derived.Test.YtikfbhepnnbdoaaSuE
namespace Go.Proofs.Ytikfbhepnnbdoaa
set_option linter.all false
open Go.RowKit

/-- the bytes with k more in the first one -/
def wk (was : Bytes) (k : Nat) : Bytes := was.set 0 (was.getD 0 0 + UInt8.ofNat k)
theorem wk_len (was : Bytes) (k : Nat) : (wk was k).length = was.length := by simp [wk]
theorem wk_zero (was : Bytes) (h : 0 < was.length) : wk was 0 = was := by
  cases was with
  | nil => simp at h
  | cons b l => simp [wk]
theorem wk_get (was : Bytes) (k : Nat) (h : 0 < was.length) : (wk was k).getD 0 0 = was.getD 0 0 + UInt8.ofNat k := by
  cases was with
  | nil => simp at h
  | cons b l => simp [wk]
theorem wk_succ (was : Bytes) (k : Nat) (h : 0 < was.length) : (wk was k).set 0 ((wk was k).getD 0 0 + 1) = wk was (k + 1) := by
  rw [wk_get was k h]
  simp only [wk, List.set_set]
  congr 1
  rw [UInt8.add_assoc]
  congr 1
  apply UInt8.toNat_inj.1
  simp [UInt8.toNat_add]
theorem sumB_wk (disk block : Int) (was : Bytes) (h : 0 < was.length) {i j : Nat} (hi : i < 256) (hj : j < 256) (e : sumB disk block (wk was i) = sumB disk block (wk was j)) : i = j := by
  rcases Nat.decEq i j with hne | heq
  · exfalso
    have hl : (sumL disk block).length = 8 := by simp [sumL, leBytes_len]
    have key : sumL disk block ++ wk was j = (sumL disk block ++ wk was i).set 8 (was.getD 0 0 + UInt8.ofNat j) := by
      rw [List.set_append_right _ _ (by omega), hl]
      simp [wk]
    have hlt : 8 < (sumL disk block ++ wk was i).length := by rw [List.length_append, hl, wk_len]; omega
    refine crc_turned (sumL disk block ++ wk was i) 8 hlt (was.getD 0 0 + UInt8.ofNat j) ?_ 0 ?_
    · have e2 : (sumL disk block ++ wk was i)[8] = was.getD 0 0 + UInt8.ofNat i := by
        rw [List.getElem_append_right (by omega)]
        simp [hl, wk]
      rw [e2]
      intro e3
      have e4 := congrArg UInt8.toNat (UInt8.add_right_inj (was.getD 0 0) |>.1 e3)
      simp only [UInt8.toNat_ofNat'] at e4
      omega
    · rw [← key]
      exact e
  · exact heq
theorem spoil_four (disk block : Int) (was : Bytes) (h : 0 < was.length) (sum p1 p2 : Nat) (hb : ∀ j, j < 4 → sumB disk block (wk was j) = sum ∨ sumB disk block (wk was j) = p1 ∨ sumB disk block (wk was j) = p2) : False := by
  have h0 := hb 0 (by omega)
  have h1 := hb 1 (by omega)
  have h2 := hb 2 (by omega)
  have h3 := hb 3 (by omega)
  have n01 : sumB disk block (wk was 0) ≠ sumB disk block (wk was 1) := fun e => by have := sumB_wk disk block was h (by omega) (by omega) e; omega
  have n02 : sumB disk block (wk was 0) ≠ sumB disk block (wk was 2) := fun e => by have := sumB_wk disk block was h (by omega) (by omega) e; omega
  have n03 : sumB disk block (wk was 0) ≠ sumB disk block (wk was 3) := fun e => by have := sumB_wk disk block was h (by omega) (by omega) e; omega
  have n12 : sumB disk block (wk was 1) ≠ sumB disk block (wk was 2) := fun e => by have := sumB_wk disk block was h (by omega) (by omega) e; omega
  have n13 : sumB disk block (wk was 1) ≠ sumB disk block (wk was 3) := fun e => by have := sumB_wk disk block was h (by omega) (by omega) e; omega
  have n23 : sumB disk block (wk was 2) ≠ sumB disk block (wk was 3) := fun e => by have := sumB_wk disk block was h (by omega) (by omega) e; omega
  omega
def badS (disk block : Int) (sum p1 p2 : Nat) (b : Bytes) : Prop := sumB disk block b = sum ∨ sumB disk block b = p1 ∨ sumB disk block b = p2
theorem spoil_at (D : DevM) (n : Nat) (p : Nat × Nat) (sum : Nat) (was : Bytes) (h : 0 < was.length) : ∀ (f k : Nat), (∀ j, k ≤ j → j < k + f → True) → ∀ m, m ≤ f → (∀ j, j < m → badS D.disk n sum p.1 p.2 (wk was (k + j))) → ¬ badS D.disk n sum p.1 p.2 (wk was (k + m)) →
    spoilB (fun b => sumB D.disk n b == sum || sumB D.disk n b == p.1 || sumB D.disk n b == p.2) f (wk was k) = wk was (k + m)
  | 0, k, _, m, hm, _, _ => by
    obtain rfl : m = 0 := by omega
    rfl
  | f + 1, k, _, m, hm, hb, hn => by
    unfold spoilB
    cases m with
    | zero =>
      rw [if_neg]
      · rfl
      · intro e
        apply hn
        simp only [Bool.or_eq_true, beq_iff_eq] at e
        unfold badS
        rw [Nat.add_zero]
        rcases e with (e | e) | e
        · exact .inl e
        · exact .inr (.inl e)
        · exact .inr (.inr e)
    | succ m =>
      have h0 := hb 0 (by omega)
      rw [Nat.add_zero] at h0
      rw [if_pos, wk_succ was k h]
      · have := spoil_at D n p sum was h f (k + 1) (fun _ _ _ => trivial) m (by omega) (fun j hj => by
          have := hb (j + 1) (by omega)
          rw [show k + 1 + j = k + (j + 1) from by omega]
          exact this) (by rw [show k + 1 + m = k + (m + 1) from by omega]; exact hn)
        rw [this, show k + 1 + m = k + (m + 1) from by omega]
      · simp only [Bool.or_eq_true, beq_iff_eq]
        rcases h0 with e | e | e
        · exact .inl (.inl e)
        · exact .inl (.inr e)
        · exact .inr e
theorem spoil_is (D : DevM) (n : Nat) (p : Nat × Nat) (sum : Nat) (was : Bytes) (h : 0 < was.length) (m : Nat) (hm : m ≤ 3) (hb : ∀ j, j < m → badS D.disk n sum p.1 p.2 (wk was j)) (hn : ¬ badS D.disk n sum p.1 p.2 (wk was m)) : spoilOf D n p sum was = wk was m := by
  have := spoil_at D n p sum was h 3 0 (fun _ _ _ => trivial) m hm (fun j hj => by rw [Nat.zero_add]; exact hb j hj) (by rw [Nat.zero_add]; exact hn)
  rw [wk_zero was h, Nat.zero_add] at this
  exact this
/-- how far the first byte in a block is from another one -/
def farOf (w : World) (b : Nat) (b0 : UInt8) : Nat := match w.cell? ⟨b, 0, none⟩ with | some (.int _ z) => ((z - (b0.toNat : Int)) % 256).toNat | _ => 0
theorem far_wk {w : World} {b : Nat} {was : Bytes} {k : Nat} (h : RowM w b (wk was k)) (hl : 0 < was.length) (hk : k < 256) : farOf w b (was.getD 0 0) = k := by
  have hc := h.cell 0 (by rw [wk_len]; exact hl)
  unfold farOf
  rw [hc]
  have e : (wk was k)[0]'(by rw [wk_len]; exact hl) = was.getD 0 0 + UInt8.ofNat k := by
    have := wk_get was k hl
    rw [List.getD_eq_getElem?_getD, List.getElem?_eq_getElem (by rw [wk_len]; exact hl)] at this
    exact this
  simp only [e, UInt8.toNat_add, UInt8.toNat_ofNat']
  have := (was.getD 0 0).toNat_lt
  omega
end Go.Proofs.Ytikfbhepnnbdoaa

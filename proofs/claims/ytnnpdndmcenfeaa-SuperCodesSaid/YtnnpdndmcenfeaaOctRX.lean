/-
  THE WALK over ashlarref01.Xor.
-/
import Derived.Test.YtnnpdndmcenfeaaOctR
import Derived.Test.YtnnpdndmcenfeaaMemS
namespace Go.Proofs.Ytnnpdndmcenfeaa
open Go.RowKit

set_option maxHeartbeats 400000 in
theorem rxor_bad (A B : Option Addr) (n m c d : Nat) (w : World) (h : n ≠ m) :
    Calls Try.prog 26 #[.slice A n c, .slice B m d] w fun e w' => e = .returned (.tuple #[.slice none 0 0, .int .i64 1]) ∧ w = w' := by
  have h1 : ((n : Int) != (m : Int)) = true := by rw [bne_iff_ne]; omega
  clear h
  go_enter Try.func26, Try.ntmps26
  go_wp2
  go_ret2
  exact ⟨rfl, rfl⟩

set_option maxRecDepth 100000 in
set_option maxHeartbeats 1000000 in
theorem rxor_ok (A B : Option Addr) (n c d : Nat) (xs ys : List UInt8) (w : World) (ha : Rd w A xs) (hb : Rd w B ys) (hn : xs.length = n) (hm : ys.length = n) (h47 : n ≤ 140737488351232) :
    Calls Try.prog 26 #[.slice A n c, .slice B n d] w fun e w' => ∃ A' c', e = .returned (.tuple #[.slice A' n c', .int .i64 0]) ∧
      Own w' 5 w.heap.size (.slice A' n c') (List.zipWith (· ^^^ ·) xs ys) ∧ Below w.heap.size w w' := by
  have h1 : ((n : Int) != (n : Int)) = false := by simp
  have HA := Lib.hid ha
  have HB := Lib.hid hb
  have HN := Lib.hid hn
  have HM := Lib.hid hm
  have hl : (List.zipWith (· ^^^ ·) xs ys).length = n := by simp [hn, hm]
  have HL := Lib.hid hl
  clear ha hb hn hm hl
  go_enter Try.func26, Try.ntmps26
  go_wp2
  go_loopw [6, 7] (fun v i wr => ∃ k : Nat, k ≤ n ∧ i = .int .i64 k ∧ Own wr 5 w.heap.size v ((List.zipWith (· ^^^ ·) xs ys).take k) ∧ Below w.heap.size w wr) (fun _ i _ => n - (intOf i).toNat)
  case atStart => exact ⟨0, by omega, rfl, World.ownsRow_nil _ _ _ _, Below.refl _ _⟩
  case round =>
    obtain ⟨k, hk, rfl, hown, hbel⟩ := hrel
    by_cases hlt : k < n
    · obtain ⟨ad, rfl⟩ := HA.out.some_ (i := k) (by rw [HN.out]; exact hlt)
      obtain ⟨bd, rfl⟩ := HB.out.some_ (i := k) (by rw [HM.out]; exact hlt)
      have hca := (HA.out.below hbel).cell k (by rw [HN.out]; exact hlt)
      have hcb := (HB.out.below hbel).cell k (by rw [HM.out]; exact hlt)
      have had : (ad.add k).block < w.heap.size := World.block_lt_of_cell? w _ (HA.out.cell k (by rw [HN.out]; exact hlt))
      have hbd : (bd.add k).block < w.heap.size := World.block_lt_of_cell? w _ (HB.out.cell k (by rw [HM.out]; exact hlt))
      have hsn : (List.zipWith (· ^^^ ·) xs ys).take (k + 1) = (List.zipWith (· ^^^ ·) xs ys).take k ++ [(xs[k]'(by rw [HN.out]; exact hlt)) ^^^ (ys[k]'(by rw [HM.out]; exact hlt))] := by
        rw [List.take_succ_eq_append_getElem (by rw [HL.out]; exact hlt)]
        simp
      have hxb := xor_byte (xs[k]'(by rw [HN.out]; exact hlt)) (ys[k]'(by rw [HM.out]; exact hlt))
      have hln : ((List.zipWith (· ^^^ ·) xs ys).take k).length ≤ n := by rw [List.length_take]; omega
      generalize (List.zipWith (· ^^^ ·) xs ys).take k = zs at *
      generalize (xs[k]'(by rw [HN.out]; exact hlt)) = x at *
      generalize (ys[k]'(by rw [HM.out]; exact hlt)) = y at *
      generalize x ^^^ y = z at *
      have HSN := Lib.hid hsn
      clear hsn
      have hk0 : (0 : Int) ≤ (k : Int) := Int.natCast_nonneg _
      have hk1 : (k : Int) < (n : Int) := by omega
      go_wp2_with fail
      go_region_held3 (fun w' => w'.cell? (ad.add k) = some (.int .u8 (x.toNat : Int)) ∧ w'.cell? (bd.add k) = some (.int .u8 (y.toNat : Int)))
        (first | go_keep | (go_split_ands; exact ⟨(hb1.cell had).trans (by assumption), (hb1.cell hbd).trans (by assumption)⟩))
        ((refine step_append_rd (by rfl) (.tmp 19) (.tmp 29) 23 (by rfl) w.heap.size 5 Try.underlying23 Try.infoU8 u6 zs [z] (some ⟨wr.heap.size, 0, none⟩) 1 1 (by rfl) (by rfl) (own_lit hown _).drew ((Rd.lit wr _ [z] (by simp)).drew) rfl (by simp; omega) (by have := hbel.size; simp; omega) ?_; intro v1 w1 hown1 hg1 hb1))
      have hbl1 := ((hbel.alloc hbel.size _).drew).trans hb1
      rw [← HSN.out] at hown1
      clear hown hg1 hb1 hca hcb
      go_wp2
      go_roundw
      case rel => exact ⟨k + 1, by omega, by go_num, hown1, hbl1⟩
      case measure => simp [intOf]; omega
    · have hkn : k = n := by omega
      subst hkn
      rw [List.take_of_length_le (by rw [HL.out]; omega)] at hown
      obtain ⟨A', c', rfl, _, _⟩ := hown.form
      go_wp2
      go_ret2
      rw [HL.out] at hown ⊢
      exact ⟨_, _, rfl, hown, hbel⟩

end Go.Proofs.Ytnnpdndmcenfeaa

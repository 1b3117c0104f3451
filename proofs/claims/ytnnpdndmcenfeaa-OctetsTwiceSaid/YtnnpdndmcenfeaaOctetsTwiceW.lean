/-
  THE WALK of OctetsTwice: the same text put twice changes nothing; put to itself it is noughts.
-/
import Derived.Test.YtnnpdndmcenfeaaOctL
namespace Go.Proofs.Ytnnpdndmcenfeaa
open Go.RowKit

theorem xor_back : ∀ (xs ys : List UInt8), xs.length = ys.length → List.zipWith (· ^^^ ·) (List.zipWith (· ^^^ ·) xs ys) ys = xs
  | [], [], _ => rfl
  | x :: xs, y :: ys, h => by
    simp only [List.zipWith_cons_cons]
    rw [xor_back xs ys (by simpa using h)]
    congr 1
    rw [UInt8.xor_assoc, UInt8.xor_self, UInt8.xor_zero]
  | [], _ :: _, h => by simp at h
  | _ :: _, [], h => by simp at h
theorem xor_self_ (xs : List UInt8) (i : Nat) (h : i < (List.zipWith (· ^^^ ·) xs xs).length) : (List.zipWith (· ^^^ ·) xs xs)[i] = 0 := by
  simp

set_option maxRecDepth 100000 in
set_option maxHeartbeats 1000000 in
theorem octetsTwice_ok (A B : Option Addr) (a c d : Nat) (xs ys : List UInt8) (W : World) (ha : Rd W A xs) (hb : Rd W B ys) (hla : xs.length = a) (hlb : ys.length = a) (sa : a ≤ 140737488351232) :
    Calls Try.prog 9 #[.slice A a c, .slice B a d] W fun e W' => e = .returned (.bool true) ∧ Below W.heap.size W W' := by
  have HA := Lib.hid ha
  have HB := Lib.hid hb
  have HLA := Lib.hid hla
  have HLB := Lib.hid hlb
  have hz : (List.zipWith (· ^^^ ·) xs ys).length = a := by simp [hla, hlb]
  have HZ := Lib.hid hz
  have hz2 : (List.zipWith (· ^^^ ·) xs xs).length = a := by simp [hla]
  have HZ2 := Lib.hid hz2
  have HXB := Lib.hid (xor_back xs ys (by omega))
  clear ha hb hla hlb hz hz2
  go_enter Try.func9, Try.ntmps9
  go_wp2_with fail
  refine (xor_ok A B a a c d xs ys _ HA.out HB.out HLA.out HLB.out rfl (by omega)).mono ?_
  rintro e w1 ⟨A1, c1, rfl, hown1, hb1⟩
  go_wp2_with (go_at_call 22; refine (lives01 _).mono ?_; rintro e w2 ⟨rfl, hb2⟩)
  have hr1 := hown1.rd.below hb2
  refine (xor_ok A1 B a a c1 d (List.zipWith (· ^^^ ·) xs ys) ys _ hr1 ((HB.out.below hb1).below hb2) HZ.out HLB.out rfl (by omega)).mono ?_
  rintro e w3 ⟨A3, c3, rfl, hown3, hb3⟩
  rw [HXB.out] at hown3
  have hb13 := below_to (below_to hb1 hb2) hb3
  go_wp2_with fail
  refine (xor_ok A A a a c c xs xs _ (HA.out.below hb13) (HA.out.below hb13) HLA.out HLA.out rfl (by omega)).mono ?_
  rintro e w4 ⟨A4, c4, rfl, hown4, hb4⟩
  have hown34 := hown3.below hb4
  have hb14 := below_to hb13 hb4
  have hs3 := run_string_rd (P := Try.prog) w4 23 9 5 Try.underlying23 Try.underlying5 Try.underlying9 A3 a c3 _ hown34.rd HLA.out
  have hsA := run_string_rd (P := Try.prog) w4 23 9 5 Try.underlying23 Try.underlying5 Try.underlying9 A a c _ (HA.out.below hb14) HLA.out
  have H4 := Lib.hid hown4
  clear hb1 hb2 hb3 hb4 hb13 hown1 hown3 hown34 hown4 hr1
  go_wp2_with fail
  go_loop [11] (fun i => ∃ k : Nat, k ≤ a ∧ i = .int .i64 k) (fun i => a - (intOf i).toNat)
  case atStart => exact ⟨0, by omega, rfl⟩
  case round =>
    obtain ⟨k, hk, rfl⟩ := hrel
    by_cases hlt : k < a
    · have hk4 : k < (List.zipWith (· ^^^ ·) xs xs).length := by rw [HZ2.out]; exact hlt
      obtain ⟨g, rfl, _, _, hc⟩ := H4.out.first (Nat.lt_of_le_of_lt (Nat.zero_le _) hk4)
      have hck := (hc k hk4).1
      rw [xor_self_] at hck
      have hck2 : w4.cell? ⟨g, k, none⟩ = some (.int .u8 0) := hck
      clear hc hck
      go_wp2
      go_round
      case rel => exact ⟨k + 1, by omega, by go_num⟩
      case measure => simp [intOf]; omega
    · go_wp2
      go_ret
      exact ⟨rfl, hb14⟩

set_option maxRecDepth 100000 in
set_option maxHeartbeats 1000000 in
theorem octetsTwice_walk (A : Option Addr) (a c : Nat) (xs : List UInt8) (B : Option Addr) (b d : Nat) (ys : List UInt8) (W : World)
    (ha : Rd W A xs) (hla : xs.length = a) (sa : a ≤ 140737488351232) (hb : Rd W B ys) (hlb : ys.length = b) (sb : b ≤ 140737488351232) :
    Calls Try.prog 9 #[.slice A a c, .slice B b d] W fun e W' => e = .returned (.bool true) ∧ Below W.heap.size W W' := by
  by_cases h : a = b
  · subst h
    exact octetsTwice_ok A B a c d xs ys W ha hb hla hlb sa
  · have hne : ((a : Int) != (b : Int)) = true := by rw [bne_iff_ne]; omega
    have H := Lib.hid h
    clear h ha hb hla hlb
    go_enter Try.func9, Try.ntmps9
    go_wp2_with fail
    refine (xor_bad A B a b c d _ H.out).mono ?_
    rintro e w1 ⟨rfl, rfl⟩
    go_wp2_with (go_at_call 22; refine (lives01 _).mono ?_; rintro e w2 ⟨rfl, hb2⟩)
    go_ret
    exact ⟨rfl, hb2⟩
end Go.Proofs.Ytnnpdndmcenfeaa

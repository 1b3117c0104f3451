/-
  THE WALK of OctetsBack: what is put is got, wherever it stands.
-/
import Derived.Test.YtnnpdndmcenfeaaOctL
namespace Go.Proofs.Ytnnpdndmcenfeaa
open Go.RowKit

set_option maxRecDepth 100000 in
set_option maxHeartbeats 1000000 in
theorem octetsBack_bad (x : Nat) (n : Int) (A B : Option Addr) (a b c d : Nat) (W : World) (h : n < 1 ∨ 8 < n ∨ (n < 8 ∧ 256 ^ n.toNat ≤ x)) :
    Calls Try.prog 4 #[.int .u64 x, .int .i64 n, .slice A a c, .slice B b d] W fun e W' => e = .returned (.bool true) ∧ Below W.heap.size W W' := by
  have H := Lib.hid h
  clear h
  go_enter Try.func4, Try.ntmps4
  go_wp2_with fail
  refine (put_bad x n _ H.out).mono ?_
  rintro e w1 ⟨rfl, rfl⟩
  go_wp2_with (go_at_call 22; refine (lives01 _).mono ?_; rintro e w1 ⟨rfl, hb1⟩)
  go_ret
  exact ⟨rfl, hb1⟩

theorem back_num (x n : Nat) (hf : x < 256 ^ n) (xs ys : List UInt8) : leNum (((xs ++ leBytes x n ++ ys).drop xs.length).take n) = x := by
  rw [List.append_assoc, List.drop_left]
  have e : (leBytes x n ++ ys).take n = leBytes x n := by
    have := List.take_left (l₁ := leBytes x n) (l₂ := ys)
    rw [leBytes_len] at this
    exact this
  rw [e, leNum_leBytes, Nat.mod_eq_of_lt hf]

set_option maxRecDepth 100000 in
set_option maxHeartbeats 1000000 in
theorem octetsBack_ok (x n : Nat) (A B : Option Addr) (a b c d : Nat) (xs ys : List UInt8) (W : World) (ha : Rd W A xs) (hb : Rd W B ys) (hla : xs.length = a) (hlb : ys.length = b) (hab : a + b ≤ 1048576)
    (h1 : 1 ≤ n) (h8 : n ≤ 8) (hf : x < 256 ^ n) :
    Calls Try.prog 4 #[.int .u64 x, .int .i64 n, .slice A a c, .slice B b d] W fun e W' => e = .returned (.bool true) ∧ Below W.heap.size W W' := by
  subst hla hlb
  have HA := Lib.hid ha
  have HB := Lib.hid hb
  have HF := Lib.hid hf
  have HL := Lib.hid (leBytes_len n x)
  clear ha hb hf
  go_enter Try.func4, Try.ntmps4
  go_wp2_with fail
  refine (put_ok x n _ h1 h8 HF.out).mono ?_
  rintro e w1 ⟨A1, c1, rfl, hown1, hb1⟩
  go_wp2_with (first | (go_at_call 22; refine (lives01 _).mono ?_; rintro e w2 ⟨rfl, hb2⟩) | (at_builtin; refine wpList_append_rd rfl (.tmp 27) (.tmp 28) 23 rfl w2.heap.size 5 Try.underlying23 Try.infoU8 (.slice (some ⟨w2.heap.size, 0, none⟩) 0 0) [] xs A xs.length c rfl rfl (Own.none_ w2 _) (((HA.out.below hb1).below hb2).alloc _) rfl (by simp; omega) (by simp) ?_; intro v3 w3 hown3 hg3; have hb3 := below_made hg3) | (at_builtin; refine wpList_append_rd rfl (.tmp 29) (.tmp 30) 23 rfl w2.heap.size 5 Try.underlying23 Try.infoU8 v3 ([] ++ xs) (leBytes x n) A1 n c1 rfl rfl hown3 ((hown1.rd.below hb2).below hb3) HL.out (by simp; omega) hb3.size ?_; intro v4 w4 hown4 hg4; have hb4 := hb3.trans (hown3.grow hg4 hb3.size)) | (at_builtin; refine wpList_append_rd rfl (.tmp 31) (.tmp 32) 23 rfl w2.heap.size 5 Try.underlying23 Try.infoU8 v4 ([] ++ xs ++ leBytes x n) ys B ys.length d rfl rfl hown4 (((HB.out.below hb1).below hb2).below hb4) rfl (by have := HL.out; simp; omega) hb4.size ?_; intro v5 w5 hown5 hg5; have hb5 := hb4.trans (hown4.grow hg5 hb4.size)))
  obtain ⟨A5, c5, rfl, hr5, _⟩ := hown5.form
  simp only [List.nil_append] at hr5
  have hl5 : ([] ++ xs ++ leBytes x n ++ ys).length = (xs ++ leBytes x n ++ ys).length := rfl
  have hbn := back_num x n HF.out xs ys
  have hlx : xs.length + n ≤ (xs ++ leBytes x n ++ ys).length := by have := HL.out; simp; omega
  refine (get_ok A5 _ c5 (xs ++ leBytes x n ++ ys) xs.length n _ hr5 rfl h1 h8 hlx).mono ?_
  rintro e w' ⟨rfl, rfl⟩
  rw [hbn]
  clear hbn hlx hl5 hr5 hown5 hown4 hown3
  go_wp2_with fail
  go_ret
  exact ⟨rfl, (hb1.trans (hb2.mono hb1.size)).trans (hb5.mono (by have := hb1.size; have := hb2.size; omega))⟩

theorem octetsBack_walk (x : Nat) (n : Int) (A : Option Addr) (a c : Nat) (xs : List UInt8) (B : Option Addr) (b d : Nat) (ys : List UInt8) (W : World) (hx : x < 18446744073709551616) (_lo : -9223372036854775808 ≤ n) (_hi : n ≤ 9223372036854775807)
    (ha : Rd W A xs) (hla : xs.length = a) (_sa : a ≤ 140737488351232) (hb : Rd W B ys) (hlb : ys.length = b) (_sb : b ≤ 140737488351232) (hab : a + b ≤ 1048576) :
    Calls Try.prog 4 #[.int .u64 x, .int .i64 n, .slice A a c, .slice B b d] W fun e W' => e = .returned (.bool true) ∧ Below W.heap.size W W' := by
  by_cases h : n < 1 ∨ 8 < n ∨ (n < 8 ∧ 256 ^ n.toNat ≤ x)
  · exact octetsBack_bad x n A B a b c d W h
  · obtain ⟨m, rfl⟩ := Int.eq_ofNat_of_zero_le (show 0 ≤ n by omega)
    refine octetsBack_ok x m A B a b c d xs ys W ha hb hla hlb hab (by omega) (by omega) ?_
    simp only [Int.toNat_natCast] at h
    by_cases h8 : m = 8
    · subst h8; exact Nat.lt_of_lt_of_le hx (by decide)
    · have : ¬ 256 ^ m ≤ x := fun hle => h (.inr (.inr ⟨by omega, hle⟩))
      omega
end Go.Proofs.Ytnnpdndmcenfeaa

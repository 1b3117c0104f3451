/-
  THE WALK of OctetsJoins: the sum of two texts together goes on with that of the first one.
-/
import Derived.Test.YtnnpdndmcenfeaaOctL
namespace Go.Proofs.Ytnnpdndmcenfeaa
open Go.RowKit

set_option maxRecDepth 100000 in
set_option maxHeartbeats 1000000 in
theorem octetsJoins_walk (seed : Nat) (A : Option Addr) (a c : Nat) (xs : List UInt8) (B : Option Addr) (b d : Nat) (ys : List UInt8) (W : World) (hs : seed < 4294967296)
    (ha : Rd W A xs) (hla : xs.length = a) (_sa : a ≤ 140737488351232) (hb : Rd W B ys) (hlb : ys.length = b) (_sb : b ≤ 140737488351232) (hab : a + b ≤ 1048576) :
    Calls Try.prog 6 #[.int .u32 seed, .slice A a c, .slice B b d] W fun e W' => e = .returned (.bool true) ∧ Below W.heap.size W W' := by
  subst hla hlb
  have HA := Lib.hid ha
  have HB := Lib.hid hb
  clear ha hb
  go_enter Try.func6, Try.ntmps6
  go_wp2_with (first | (go_at_call 22; refine (lives01 _).mono ?_; rintro e w2 ⟨rfl, hb2⟩) | (at_builtin; refine wpList_append_rd rfl (.tmp 10) (.tmp 11) 23 rfl w2.heap.size 5 Try.underlying23 Try.infoU8 (.slice (some ⟨w2.heap.size, 0, none⟩) 0 0) [] xs A xs.length c rfl rfl (Own.none_ w2 _) ((HA.out.below hb2).alloc _) rfl (by simp; omega) (by simp) ?_; intro v3 w3 hown3 hg3; have hb3 := below_made hg3) | (at_builtin; refine wpList_append_rd rfl (.tmp 12) (.tmp 13) 23 rfl w2.heap.size 5 Try.underlying23 Try.infoU8 v3 ([] ++ xs) ys B ys.length d rfl rfl hown3 ((HB.out.below hb2).below hb3) rfl (by simp; omega) hb3.size ?_; intro v4 w4 hown4 hg4; have hb4 := hb3.trans (hown3.grow hg4 hb3.size)))
  obtain ⟨A4, c4, rfl, hr4, _⟩ := hown4.form
  have hb24 := hb2.trans (hb4.mono hb2.size)
  simp only [List.nil_append] at hr4
  refine (crc_any A4 _ c4 (xs ++ ys) seed _ hr4 rfl hs).mono ?_
  rintro e w5 ⟨rfl, hb5⟩
  have hb25 := below_to hb24 hb5
  clear hr4 hown4 hown3 hb24 hb5
  rw [crc_app seed hs]
  go_wp2_with fail
  refine (crc_any A _ c xs seed _ (HA.out.below hb25) rfl hs).mono ?_
  rintro e w6 ⟨rfl, hb6⟩
  have hb26 := below_to hb25 hb6
  have hcl := crc_lt seed xs
  generalize crc seed xs = s1 at *
  go_wp2_with fail
  refine (crc_any B _ d ys s1 _ (HB.out.below hb26) rfl hcl).mono ?_
  rintro e w7 ⟨rfl, hb7⟩
  have hb27 := below_to hb26 hb7
  go_wp2_with fail
  refine (crc_any none 0 0 [] seed _ (Rd.nil _) rfl hs).mono ?_
  rintro e w8 ⟨rfl, hb8⟩
  have hb28 := below_to hb27 hb8
  rw [crc_nil seed hs]
  go_wp2_with fail
  go_ret
  exact ⟨rfl, hb28⟩
end Go.Proofs.Ytnnpdndmcenfeaa

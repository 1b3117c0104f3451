/-
  THE WALK of SuperTurned: a block of which one byte is another one says nothing.
-/
import Derived.Test.YtnnpdndmcenfeaaSupLv
import Derived.Test.YtnnpdndmcenfeaaOctetsTurnedW
namespace Go.Proofs.Ytnnpdndmcenfeaa
open Go.RowKit

set_option maxRecDepth 100000 in
set_option maxHeartbeats 2000000 in
theorem superTurned_walk (s : Sup) (at_ : Int) (b : UInt8) (W : World) (_lo : -9223372036854775808 ≤ at_) (hi : at_ ≤ 9223372036854775807) :
    Calls Try.prog 15 #[(.agg #[.int .i64 s.gen, .int .i64 s.members, .int .i64 s.disk, .int .i64 s.stripes, .int .i64 s.logs, .int .i64 s.spare, .int .i64 s.mark, .int .i64 s.cursor]), .int .i64 at_, .int .u8 (b.toNat : Int)] W fun e W' => e = .returned (.bool true) ∧ Below W.heap.size W W' := by
  obtain ⟨r, hr⟩ : ∃ r, r = rightB s := ⟨_, rfl⟩
  have HR := Lib.hid hr
  clear hr
  obtain ⟨z, hz⟩ : ∃ z, z = ((b.toNat : Int) == 0) := ⟨_, rfl⟩
  have HZ := Lib.hid hz
  replace hz := hz.symm
  go_enter Try.func15, Try.ntmps15
  go_wp2_with fail
  refine (enc_u s _).mono ?_
  rintro e w1 ⟨A1, c1, rfl, ho1, hb1⟩
  have hB1 := (below_made' W _).trans (hb1.mono (by simp))
  clear hb1
  cases r with
  | false =>
    have hsl : supL s = [] := by unfold supL; rw [← HR.out]; rfl
    have hse : supE s = 1 := by unfold supE; rw [← HR.out]; rfl
    simp only [hsl, hse]
    clear hsl hse ho1
    go_wp2_with fail
    refine (lives04 _).mono ?_
    rintro e w2 ⟨rfl, hb2⟩
    have hB2 := hB1.trans (hb2.mono hB1.size)
    clear hB1 hb2
    go_wp2_with fail
    go_ret
    exact ⟨rfl, hB2⟩
  | true =>
    have hsl : supL s = supBytes s := by unfold supL; rw [← HR.out]; rfl
    have hse : supE s = 0 := by unfold supE; rw [← HR.out]; rfl
    have hlen := supBytes_len s
    rw [hsl, hlen] at ho1
    simp only [hsl, hse, hlen]
    have HLEN := Lib.hid hlen
    clear hsl hse hlen
    go_wp2_with fail
    refine (lives04 _).mono ?_
    rintro e w2 ⟨rfl, hb2⟩
    have hB2 := hB1.trans (hb2.mono hB1.size)
    have ho2 := ho1.below hb2
    clear hB1 hb2 ho1
    cases z with
    | true =>
      go_wp2_with fail
      go_ret
      exact ⟨rfl, hB2⟩
    | false =>
      by_cases h0 : at_ < 0
      · go_wp2_with fail
        go_ret
        exact ⟨rfl, hB2⟩
      by_cases h1 : 128 ≤ at_
      · go_wp2_with fail
        go_ret
        exact ⟨rfl, hB2⟩
      obtain ⟨i, rfl⟩ := Int.eq_ofNat_of_zero_le (show 0 ≤ at_ by omega)
      have hlt : i < 128 := by omega
      clear h0 h1
      have hlt' : i < (supBytes s).length := by rw [HLEN.out]; exact hlt
      obtain ⟨-, g, rfl, hg1, hg2⟩ := ho2.some_ hlt'
      replace ho2 := ho2.base_le (base' := W.heap.size) (by simp)
      have hown : Own w2 5 W.heap.size (.slice (some ⟨g, 0, none⟩) (supBytes s).length c1) (supBytes s) := by rw [HLEN.out]; exact ho2
      have hc := hown.cellG i hlt'
      have hf := hown.frozenG i
      have hx := xor_byte (supBytes s)[i] b
      have hset := hown.set i ((supBytes s)[i] ^^^ b)
      have hlen2 : ((supBytes s).set i ((supBytes s)[i] ^^^ b)).length = 128 := by rw [List.length_set]; exact HLEN.out
      rw [hlen2] at hset
      have hB3 := hB2.setCell (p := ⟨g, i, none⟩) (by show W.heap.size ≤ g; simp at hg1; omega) (.int .u8 (((supBytes s)[i] ^^^ b).toNat : Int))
      have hbad := turned_bad s i hlt ((supBytes s)[i] ^^^ b) (xor_ne (by have := HZ.out; intro e; rw [e] at this; simp at this))
      have HS := Lib.hid hset
      have HL2 := Lib.hid hlen2
      have HBAD := Lib.hid hbad
      have HB3 := Lib.hid hB3
      have hcap := ho2.cap
      clear hset hlen2 hbad hown ho2 hB2 hB3 hg1 hg2
      generalize hv : (supBytes s)[i] ^^^ b = v at *
      clear hv
      generalize (supBytes s)[i] = y at *
      go_wp2_with fail
      refine (dec_u (some ⟨g, 0, none⟩) 128 c1 _ _ HS.out.rd HL2.out hcap).mono ?_
      rintro e w3 ⟨rfl, hb3⟩
      rw [decE_bad HBAD.out, decS_bad HBAD.out]
      have hB4 := HB3.out.trans (hb3.mono HB3.out.size)
      clear hb3
      go_wp2_with fail
      go_ret
      exact ⟨rfl, hB4.trans ((below_made' w3 _).mono hB4.size)⟩
end Go.Proofs.Ytnnpdndmcenfeaa

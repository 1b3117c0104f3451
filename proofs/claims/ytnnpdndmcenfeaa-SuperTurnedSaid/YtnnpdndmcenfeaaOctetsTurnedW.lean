/-
  THE WALK of OctetsTurned: a text of which one byte is another one has another sum.
-/
import Derived.Test.YtnnpdndmcenfeaaOctL
import Derived.StillTailTactics
namespace Go.Proofs.Ytnnpdndmcenfeaa
open Go.RowKit

theorem xor_ne {a b : UInt8} (h : b.toNat ≠ 0) : a ^^^ b ≠ a := by
  intro e
  apply h
  have e1 : a ^^^ b = a ^^^ 0 := by rw [e]; simp
  have e2 : (a ^^^ b).toNat = (a ^^^ (0 : UInt8)).toNat := by rw [e1]
  rw [UInt8.toNat_xor, UInt8.toNat_xor] at e2
  exact xor_cancel e2

set_option maxRecDepth 100000 in
set_option maxHeartbeats 1000000 in
theorem octetsTurned_walk (seed : Nat) (A : Option Addr) (n c : Nat) (bs : List UInt8) (at_ : Int) (b : UInt8) (W : World) (hs_ : seed < 4294967296) (hr : Rd W A bs) (hn : bs.length = n) (h47 : n ≤ 140737488351232) (_lo : -9223372036854775808 ≤ at_) (hi : at_ ≤ 9223372036854775807) :
    Calls Try.prog 7 #[.int .u32 seed, .slice A n c, .int .i64 at_, .int .u8 (b.toNat : Int)] W fun e W' => e = .returned (.bool true) ∧ Below W.heap.size W W' := by
  subst hn
  have HR := Lib.hid hr
  clear hr
  by_cases hb0 : b.toNat = 0
  · have hb : ((b.toNat : Int) == 0) = true := by rw [beq_iff_eq]; omega
    clear hb0
    go_enter Try.func7, Try.ntmps7
    go_wp2_with (go_at_call 22; refine (lives01 _).mono ?_; rintro e w1 ⟨rfl, hb1⟩)
    go_ret
    exact ⟨rfl, hb1⟩
  have hb : ((b.toNat : Int) == 0) = false := by rw [beq_eq_false_iff_ne]; omega
  have HB0 := Lib.hid hb0
  clear hb0
  by_cases h0 : at_ < 0
  · go_enter Try.func7, Try.ntmps7
    go_wp2_with (go_at_call 22; refine (lives01 _).mono ?_; rintro e w1 ⟨rfl, hb1⟩)
    go_ret
    exact ⟨rfl, hb1⟩
  obtain ⟨i, rfl⟩ := Int.eq_ofNat_of_zero_le (show 0 ≤ at_ by omega)
  by_cases h1 : bs.length ≤ i
  · clear h0
    go_enter Try.func7, Try.ntmps7
    go_wp2_with (go_at_call 22; refine (lives01 _).mono ?_; rintro e w1 ⟨rfl, hb1⟩)
    go_ret
    exact ⟨rfl, hb1⟩
  have hlt : i < bs.length := by omega
  clear h0 h1
  go_enter Try.func7, Try.ntmps7
  go_wp2_with (first | (go_at_call 22; refine (lives01 _).mono ?_; rintro e w1 ⟨rfl, hb1⟩) | (at_builtin; refine wpList_append_rd rfl (.tmp 24) (.tmp 25) 23 rfl w1.heap.size 5 Try.underlying23 Try.infoU8 (.slice (some ⟨w1.heap.size, 0, none⟩) 0 0) [] bs A bs.length c rfl rfl (Own.lit w1 _ [] 0 rfl (by omega)) ((HR.out.below hb1).alloc _) rfl (by simp; omega) (by simp) ?_; intro v2 w2 hown2 hg2))
  have hb2 : Below w1.heap.size w1 w2 := ((Below.refl _ _).alloc (Nat.le_refl _) _).grown hg2 (by simp) (by simp [Value.ownBlock])
  rw [List.nil_append] at hown2
  obtain ⟨A2, c2, rfl, hr2, hs2⟩ := hown2.form
  obtain ⟨g, rfl, hg, _, _⟩ := hown2.first (Nat.lt_of_le_of_lt (Nat.zero_le _) hlt)
  have hc := hown2.cellG i hlt
  have hf := hown2.frozenG i
  have HS := Lib.hid (hown2.set i (bs[i] ^^^ b))
  have HX := Lib.hid (xor_byte bs[i] b)
  have HB := Lib.hid ((hb1.trans (hb2.mono hb1.size)).setCell (p := ⟨g, i, none⟩) (Nat.le_trans hb1.size hg) (.int .u8 ((bs[i] ^^^ b).toNat : Int)))
  have HR2 := Lib.hid ((HR.out.below hb1).below hb2)
  clear hr2 hs2 hown2 hg2
  have hx : bits .xor .u8 (bs[i].toNat : Int) (b.toNat : Int) = ((bs[i] ^^^ b).toNat : Int) := HX.out
  generalize hv : bs[i] ^^^ b = v at *
  have HV := Lib.hid hv
  clear hv
  go_wp2_with fail
  go_simp
  go_wp2_with fail
  have hs := HS.out
  have hbl := HB.out
  clear hx hc hf HS HB HR2
  generalize w2.setCell ⟨g, i, none⟩ (.int .u8 (v.toNat : Int)) = w3 at *
  refine (crc_any A bs.length c bs seed _ (HR.out.below hbl) rfl hs_).mono ?_
  rintro e w4 ⟨rfl, hb4⟩
  have hs4 := hs.below hb4
  have hbl4 := below_to hbl hb4
  have hlen : (bs.set i v).length = bs.length := List.length_set
  rw [hlen] at hs4
  clear hs hbl hb4
  have hne : ((crc seed bs : Int) != (crc seed (bs.set i v) : Int)) = true := by
    have h := crc_turned bs i hlt v (by rw [← HV.out]; exact xor_ne HB0.out) seed
    rw [bne_iff_ne]
    intro e
    exact h (by omega)
  generalize crc seed bs = c1 at *
  have HNE := Lib.hid hne
  clear hne
  go_wp2_with fail
  refine (crc_any (some ⟨g, 0, none⟩) bs.length c2 (bs.set i v) seed _ hs4.rd hlen hs_).mono ?_
  rintro e w5 ⟨rfl, hb5⟩
  have hne := HNE.out
  clear hs4
  go_wp2_with fail
  go_ret
  exact ⟨rfl, below_to hbl4 hb5⟩
end Go.Proofs.Ytnnpdndmcenfeaa

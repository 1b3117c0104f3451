/-
  THE WALK of OctetsBits: bits are told, set, looked for and counted as the reference does it.
-/
import Derived.Test.YtnnpdndmcenfeaaOctL
import Derived.Test.YtnnpdndmcenfeaaOctBitsW
namespace Go.Proofs.Ytnnpdndmcenfeaa
open Go.RowKit

def withOK (L : Nat) (i : Int) : Bool := decide (0 ≤ i ∧ i < 8 * (L : Int))
def withL (bs : List UInt8) (i : Int) (on : Bool) : List UInt8 := if withOK bs.length i then withB bs i.toNat on else []
def withE (bs : List UInt8) (i : Int) : Int := if withOK bs.length i then 0 else 1
def WithPost (w : World) (bs : List UInt8) (i : Int) (on : Bool) (e : Ending) (w' : World) : Prop :=
  ∃ A c, e = .returned (.tuple #[.slice A (withL bs i on).length c, .int .i64 (withE bs i)]) ∧ Own w' 5 w.heap.size (.slice A (withL bs i on).length c) (withL bs i on) ∧ Below w.heap.size w w'

theorem with_u (A : Option Addr) (L c : Nat) (bs : List UInt8) (i : Int) (on : Bool) (w : World) (hr : Rd w A bs) (hL : bs.length = L) (h16 : L ≤ 65536) (hi : i ≤ 9223372036854775807) :
    Calls Try.prog 27 #[.slice A L c, .int .i64 i, .bool on] w (WithPost w bs i on) := by
  subst hL
  unfold WithPost withL withE
  cases hk : withOK bs.length i with
  | true =>
    have h := of_decide_eq_true hk
    obtain ⟨j, rfl⟩ := Int.eq_ofNat_of_zero_le h.1
    simp only [if_true, Int.toNat_natCast, withB_len]
    exact with_ok A _ c bs j on w hr rfl (by omega) (by omega)
  | false =>
    have h := of_decide_eq_false hk
    refine (with_bad A _ c i on w hi (by omega)).mono ?_
    rintro e w' ⟨rfl, rfl⟩
    exact ⟨none, 0, rfl, own_nil _ _ _, Below.refl _ _⟩
theorem rwith_u (A : Option Addr) (L c : Nat) (bs : List UInt8) (i : Int) (on : Bool) (w : World) (hr : Rd w A bs) (hL : bs.length = L) (h16 : L ≤ 65536) :
    Calls Try.prog 28 #[.slice A L c, .int .i64 i, .bool on] w (WithPost w bs i on) := by
  subst hL
  unfold WithPost withL withE
  cases hk : withOK bs.length i with
  | true =>
    have h := of_decide_eq_true hk
    obtain ⟨j, rfl⟩ := Int.eq_ofNat_of_zero_le h.1
    simp only [if_true, Int.toNat_natCast, withB_len]
    exact rwith_ok A _ c bs j on w hr rfl (by omega) (by omega)
  | false =>
    have h := of_decide_eq_false hk
    refine (rwith_bad A _ c bs i on w hr rfl h16 (by omega)).mono ?_
    rintro e w' ⟨rfl, hb⟩
    exact ⟨none, 0, rfl, own_nil _ _ _, hb⟩

set_option maxRecDepth 100000 in
set_option maxHeartbeats 2000000 in
theorem octetsBits_walk (A : Option Addr) (L c : Nat) (bs : List UInt8) (i : Int) (on : Bool) (o n : Int) (W : World) (hr : Rd W A bs) (hL : bs.length = L) (h47 : L ≤ 140737488351232)
    (_i0 : -9223372036854775808 ≤ i) (hi : i ≤ 9223372036854775807) (_o0 : -9223372036854775808 ≤ o) (ho : o ≤ 9223372036854775807) (hn0 : -9223372036854775808 ≤ n) (hn : n ≤ 9223372036854775807) :
    Calls Try.prog 10 #[.slice A L c, .int .i64 i, .bool on, .int .i64 o, .int .i64 n] W fun e W' => e = .returned (.bool true) ∧ Below W.heap.size W W' := by
  subst hL
  have HR := Lib.hid hr
  clear hr
  by_cases h16 : 65536 < bs.length
  · go_enter Try.func10, Try.ntmps10
    go_wp2_with (go_at_call 22; refine (lives01 _).mono ?_; rintro e w1 ⟨rfl, hb1⟩)
    go_ret
    exact ⟨rfl, hb1⟩
  have h16' : bs.length ≤ 65536 := by omega
  clear h16
  go_enter Try.func10, Try.ntmps10
  go_wp2_with (at_builtin; refine wpList_append_rd rfl (.tmp 24) (.tmp 25) 23 rfl W.heap.size 5 Try.underlying23 Try.infoU8 (.slice (some ⟨W.heap.size, 0, none⟩) 0 0) [] bs A bs.length c rfl rfl (Own.none_ W _) (HR.out.alloc _) rfl (by simp; omega) (by simp) ?_; intro v1 w1 hown1 hg1; have hb1 := below_made hg1)
  obtain ⟨A1, c1, rfl, hr1, _⟩ := hown1.form
  simp only [List.nil_append] at hr1
  clear hown1 hg1
  simp only [List.nil_append]
  refine (with_u A1 bs.length c1 bs i on _ hr1 rfl h16' hi).mono ?_
  rintro e w2 ⟨A2, c2, rfl, hown2, hb2⟩
  have hb12 := below_to hb1 hb2
  have hr12 := hr1.below hb2
  have hrA2 := HR.out.below hb12
  have hr2 := hown2.rd
  clear hown2 hr1 hb1 hb2
  go_wp2_with fail
  refine (rwith_u A bs.length c bs i on _ hrA2 rfl h16').mono ?_
  rintro e w3 ⟨A3, c3, rfl, hown3, hb3⟩
  have hb13 := below_to hb12 hb3
  have hr13 := hr12.below hb3
  have hrA3 := HR.out.below hb13
  have hr23 := hr2.below hb3
  have hr33 := hown3.rd
  clear hown3 hr12 hrA2 hr2 hb3 hb12
  go_wp2_with fail
  refine (free_any A1 bs.length c1 bs o n _ hr13 rfl (by omega) (by omega) hn0 hn).mono ?_
  rintro e w' ⟨rfl, rfl⟩
  go_wp2_with fail
  refine (rfree_any A bs.length c bs o n _ hrA3 rfl h16').mono ?_
  rintro e w4 ⟨rfl, hb4⟩
  have hb14 := below_to hb13 hb4
  have hr14 := hr13.below hb4
  have hr24 := hr23.below hb4
  have hr34 := hr33.below hb4
  clear hr13 hrA3 hr23 hr33 hb4 hb13
  generalize freeI bs o n = fr at *
  generalize withE bs i = we at *
  generalize withL bs i on = wl at *
  go_wp2_with fail
  refine (lives01 _).mono ?_
  rintro e w5 ⟨rfl, hb5⟩
  have hb15 := below_to hb14 hb5
  have hr15 := hr14.below hb5
  have hr25 := hr24.below hb5
  have hr35 := hr34.below hb5
  clear hr14 hr24 hr34 hb5 hb14
  go_wp2_with fail
  refine (has_any A1 bs.length c1 bs i _ hr15 rfl hi).mono ?_
  rintro e w' ⟨rfl, rfl⟩
  go_wp2_with fail
  refine (rhas_any A bs.length c bs i _ (HR.out.below hb15) rfl h16').mono ?_
  rintro e w6 ⟨rfl, hb6⟩
  have hb16 := below_to hb15 hb6
  have hr16 := hr15.below hb6
  have hr26 := hr25.below hb6
  have hr36 := hr35.below hb6
  clear hr15 hr25 hr35 hb6 hb15
  generalize hasI bs i = hi1 at *
  have s2 := run_string_rd (P := Try.prog) w6 23 9 5 Try.underlying23 Try.underlying5 Try.underlying9 A2 _ c2 _ hr26 rfl
  have s3 := run_string_rd (P := Try.prog) w6 23 9 5 Try.underlying23 Try.underlying5 Try.underlying9 A3 _ c3 _ hr36 rfl
  clear hr26 hr36
  go_wp2_with fail
  refine (count_any A1 bs.length c1 bs n _ hr16 rfl (by omega) hn0 hn).mono ?_
  rintro e w' ⟨rfl, rfl⟩
  clear s2 s3
  go_wp2_with fail
  refine (rcount_any A bs.length c bs n _ (HR.out.below hb16) rfl h16').mono ?_
  rintro e w7 ⟨rfl, hb7⟩
  have hb17 := below_to hb16 hb7
  generalize countI bs n = ci at *
  have s1 := run_string_rd (P := Try.prog) w7 23 9 5 Try.underlying23 Try.underlying5 Try.underlying9 A1 _ c1 _ (hr16.below hb7) rfl
  have sA := run_string_rd (P := Try.prog) w7 23 9 5 Try.underlying23 Try.underlying5 Try.underlying9 A _ c _ (HR.out.below hb17) rfl
  clear hr16 hb7 hb16
  go_wp2_with fail
  go_ret
  exact ⟨rfl, hb17⟩
end Go.Proofs.Ytnnpdndmcenfeaa

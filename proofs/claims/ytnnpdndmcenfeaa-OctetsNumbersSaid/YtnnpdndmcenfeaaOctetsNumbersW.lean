/-
  THE WALK of OctetsNumbers: any number's bytes, and the number in any bytes, are the reference's.
-/
import Derived.Test.YtnnpdndmcenfeaaOctU
namespace Go.Proofs.Ytnnpdndmcenfeaa
open Go.RowKit

set_option maxRecDepth 100000 in
set_option maxHeartbeats 1000000 in
theorem octetsNumbers_walk (x : Nat) (n : Int) (A : Option Addr) (l c : Nat) (bs : List UInt8) (o : Int) (W : World) (hx : x < 18446744073709551616) (_l0 : -9223372036854775808 ≤ n) (_l1 : n ≤ 9223372036854775807) (hr : Rd W A bs) (hn : bs.length = l) (h47 : l ≤ 140737488351232) (_l2 : -9223372036854775808 ≤ o) (_l3 : o ≤ 9223372036854775807) :
    Calls Try.prog 3 #[.int .u64 x, .int .i64 n, .slice A l c, .int .i64 o] W fun e W' => e = .returned (.bool true) ∧ Below W.heap.size W W' := by
  subst hn
  have HR := Lib.hid hr
  clear hr
  go_enter Try.func3, Try.ntmps3
  go_wp2_with (at_builtin; refine wpList_append_rd rfl (.tmp 18) (.tmp 19) 23 rfl W.heap.size 5 Try.underlying23 Try.infoU8 (.slice (some ⟨W.heap.size, 0, none⟩) 0 0) [] bs A bs.length c rfl rfl (Own.none_ W _) (HR.out.alloc _) rfl (by simp; omega) (by simp) ?_; intro v1 w1 hown1 hg1; have hb1 := below_made hg1)
  obtain ⟨A1, c1, rfl, hr1, _⟩ := hown1.form
  simp only [List.nil_append] at hr1
  clear hown1 hg1
  simp only [List.nil_append]
  refine (put_u x n _ hx).mono ?_
  rintro e w2 ⟨A2, c2, rfl, hown2, hb2⟩
  have hb12 := below_to hb1 hb2
  go_wp2_with fail
  refine (rput_u x n _ hx).mono ?_
  rintro e w3 ⟨A3, c3, rfl, hown3, hb3⟩
  have hb13 := below_to hb12 hb3
  have hr2 := hown2.rd.below hb3
  have hr3 := hown3.rd
  have hr13 := (hr1.below hb2).below hb3
  have hrA := HR.out.below hb13
  clear hown2 hown3 hb1 hb2 hb3 hb12 hr1
  go_wp2_with fail
  refine (get_u A1 bs.length c1 bs o n _ hr13 rfl).mono ?_
  rintro e w' ⟨rfl, rfl⟩
  go_wp2_with fail
  refine (rget_u A bs.length c bs o n _ hrA rfl).mono ?_
  rintro e w' ⟨rfl, rfl⟩
  generalize getN bs o n = gn at *
  generalize getE bs o n = ge at *
  generalize putE x n = pe at *
  generalize putL x n = pl at *
  go_wp2_with fail
  refine (lives01 _).mono ?_
  rintro e w4 ⟨rfl, hb4⟩
  have s2 := run_string_rd (P := Try.prog) w4 23 9 5 Try.underlying23 Try.underlying5 Try.underlying9 A2 _ c2 _ (hr2.below hb4) rfl
  have s3 := run_string_rd (P := Try.prog) w4 23 9 5 Try.underlying23 Try.underlying5 Try.underlying9 A3 _ c3 _ (hr3.below hb4) rfl
  have s1 := run_string_rd (P := Try.prog) w4 23 9 5 Try.underlying23 Try.underlying5 Try.underlying9 A1 _ c1 _ (hr13.below hb4) rfl
  have sA := run_string_rd (P := Try.prog) w4 23 9 5 Try.underlying23 Try.underlying5 Try.underlying9 A _ c _ (hrA.below hb4) rfl
  have hb14 := below_to hb13 hb4
  clear hr2 hr3 hr13 hrA hb13 hb4
  go_wp2_with fail
  go_ret
  exact ⟨rfl, hb14⟩
end Go.Proofs.Ytnnpdndmcenfeaa

/-
  THE WALK of RaidNobody.
-/
import Derived.Test.YtajnlhalanhicaaRaLw
import Derived.Test.YtajnlhalanhicaaRaZ
import Derived.Test.YtajnlhalanhicaaRbA
namespace Go.Proofs.Ytajnlhalanhicaa
set_option linter.all false
set_option maxRecDepth 20000
open Go.RowKit

theorem mod08 (a n : Int) (w : World) (hn : 0 < n) (hn2 : n ≤ 1000000) (h0 : -9223372036854775808 ≤ a) (h1 : a ≤ 9223372036854775807) : Calls Try.prog 8 #[.int .i64 a, .int .i64 n] w fun e w' => e = .returned (.int .i64 (a % n)) ∧ w = w' := by
  have t1 := Int.tmod_lt_of_pos a hn
  have t2 := Int.lt_tmod_of_pos a hn
  have hem := Int.emod_eq_of_lt (a := a.tmod n) (b := n)
  have hde : a % n = if a.tmod n < 0 then a.tmod n + n else a.tmod n := by
    have e : a = n * a.tdiv n + a.tmod n := (Int.mul_tdiv_add_tmod a n).symm
    have e2 : a % n = a.tmod n % n := by
      conv => lhs; rw [e]
      rw [Int.add_comm, Int.add_mul_emod_self_left]
    rw [e2]
    split
    · have : (a.tmod n + n) % n = a.tmod n % n := by simp
      rw [← this]
      exact Int.emod_eq_of_lt (by omega) (by omega)
    · exact Int.emod_eq_of_lt (by omega) (by omega)
  have hw1 : IntKind.i64.wrap (a.tmod n) = a.tmod n := IntWalk.i64_in _ (by omega)
  have hnz : (n = 0) = False := eq_false (by omega)
  clear hem
  by_cases hneg : a.tmod n < 0
  · rw [if_pos hneg] at hde
    have hw2 : IntKind.i64.wrap (a.tmod n + n) = a.tmod n + n := IntWalk.i64_in _ (by omega)
    rw [hde]
    clear hde
    go_enter Try.func8, Try.ntmps8
    go_wp2_with fail
    go_ret
    exact ⟨rfl, rfl⟩
  · rw [if_neg hneg] at hde
    rw [hde]
    clear hde
    go_enter Try.func8, Try.ntmps8
    go_wp2_with fail
    go_ret
    exact ⟨rfl, rfl⟩
theorem status_field0 (w : World) (x y z p q r : Value) : (Instr.field 63 (.agg #[x, y, z, p, q, r]) 0).run Try.prog w = .ok x w := rfl
/-- what may be -/
def RightN (m st l : Int) (k : Nat) : Prop := 3 ≤ m ∧ m ≤ 16 ∧ 1 ≤ l ∧ l ≤ 8 ∧ 1 ≤ st ∧ st ≤ 35 - 2 * l ∧ ((k : Int) = m ∨ (k : Int) = m + 1)
theorem right_build (m st l : Int) (k : Nat) : buildOk (freshSh k 40) (newSup m st l) = true ↔ RightN m st l k := by
  have hdl : (freshSh k 40).disks.length = k := by simp [freshSh]
  have hbk : blocksI ((freshSh k 40).sectors : Nat) = 37 := by show blocksI ((40 : Nat) : Int) = 37; decide
  unfold buildOk newSup RightN
  rw [decide_eq_true_iff, hdl, hbk]
  dsimp only
  omega
set_option maxRecDepth 100000 in
set_option maxHeartbeats 16000000 in
theorem nob8_bad (m st l dk n : Int) (A : Option Addr) (bn bc kk : Nat) (w : World) (hkk : kk < 17) (hmod : dk % 17 = (kk : Int)) (hd0 : -9223372036854775808 ≤ dk) (hd1 : dk ≤ 9223372036854775807)
    (hm0 : -9223372036854775808 ≤ m) (hm1 : m ≤ 9223372036854775807) (hl0 : -9223372036854775808 ≤ l) (hl1 : l ≤ 9223372036854775807) (hs0 : -9223372036854775808 ≤ st) (hs1 : st ≤ 9223372036854775807)
    (hright : m < 3 ∨ (3 ≤ m ∧ 16 < m) ∨ (3 ≤ m ∧ m ≤ 16 ∧ l < 1) ∨ (3 ≤ m ∧ m ≤ 16 ∧ 1 ≤ l ∧ 8 < l) ∨ (3 ≤ m ∧ m ≤ 16 ∧ 1 ≤ l ∧ l ≤ 8 ∧ st < 1) ∨ (3 ≤ m ∧ m ≤ 16 ∧ 1 ≤ l ∧ l ≤ 8 ∧ 1 ≤ st ∧ 35 - 2 * l < st) ∨ (3 ≤ m ∧ m ≤ 16 ∧ 1 ≤ l ∧ l ≤ 8 ∧ 1 ≤ st ∧ st ≤ 35 - 2 * l ∧ ¬ ((kk + 1 : Nat) : Int) = m ∧ ¬ ((kk + 1 : Nat) : Int) = m + 1)) :
    Calls Try.prog 5 #[.int .i64 m, .int .i64 st, .int .i64 l, .int .i64 dk, .int .i64 n, .slice A bn bc] w fun e w' => e = .returned (.bool true) ∧ Below w.heap.size w w' := by
  have hmd := mod08 dk 17 w (by omega) (by omega) hd0 hd1
  rw [hmod] at hmd
  have hwk : IntKind.i64.wrap (1 + (kk : Int)) = ((kk + 1 : Nat) : Int) := by rw [IntWalk.i64_in _ (by omega)]; omega
  have hnw := lx_new (X := fun b => b < w.heap.size) (w := w) (fun b hb => hb) (kk + 1) 40 (by omega) (by omega) (by omega) (by omega)
  simp only [show ((40 : Nat) : Int) = 40 from rfl] at hnw
  obtain ⟨k, hk⟩ : ∃ k, k = kk + 1 := ⟨_, rfl⟩
  rw [← hk] at hwk hnw hright
  have hk1 : 1 ≤ k ∧ k ≤ 17 := by omega
  replace hk := Lib.hid hk
  replace hmod := Lib.hid hmod
  have hlv := Lib.hid fun W => lives08 W
  go_enter Try.func5, Try.ntmps5
  go_wp2_with fail
  with_reducible refine hmd.mono ?_
  rintro e wx ⟨rfl, rfl⟩
  clear hmd
  go_wp2_with fail
  with_reducible refine hnw.mono ?_
  rintro e w1 ⟨g, rfl, hS1, hb1⟩
  clear hnw
  replace hS1 := Lib.hid hS1
  replace hb1 := Lib.hid hb1
  have hlv1 := hlv.out w1
  go_wp2_with fail
  with_reducible refine hlv1.mono ?_
  rintro e w2 ⟨rfl, hB2⟩
  replace hB2 := Lib.hid hB2
  have hS2 := hS1.out.below hB2.out
  have hcr := ra_create_bad hS2 m st l hl0 hl1 (by
    cases hb : buildOk (freshSh k 40) (newSup m st l) with
    | false => rfl
    | true => have := (right_build m st l k).1 hb; unfold RightN at this; omega)
  have hB12 := hb1.out.trans (hB2.out.mono hb1.out.size)
  clear hlv1 hS1 hb1 hB2 hS2
  go_wp2_with fail
  with_reducible refine hcr.mono ?_
  rintro e w3 ⟨rfl, hb3⟩
  have hB3 := hB12.trans (hb3.mono hB12.size)
  clear hcr hb3 hB12
  go_upto_region 7 with (fail)
  go_cut [19] (fun v wx => v = .bool false ∧ wx = w3)
  case first =>
    rcases hright with q1 | ⟨q1, q2⟩ | ⟨q1, q2, q3⟩ | ⟨q1, q2, q3, q4⟩ | ⟨q1, q2, q3, q4, q5⟩ | ⟨q1, q2, q3, q4, q5, q6⟩ | ⟨q1, q2, q3, q4, q5, q6, q7, q8⟩
    all_goals
      go_wp2_with fail
      go_meet
      refine ⟨?_, rfl⟩
      first | rfl | exact congrArg Value.bool (by simp [*])
  case rest =>
  obtain ⟨rfl, rfl⟩ := hcut
  clear hright
  generalize wc = w3 at *
  have hcn := ra_create_nil w3
  replace hB3 := Lib.hid hB3
  go_wp2_with fail
  with_reducible refine hcn.mono ?_
  rintro e w4 ⟨rfl, hb4⟩
  replace hB3 := Lib.hid (hB3.out.trans (hb4.mono hB3.out.size))
  have hon := ra_open_nil w4
  clear hcn hb4
  go_wp2_with fail
  with_reducible refine hon.mono ?_
  rintro e w5 ⟨rfl, hb5⟩
  replace hB3 := Lib.hid (hB3.out.trans (hb5.mono hB3.out.size))
  have hrn := ra_read_nil w5 n
  clear hon hb5
  go_wp2_with fail
  with_reducible refine hrn.mono ?_
  rintro e w6 ⟨rfl, hb6⟩
  replace hB3 := Lib.hid (hB3.out.trans (hb6.mono hB3.out.size))
  have hmn := ra_mend_nil w6 n
  clear hrn hb6
  go_wp2_with fail
  with_reducible refine hmn.mono ?_
  rintro e w7 ⟨rfl, rfl⟩
  have hwn := ra_whole_nil w6 n
  clear hmn
  go_wp2_with fail
  with_reducible refine hwn.mono ?_
  rintro e w8 ⟨rfl, rfl⟩
  clear hwn
  have hwr := Lib.hid fun W => ra_write_nil W n (.slice A bn bc)
  have hfl := Lib.hid fun W => ra_flush_nil W
  have hsz := Lib.hid fun W => ra_size_nil W
  have hsp := Lib.hid fun W => ra_spares_nil W
  have hfi := Lib.hid fun W => ra_fill_nil W n
  have hsv := Lib.hid fun W => ra_save_nil W n n n
  have hst := Lib.hid fun W => ra_status_nil W
  simp only [statR, show ((0 : Nat) : Int) = 0 from rfl] at hst
  have hct := hwr.out w6
  go_wp2_with fail
  with_reducible refine hct.mono ?_
  rintro e wx0 ⟨rfl, hbx⟩
  replace hB3 := Lib.hid (hB3.out.trans (hbx.mono hB3.out.size))
  clear hct hbx hwr
  have hct := hfl.out wx0
  go_wp2_with fail
  with_reducible refine hct.mono ?_
  rintro e wx1 ⟨rfl, rfl⟩
  clear hct hfl
  have hct := hsz.out wx0
  go_wp2_with fail
  with_reducible refine hct.mono ?_
  rintro e wx2 ⟨rfl, rfl⟩
  clear hct hsz
  have hct := hsp.out wx0
  go_wp2_with fail
  with_reducible refine hct.mono ?_
  rintro e wx3 ⟨rfl, hbx⟩
  replace hB3 := Lib.hid (hB3.out.trans (hbx.mono hB3.out.size))
  clear hct hbx hsp
  have hct := hfi.out wx3
  go_wp2_with fail
  with_reducible refine hct.mono ?_
  rintro e wx4 ⟨rfl, rfl⟩
  clear hct hfi
  have hct := hsv.out wx3
  go_wp2_with fail
  with_reducible refine hct.mono ?_
  rintro e wx5 ⟨rfl, rfl⟩
  clear hct hsv
  have hct := hst.out wx3
  go_wp2_with fail
  with_reducible refine hct.mono ?_
  rintro e wx6 ⟨rfl, hbx⟩
  replace hB3 := Lib.hid (hB3.out.trans (hbx.mono hB3.out.size))
  clear hct hbx hst
  have hfd := status_field0
  go_wp2_with fail
  go_ret
  exact ⟨rfl, hB3.out⟩
set_option maxRecDepth 100000 in
set_option maxHeartbeats 16000000 in
theorem nob8_good (m st l dk n : Int) (A : Option Addr) (bn bc kk : Nat) (w : World) (hkk : kk < 17) (hmod : dk % 17 = (kk : Int)) (hd0 : -9223372036854775808 ≤ dk) (hd1 : dk ≤ 9223372036854775807)
    (hm0 : -9223372036854775808 ≤ m) (hm1 : m ≤ 9223372036854775807) (hl0 : -9223372036854775808 ≤ l) (hl1 : l ≤ 9223372036854775807) (hs0 : -9223372036854775808 ≤ st) (hs1 : st ≤ 9223372036854775807)
    (hright : (3 ≤ m ∧ m ≤ 16 ∧ 1 ≤ l ∧ l ≤ 8 ∧ 1 ≤ st ∧ st ≤ 35 - 2 * l ∧ ((kk + 1 : Nat) : Int) = m) ∨ (3 ≤ m ∧ m ≤ 16 ∧ 1 ≤ l ∧ l ≤ 8 ∧ 1 ≤ st ∧ st ≤ 35 - 2 * l ∧ ¬ ((kk + 1 : Nat) : Int) = m ∧ ((kk + 1 : Nat) : Int) = m + 1)) :
    Calls Try.prog 5 #[.int .i64 m, .int .i64 st, .int .i64 l, .int .i64 dk, .int .i64 n, .slice A bn bc] w fun e w' => e = .returned (.bool true) ∧ Below w.heap.size w w' := by
  have hmd := mod08 dk 17 w (by omega) (by omega) hd0 hd1
  rw [hmod] at hmd
  have hwk : IntKind.i64.wrap (1 + (kk : Int)) = ((kk + 1 : Nat) : Int) := by rw [IntWalk.i64_in _ (by omega)]; omega
  have hnw := lx_new (X := fun b => b < w.heap.size) (w := w) (fun b hb => hb) (kk + 1) 40 (by omega) (by omega) (by omega) (by omega)
  simp only [show ((40 : Nat) : Int) = 40 from rfl] at hnw
  obtain ⟨k, hk⟩ : ∃ k, k = kk + 1 := ⟨_, rfl⟩
  rw [← hk] at hwk hnw hright
  have hk1 : 1 ≤ k ∧ k ≤ 17 := by omega
  replace hk := Lib.hid hk
  replace hmod := Lib.hid hmod
  have hlv := Lib.hid fun W => lives08 W
  go_enter Try.func5, Try.ntmps5
  go_wp2_with fail
  with_reducible refine hmd.mono ?_
  rintro e wx ⟨rfl, rfl⟩
  clear hmd
  go_wp2_with fail
  with_reducible refine hnw.mono ?_
  rintro e w1 ⟨g, rfl, hS1, hb1⟩
  clear hnw
  replace hS1 := Lib.hid hS1
  replace hb1 := Lib.hid hb1
  have hlv1 := hlv.out w1
  go_wp2_with fail
  with_reducible refine hlv1.mono ?_
  rintro e w2 ⟨rfl, hB2⟩
  replace hB2 := Lib.hid hB2
  have hS2 := hS1.out.below hB2.out
  have hbo : buildOk (freshSh k 40) (newSup m st l) = true := (right_build m st l k).2 (by unfold RightN; omega)
  have hcr := ra_create hS2 ((room_fresh k 40).mono (by omega)) m st l hbo
  have hmk := (make_fresh k hk1.1 hk1.2 m st l hbo).1
  have hB12 := hb1.out.trans (hB2.out.mono hb1.out.size)
  clear hlv1 hS1 hb1 hB2 hS2 hbo
  generalize volMake (freshSh k 40) (volBuild (freshSh k 40) (newSup m st l)) = T at *
  go_wp2_with fail
  with_reducible refine hcr.mono ?_
  rintro e w3 ⟨hx, -, hK3⟩
  obtain ⟨F, rfl, rfl, hV3⟩ := hx hmk
  have hB3 : Below w.heap.size w w3 := hB12.trans ⟨hK3.os, hK3.tape, hK3.output, hK3.size, hK3.block⟩
  clear hcr hmk hK3 hV3 hB12
  go_upto_region 7 with (fail)
  go_cut [19] (fun v wx => v = .bool true ∧ wx = w3)
  case first =>
    rcases hright with ⟨q1, q2, q3, q4, q5, q6, q7⟩ | ⟨q1, q2, q3, q4, q5, q6, q7, q8⟩
    case' inl => subst q7
    case' inr =>
      have hw8 : IntKind.i64.wrap (m + 1) = (k : Int) := by rw [IntWalk.i64_in _ (by omega)]; omega
      clear q8
    all_goals
      go_wp2_with fail
      go_meet
      refine ⟨?_, rfl⟩
      first | rfl | exact congrArg Value.bool (by simp [*])
  case rest =>
  obtain ⟨rfl, rfl⟩ := hcut
  clear hright
  generalize wc = w3 at *
  have hcn := ra_create_nil w3
  replace hB3 := Lib.hid hB3
  go_wp2_with fail
  with_reducible refine hcn.mono ?_
  rintro e w4 ⟨rfl, hb4⟩
  replace hB3 := Lib.hid (hB3.out.trans (hb4.mono hB3.out.size))
  have hon := ra_open_nil w4
  clear hcn hb4
  go_wp2_with fail
  with_reducible refine hon.mono ?_
  rintro e w5 ⟨rfl, hb5⟩
  replace hB3 := Lib.hid (hB3.out.trans (hb5.mono hB3.out.size))
  have hrn := ra_read_nil w5 n
  clear hon hb5
  go_wp2_with fail
  with_reducible refine hrn.mono ?_
  rintro e w6 ⟨rfl, hb6⟩
  replace hB3 := Lib.hid (hB3.out.trans (hb6.mono hB3.out.size))
  have hmn := ra_mend_nil w6 n
  clear hrn hb6
  go_wp2_with fail
  with_reducible refine hmn.mono ?_
  rintro e w7 ⟨rfl, rfl⟩
  have hwn := ra_whole_nil w6 n
  clear hmn
  go_wp2_with fail
  with_reducible refine hwn.mono ?_
  rintro e w8 ⟨rfl, rfl⟩
  clear hwn
  have hwr := Lib.hid fun W => ra_write_nil W n (.slice A bn bc)
  have hfl := Lib.hid fun W => ra_flush_nil W
  have hsz := Lib.hid fun W => ra_size_nil W
  have hsp := Lib.hid fun W => ra_spares_nil W
  have hfi := Lib.hid fun W => ra_fill_nil W n
  have hsv := Lib.hid fun W => ra_save_nil W n n n
  have hst := Lib.hid fun W => ra_status_nil W
  simp only [statR, show ((0 : Nat) : Int) = 0 from rfl] at hst
  have hct := hwr.out w6
  go_wp2_with fail
  with_reducible refine hct.mono ?_
  rintro e wx0 ⟨rfl, hbx⟩
  replace hB3 := Lib.hid (hB3.out.trans (hbx.mono hB3.out.size))
  clear hct hbx hwr
  have hct := hfl.out wx0
  go_wp2_with fail
  with_reducible refine hct.mono ?_
  rintro e wx1 ⟨rfl, rfl⟩
  clear hct hfl
  have hct := hsz.out wx0
  go_wp2_with fail
  with_reducible refine hct.mono ?_
  rintro e wx2 ⟨rfl, rfl⟩
  clear hct hsz
  have hct := hsp.out wx0
  go_wp2_with fail
  with_reducible refine hct.mono ?_
  rintro e wx3 ⟨rfl, hbx⟩
  replace hB3 := Lib.hid (hB3.out.trans (hbx.mono hB3.out.size))
  clear hct hbx hsp
  have hct := hfi.out wx3
  go_wp2_with fail
  with_reducible refine hct.mono ?_
  rintro e wx4 ⟨rfl, rfl⟩
  clear hct hfi
  have hct := hsv.out wx3
  go_wp2_with fail
  with_reducible refine hct.mono ?_
  rintro e wx5 ⟨rfl, rfl⟩
  clear hct hsv
  have hct := hst.out wx3
  go_wp2_with fail
  with_reducible refine hct.mono ?_
  rintro e wx6 ⟨rfl, hbx⟩
  replace hB3 := Lib.hid (hB3.out.trans (hbx.mono hB3.out.size))
  clear hct hbx hst
  have hfd := status_field0
  go_wp2_with fail
  go_ret
  exact ⟨rfl, hB3.out⟩
theorem raidNobody_walk (m st l dk n : Int) (A : Option Addr) (bn bc : Nat) (bs : List UInt8) (w : World) (hm0 : -9223372036854775808 ≤ m) (hm1 : m ≤ 9223372036854775807) (hs0 : -9223372036854775808 ≤ st) (hs1 : st ≤ 9223372036854775807) (hl0 : -9223372036854775808 ≤ l) (hl1 : l ≤ 9223372036854775807) (hd0 : -9223372036854775808 ≤ dk) (hd1 : dk ≤ 9223372036854775807) (_ : -9223372036854775808 ≤ n) (_ : n ≤ 9223372036854775807) (_ : Rd w A bs) (_ : bs.length = bn) (_ : bn ≤ 140737488351232) :
    Calls Try.prog 5 #[.int .i64 m, .int .i64 st, .int .i64 l, .int .i64 dk, .int .i64 n, .slice A bn bc] w fun e w' => e = .returned (.bool true) ∧ Below w.heap.size w w' := by
  obtain ⟨kk, hkk, hmod⟩ : ∃ kk : Nat, kk < 17 ∧ dk % 17 = (kk : Int) := ⟨(dk % 17).toNat, by omega, by omega⟩
  by_cases hr : RightN m st l (kk + 1)
  · exact nob8_good m st l dk n A bn bc kk w hkk hmod hd0 hd1 hm0 hm1 hl0 hl1 hs0 hs1 (by unfold RightN at hr; omega)
  · exact nob8_bad m st l dk n A bn bc kk w hkk hmod hd0 hd1 hm0 hm1 hl0 hl1 hs0 hs1 (by unfold RightN at hr; omega)
end Go.Proofs.Ytajnlhalanhicaa


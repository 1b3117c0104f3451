/-
  THE WALKS over the sums' stand and fits.
-/
import Derived.Test.YtikfbhepnnbdoaaSuA
import Derived.Test.YtikfbhepnnbdoaaMemC
import Derived.Test.YtikfbhepnnbdoaaMemR
import Derived.Test.YtikfbhepnnbdoaaShP
import Derived.Deep.RegionHeld3
import Derived.Handy
import Derived.ChangeKeysEq
namespace Go.Proofs.Ytikfbhepnnbdoaa
set_option linter.all false
open Go.RowKit

def devR (g : Nat) (D : DevM) : Array Value := #[.pointer (some ⟨g, 0, none⟩), .int .i64 (D.disk : Int), .int .i64 (D.size : Int), .int .i64 D.opn]
def pairAgg (p : Nat × Nat) : Value := .agg #[.int .u32 (p.1 : Int), .int .u32 (p.2 : Int)]
theorem Try.infoU32 : (Try.prog.info? 29).map (fun i => (i.zero, i.size, i.bytes)) = some (some (.int .u32 0), 1, 4) := by kernel_rfl
set_option maxRecDepth 100000 in
theorem pair_eq (p q r s : Int) (w : World) : (Op.equalIn 10000 82 (.agg #[.int .u32 p, .int .u32 q]) (.agg #[.int .u32 r, .int .u32 s])).run Try.prog w = .ok ((p == r) && (q == s)) w := by
  obtain ⟨i0, hi0, _, _, _⟩ := info_parts Try.infoU32
  have hc : Try.prog.cellsOf 29 = 1 := by kernel_rfl
  have h0 : ∀ (u v : Value) (w : World), (Go.part 29 #[u, v] 0).run Try.prog w = .ok u w := fun _ _ _ => by kernel_rfl
  have h1 : ∀ (u v : Value) (w : World), (Go.part 29 #[u, v] 1).run Try.prog w = .ok v w := fun _ _ _ => by kernel_rfl
  rw [show (10000 : Nat) = 9999 + 1 from rfl, run_equalIn_array w 9999 _ _ Try.underlying82 hi0, hc]
  show (Op.eqItems 9999 29 1 _ _ [0, 1]).run Try.prog w = _
  have e : ∀ (a b : Int) (w : World), (Op.equalIn 9999 29 (.int .u32 a) (.int .u32 b)).run Try.prog w = .ok (a == b) w := fun a b w => run_equalIn_int w 9998 _ _ _ a b Try.underlying29
  simp only [Op.eqItems, Sem.run_bind, Nat.mul_one, h0, h1, e, Result.andThen_ok, Sem.run_pure]
  cases (p == r)
  · rfl
  · simp only [Bool.not_true, Bool.false_eq_true, if_false, Sem.run_bind, h1, e, Result.andThen_ok]
    cases (q == s) <;> rfl
theorem stand_lt (bs : Bytes) (b : Nat) : (standP bs b).1 < 4294967296 ∧ (standP bs b).2 < 4294967296 := by
  unfold standP
  have h := fun o => leNum_lt ((bs.drop o).take 4)
  have hl := fun o => List.length_take_le 4 (bs.drop o)
  have key : ∀ o, leNum ((bs.drop o).take 4) < 4294967296 := fun o =>
    Nat.lt_of_lt_of_le (h o) (Nat.le_trans (Nat.pow_le_pow_right (by omega) (hl o)) (by decide))
  exact ⟨key _, key _⟩
theorem u32_nat (x : Nat) (h : x < 4294967296) : IntKind.u32.wrap (x : Int) = (x : Int) := by
  have : IntKind.u32.wrap (x : Int) = (x : Int) % 4294967296 := by simp [IntKind.wrap, IntKind.bits, IntKind.signed]
  rw [this]
  omega

set_option maxHeartbeats 1000000 in
theorem su_stand (A : Option Addr) (c : Nat) (bs : Bytes) (b : Nat) (w : World) (hr : Rd w A bs) (hL : bs.length = 128) (hb : b < 4096) :
    Calls Try.prog 39 #[.slice A 128 c, .int .i64 b] w fun e w' => e = .returned (pairAgg (standP bs b)) ∧ Below w.heap.size w w' := by
  obtain ⟨h1, h2⟩ := stand_lt bs b
  have w1 := u32_nat _ h1
  have w2 := u32_nat _ h2
  have hg1 : Hid (∀ W, Rd W A bs → Calls Try.prog 54 #[.slice A 128 c, .int .i64 ((b : Int) % 16 * 8), .int .i64 4] W fun e w' => e = .returned (.tuple #[.int .u64 ((standP bs b).1 : Nat), .int .i64 0]) ∧ W = w') := Lib.hid fun W h => by
    have := get_ok A 128 c bs (b % 16 * 8) 4 W h hL (by omega) (by omega) (by omega)
    rw [show ((b % 16 * 8 : Nat) : Int) = (b : Int) % 16 * 8 from by omega] at this
    exact this
  have hg2 : Hid (∀ W, Rd W A bs → Calls Try.prog 54 #[.slice A 128 c, .int .i64 ((b : Int) % 16 * 8 + 4), .int .i64 4] W fun e w' => e = .returned (.tuple #[.int .u64 ((standP bs b).2 : Nat), .int .i64 0]) ∧ W = w') := Lib.hid fun W h => by
    have := get_ok A 128 c bs (b % 16 * 8 + 4) 4 W h hL (by omega) (by omega) (by omega)
    rw [show ((b % 16 * 8 + 4 : Nat) : Int) = (b : Int) % 16 * 8 + 4 from by omega] at this
    exact this
  unfold pairAgg
  generalize (standP bs b).1 = p at *
  generalize (standP bs b).2 = q at *
  replace hL := Lib.hid hL
  go_enter Try.func39, Try.ntmps39
  go_wp2_with fail
  refine wp_loop_rounds 3 ?_
  rw [rounds_succ]
  go_wp2_with fail
  have hal := (Below.refl w.heap.size w).alloc (Nat.le_refl _) (.cells #[.int .u32 0, .int .u32 0] 82)
  refine (hg1.out _ (hr.below hal)).mono ?_
  rintro e wa ⟨rfl, rfl⟩
  go_wp2_with fail
  rw [rounds_succ]
  go_wp2_with fail
  refine (hg2.out _ (hr.below ((Below.refl w.heap.size w).alloc (Nat.le_refl _) _))).mono ?_
  rintro e wa ⟨rfl, rfl⟩
  go_wp2_with fail
  rw [rounds_succ]
  go_wp2_with fail
  go_returns
  exact ⟨rfl, (Below.refl w.heap.size w).alloc (Nat.le_refl _) _⟩

section
variable {w : World}
/-- a row of two numbers, boxed -/
theorem two_cells (w : World) (b : Nat) (u v : Value) (t : TypeId) (h : w.heap[b]? = some (.cells #[u, v] t)) : w.cell? ⟨b, 0, none⟩ = some u ∧ w.cell? ⟨b, 1, none⟩ = some v :=
  ⟨(cell_of_row w b 0 _ _ _ h).trans rfl, (cell_of_row w b 1 _ _ _ h).trans rfl⟩

theorem fits_zero (D : DevM) (b : Nat) (bs : Bytes) : fitsP D.disk (0, 0) b bs = ((bs == zeroSec) || sumB D.disk b bs == 0) := by simp [fitsP]
theorem fits_more (D : DevM) (p : Nat × Nat) (b : Nat) (bs : Bytes) (h : ¬ (p.1 = 0 ∧ p.2 = 0)) : fitsP D.disk p b bs = (sumB D.disk b bs == p.1 || sumB D.disk b bs == p.2) := by
  unfold fitsP
  have : (p.1 == 0 && p.2 == 0) = false := by
    rw [Bool.and_eq_false_iff]
    by_cases h1 : p.1 = 0
    · exact .inr (by simpa using fun h2 => h ⟨h1, h2⟩)
    · exact .inl (by simpa using h1)
  rw [this, Bool.false_and, Bool.false_or]
theorem or_cases {sm p1 p2 : Nat} : (((sm : Int) == (p1 : Int)) = true ∧ sm = p1) ∨ (((sm : Int) == (p1 : Int)) = false ∧ ¬ sm = p1 ∧ (((sm : Int) == (p2 : Int)) = true ∧ sm = p2)) ∨ (((sm : Int) == (p1 : Int)) = false ∧ ¬ sm = p1 ∧ (((sm : Int) == (p2 : Int)) = false ∧ ¬ sm = p2)) := by
  by_cases h1 : sm = p1
  · exact .inl ⟨by rw [h1]; simp, h1⟩
  · by_cases h2 : sm = p2
    · exact .inr (.inl ⟨beq_eq_false_iff_ne.2 (by omega), h1, by rw [h2]; simp, h2⟩)
    · exact .inr (.inr ⟨beq_eq_false_iff_ne.2 (by omega), h1, beq_eq_false_iff_ne.2 (by omega), h2⟩)

set_option maxRecDepth 10000 in
set_option maxHeartbeats 2000000 in
theorem su_fits (a g : Nat) (D : DevM) (p : Nat × Nat) (b : Nat) (A : Option Addr) (L c : Nat) (bs : Bytes) (w : World) (hd : w.heap[a]? = some (.cells (devR g D) 78)) (hr : Rd w A bs) (hL : bs.length = L) :
    Calls Try.prog 40 #[.pointer (some ⟨a, 0, none⟩), pairAgg p, .int .i64 b, .slice A L c] w fun e w' => e = .returned (.bool (fitsP D.disk p b bs)) ∧ Below w.heap.size w w' := by
  have hlt := lt_of_blk hd
  obtain ⟨p1, p2⟩ := p
  have hsum : Hid (∀ W, Rd W A bs → Calls Try.prog 16 #[.int .i64 (D.disk : Int), .int .i64 (b : Int), .slice A L c] W fun e w' => e = .returned (.int .u32 (sumB D.disk b bs : Nat)) ∧ Below W.heap.size W w') := Lib.hid fun W h => su_sum D.disk b A L c bs W h hL
  have key : ∀ u v : Int, Hid (∀ W, Below (w.heap.size + 1) (w.alloc (.cells #[.int .u32 u, .int .u32 v] 82)) W → Below w.heap.size w W ∧ Below (w.heap.size + 1) (w.alloc (.cells #[.int .u32 u, .int .u32 v] 82)) W ∧ W.cell? ⟨w.heap.size, 0, none⟩ = some (.int .u32 u) ∧ W.cell? ⟨w.heap.size, 1, none⟩ = some (.int .u32 v) ∧ (convert 28 9 (.slice A L c)).run Try.prog W = .ok (.string ⟨bs.toArray⟩) W) := fun u v => Lib.hid fun W hW =>
    have hal : Below w.heap.size w (w.alloc (.cells #[.int .u32 u, .int .u32 v] 82)) := (Below.refl w.heap.size w).alloc (Nat.le_refl _) _
    have hb := hal.trans (hW.mono (by simp))
    ⟨hb, hW, (two_cells W w.heap.size _ _ _ ((hW.block _ (by simp)).trans (heap_alloc_new w _))).1, (two_cells W w.heap.size _ _ _ ((hW.block _ (by simp)).trans (heap_alloc_new w _))).2,
       run_string_rd (P := Try.prog) _ 28 9 5 Try.underlying28 Try.underlying5 Try.underlying9 _ L c bs (hr.below hb) hL⟩
  have hdk : Hid (∀ W, Below w.heap.size w W → W.cell? ⟨a, 1, none⟩ = some (.int .i64 (D.disk : Int)) ∧ Rd W A bs) := Lib.hid fun W hb =>
      ⟨(cell_of_row W a 1 _ _ _ ((hb.block a hlt).trans hd)).trans rfl, hr.below hb⟩
  by_cases hz : p1 = 0 ∧ p2 = 0
  · obtain ⟨rfl, rfl⟩ := hz
    rw [show pairAgg (0, 0) = .agg #[.int .u32 0, .int .u32 0] from rfl]
    have heq : ∀ w : World, (Op.equalIn 10000 82 (.agg #[.int .u32 0, .int .u32 0]) (.agg #[.int .u32 0, .int .u32 0])).run Try.prog w = .ok true w := fun w => pair_eq 0 0 0 0 w
    rw [fits_zero]
    obtain ⟨zs, hzs⟩ : ∃ zs, zs = zeroSec := ⟨_, rfl⟩
    have hzl : zs.length = 128 := by rw [hzs]; simp [zeroSec]
    have hmk := run_make_rd (P := Try.prog) 28 5 Try.underlying28 Try.infoU8 .i64 .i64 128 (by omega)
    rw [show ((128 : Nat) : Int) = 128 from rfl, show List.replicate 128 (0 : UInt8) = zs from hzs.symm] at hmk
    have hcz : (convert 28 9 (.slice (some ⟨w.heap.size + 1, 0, none⟩) 128 128)).run Try.prog ((w.alloc (.cells #[.int .u32 0, .int .u32 0] 82)).alloc (.cells (bVs zs).toArray 5)).drew = .ok (.string ⟨zs.toArray⟩) ((w.alloc (.cells #[.int .u32 0, .int .u32 0] 82)).alloc (.cells (bVs zs).toArray 5)).drew :=
      run_string_rd (P := Try.prog) _ 28 9 5 Try.underlying28 Try.underlying5 Try.underlying9 _ 128 128 zs (by have h := (Rd.lit (w.alloc (.cells #[.int .u32 0, .int .u32 0] 82)) 5 zs (by omega)).drew; simpa using h) hzl
    rw [show zeroSec = zs from hzs.symm]
    have hcs := key 0 0
    clear key
    replace hzs := Lib.hid hzs
    replace hzl := Lib.hid hzl
    replace hd := Lib.hid hd
    replace hL := Lib.hid hL
    replace hr := Lib.hid hr
    have hfin : ∀ v, v = ((bs == zs) || sumB D.disk b bs == 0) → Ending.returned (.bool v) = Ending.returned (.bool ((bs == zs) || sumB D.disk b bs == 0)) := fun v h => by rw [h]
    generalize hsm : sumB D.disk b bs = sm at *
    replace hsm := Lib.hid hsm
    by_cases hb : bs = zs
    · have hbb : (bs == zs) = true := by simpa using hb
      replace hb := Lib.hid hb
      go_enter Try.func40, Try.ntmps40
      go_wp2_with fail
--R1
      refine wp_region_held_drew (S := (fun w' => Below w.heap.size w w' ∧ Below (w.heap.size + 1) (w.alloc (.cells #[.int .u32 0, .int .u32 0] 82)) w' ∧ w'.cell? ⟨w.heap.size, 0, none⟩ = some (.int .u32 0) ∧ w'.cell? ⟨w.heap.size, 1, none⟩ = some (.int .u32 0) ∧ (convert 28 9 (.slice A L c)).run Try.prog w' = .ok (.string ⟨bs.toArray⟩) w')) (by kernel_rfl) ?_ (fun hHeld => ?_)
      · (try dsimp only)
        exact hcs.out _ (Below.refl _ _).drew
      refine wpAnyH_take (i := 0) (oi := ⟨_, _, _, _, _, _⟩) (v := ?v1) rfl (by kernel_rfl) (by kernel_rfl) (by kernel_rfl) (fun _ _ _ h => h) (Or.inl ⟨by rfl, ?hy1⟩) (by assumption) ?rest1
      case hy1 => (intro w hSw; (try dsimp only at hSw); go_simp; try with_reducible rfl)
      (try simp only [Act.put, List.setIfInBounds_toArray, List.set_cons_zero, List.set_cons_succ])
      refine wpAnyH_take (i := 1) (oi := ⟨_, _, _, _, _, _⟩) (v := ?v2) rfl (by kernel_rfl) (by kernel_rfl) (by kernel_rfl) (fun _ _ _ h => h) (Or.inl ⟨by rfl, ?hy2⟩) (by assumption) ?rest2
      case hy2 => (intro w hSw; (try dsimp only at hSw); go_simp; try with_reducible rfl)
      (try simp only [Act.put, List.setIfInBounds_toArray, List.set_cons_zero, List.set_cons_succ])
      refine wpAnyH_take (i := 2) (oi := ⟨_, _, _, _, _, _⟩) (v := ?v3) rfl (by kernel_rfl) (by kernel_rfl) (by kernel_rfl) (fun _ _ _ h => h) (Or.inl ⟨by rfl, ?hy3⟩) (by assumption) ?rest3
      case hy3 => (intro w hSw; (try dsimp only at hSw); go_simp; try with_reducible rfl)
      (try simp only [Act.put, List.setIfInBounds_toArray, List.set_cons_zero, List.set_cons_succ])
      refine wpAnyH_take (i := 3) (oi := ⟨_, _, _, _, _, _⟩) (v := ?v4) rfl (by kernel_rfl) (by kernel_rfl) (by kernel_rfl) (fun _ _ _ h => h) (Or.inl ⟨by rfl, ?hy4⟩) (by assumption) ?rest4
      case hy4 => (intro w hSw; (try dsimp only at hSw); go_simp; try with_reducible rfl)
      (try simp only [Act.put, List.setIfInBounds_toArray, List.set_cons_zero, List.set_cons_succ])
      refine wpAnyH_take (i := 4) (oi := ⟨_, _, _, _, _, _⟩) (v := ?v5) rfl (by kernel_rfl) (by kernel_rfl) (by kernel_rfl) (fun _ _ _ h => h) (Or.inl ⟨by rfl, ?hy5⟩) (by assumption) ?rest5
      case hy5 => (intro w hSw; (try dsimp only at hSw); go_simp; try with_reducible rfl)
      (try simp only [Act.put, List.setIfInBounds_toArray, List.set_cons_zero, List.set_cons_succ])
      refine wpAnyH_take (i := 5) (oi := ⟨_, _, _, _, _, _⟩) (v := ?v6) rfl (by kernel_rfl) (by kernel_rfl) (by kernel_rfl) (fun _ _ _ h => h) (Or.inl ⟨by rfl, ?hy6⟩) (by assumption) ?rest6
      case hy6 => (intro w hSw; (try dsimp only at hSw); go_simp; try with_reducible rfl)
      (try simp only [Act.put, List.setIfInBounds_toArray, List.set_cons_zero, List.set_cons_succ])
      refine wpAnyH_ready (rs := [6]) (by kernel_rfl) (by simp) ?_
      refine AllReadyH.cons (o := ⟨_, _, _, _, _, _⟩) rfl (fun K hK => ?_) AllReadyH.nil
      go_simp
      refine hK.out _ _ ?_ (fun hHeld2 => ?_)
      · (try dsimp only)
        exact hcs.out _ ((Below.refl _ _).drew.alloc (by simp) _)
      clear hK K
      replace hHeld := hHeld2
      clear hHeld2
      (try simp only [Act.put, List.setIfInBounds_toArray, List.set_cons_zero, List.set_cons_succ])
      refine wpAnyH_ready (rs := [7]) (by kernel_rfl) (by simp) ?_
      refine AllReadyH.cons (o := ⟨_, _, _, _, _, _⟩) rfl (fun K hK => ?_) AllReadyH.nil
      go_simp
      refine hK.out _ _ ?_ (fun hHeld2 => ?_)
      · (try dsimp only)
        exact hcs.out _ ((Below.refl _ _).drew.alloc (by simp) _)
      clear hK K
      replace hHeld := hHeld2
      clear hHeld2
      (try simp only [Act.put, List.setIfInBounds_toArray, List.set_cons_zero, List.set_cons_succ])
      refine wpAnyH_take (i := 8) (oi := ⟨_, _, _, _, _, _⟩) (v := ?v7) rfl (by kernel_rfl) (by kernel_rfl) (by kernel_rfl) (fun _ _ _ h => h) (Or.inl ⟨by rfl, ?hy7⟩) (by assumption) ?rest7
      case hy7 => (intro w hSw; (try dsimp only at hSw); go_simp; try with_reducible rfl)
      (try simp only [Act.put, List.setIfInBounds_toArray, List.set_cons_zero, List.set_cons_succ])
      refine wpAnyH_take (i := 9) (oi := ⟨_, _, _, _, _, _⟩) (v := ?v8) rfl (by kernel_rfl) (by kernel_rfl) (by kernel_rfl) (fun _ _ _ h => h) (Or.inl ⟨by rfl, ?hy8⟩) (by assumption) ?rest8
      case hy8 => (intro w hSw; (try dsimp only at hSw); go_simp; try with_reducible rfl)
      (try simp only [Act.put, List.setIfInBounds_toArray, List.set_cons_zero, List.set_cons_succ])
      refine wpAnyH_done (by kernel_rfl) ?_ _
--E1
      have hBf := hHeld.1
      clear hHeld
      go_wp2
      go_ret
      exact ⟨by simp [hb.out], hBf⟩
    · have hbb : (bs == zs) = false := by simpa using hb
      replace hb := Lib.hid hb
      go_enter Try.func40, Try.ntmps40
      go_wp2_with fail
--R2
      refine wp_region_held_drew (S := (fun w' => Below w.heap.size w w' ∧ Below (w.heap.size + 1) (w.alloc (.cells #[.int .u32 0, .int .u32 0] 82)) w' ∧ w'.cell? ⟨w.heap.size, 0, none⟩ = some (.int .u32 0) ∧ w'.cell? ⟨w.heap.size, 1, none⟩ = some (.int .u32 0) ∧ (convert 28 9 (.slice A L c)).run Try.prog w' = .ok (.string ⟨bs.toArray⟩) w')) (by kernel_rfl) ?_ (fun hHeld => ?_)
      · (try dsimp only)
        exact hcs.out _ (Below.refl _ _).drew
      refine wpAnyH_take (i := 0) (oi := ⟨_, _, _, _, _, _⟩) (v := ?v9) rfl (by kernel_rfl) (by kernel_rfl) (by kernel_rfl) (fun _ _ _ h => h) (Or.inl ⟨by rfl, ?hy9⟩) (by assumption) ?rest9
      case hy9 => (intro w hSw; (try dsimp only at hSw); go_simp; try with_reducible rfl)
      (try simp only [Act.put, List.setIfInBounds_toArray, List.set_cons_zero, List.set_cons_succ])
      refine wpAnyH_take (i := 1) (oi := ⟨_, _, _, _, _, _⟩) (v := ?v10) rfl (by kernel_rfl) (by kernel_rfl) (by kernel_rfl) (fun _ _ _ h => h) (Or.inl ⟨by rfl, ?hy10⟩) (by assumption) ?rest10
      case hy10 => (intro w hSw; (try dsimp only at hSw); go_simp; try with_reducible rfl)
      (try simp only [Act.put, List.setIfInBounds_toArray, List.set_cons_zero, List.set_cons_succ])
      refine wpAnyH_take (i := 2) (oi := ⟨_, _, _, _, _, _⟩) (v := ?v11) rfl (by kernel_rfl) (by kernel_rfl) (by kernel_rfl) (fun _ _ _ h => h) (Or.inl ⟨by rfl, ?hy11⟩) (by assumption) ?rest11
      case hy11 => (intro w hSw; (try dsimp only at hSw); go_simp; try with_reducible rfl)
      (try simp only [Act.put, List.setIfInBounds_toArray, List.set_cons_zero, List.set_cons_succ])
      refine wpAnyH_take (i := 3) (oi := ⟨_, _, _, _, _, _⟩) (v := ?v12) rfl (by kernel_rfl) (by kernel_rfl) (by kernel_rfl) (fun _ _ _ h => h) (Or.inl ⟨by rfl, ?hy12⟩) (by assumption) ?rest12
      case hy12 => (intro w hSw; (try dsimp only at hSw); go_simp; try with_reducible rfl)
      (try simp only [Act.put, List.setIfInBounds_toArray, List.set_cons_zero, List.set_cons_succ])
      refine wpAnyH_take (i := 4) (oi := ⟨_, _, _, _, _, _⟩) (v := ?v13) rfl (by kernel_rfl) (by kernel_rfl) (by kernel_rfl) (fun _ _ _ h => h) (Or.inl ⟨by rfl, ?hy13⟩) (by assumption) ?rest13
      case hy13 => (intro w hSw; (try dsimp only at hSw); go_simp; try with_reducible rfl)
      (try simp only [Act.put, List.setIfInBounds_toArray, List.set_cons_zero, List.set_cons_succ])
      refine wpAnyH_take (i := 5) (oi := ⟨_, _, _, _, _, _⟩) (v := ?v14) rfl (by kernel_rfl) (by kernel_rfl) (by kernel_rfl) (fun _ _ _ h => h) (Or.inl ⟨by rfl, ?hy14⟩) (by assumption) ?rest14
      case hy14 => (intro w hSw; (try dsimp only at hSw); go_simp; try with_reducible rfl)
      (try simp only [Act.put, List.setIfInBounds_toArray, List.set_cons_zero, List.set_cons_succ])
      refine wpAnyH_ready (rs := [6]) (by kernel_rfl) (by simp) ?_
      refine AllReadyH.cons (o := ⟨_, _, _, _, _, _⟩) rfl (fun K hK => ?_) AllReadyH.nil
      go_simp
      refine hK.out _ _ ?_ (fun hHeld2 => ?_)
      · (try dsimp only)
        exact hcs.out _ ((Below.refl _ _).drew.alloc (by simp) _)
      clear hK K
      replace hHeld := hHeld2
      clear hHeld2
      (try simp only [Act.put, List.setIfInBounds_toArray, List.set_cons_zero, List.set_cons_succ])
      refine wpAnyH_ready (rs := [7]) (by kernel_rfl) (by simp) ?_
      refine AllReadyH.cons (o := ⟨_, _, _, _, _, _⟩) rfl (fun K hK => ?_) AllReadyH.nil
      go_simp
      refine hK.out _ _ ?_ (fun hHeld2 => ?_)
      · (try dsimp only)
        exact hcs.out _ ((Below.refl _ _).drew.alloc (by simp) _)
      clear hK K
      replace hHeld := hHeld2
      clear hHeld2
      (try simp only [Act.put, List.setIfInBounds_toArray, List.set_cons_zero, List.set_cons_succ])
      refine wpAnyH_take (i := 8) (oi := ⟨_, _, _, _, _, _⟩) (v := ?v15) rfl (by kernel_rfl) (by kernel_rfl) (by kernel_rfl) (fun _ _ _ h => h) (Or.inl ⟨by rfl, ?hy15⟩) (by assumption) ?rest15
      case hy15 => (intro w hSw; (try dsimp only at hSw); go_simp; try with_reducible rfl)
      (try simp only [Act.put, List.setIfInBounds_toArray, List.set_cons_zero, List.set_cons_succ])
      refine wpAnyH_take (i := 9) (oi := ⟨_, _, _, _, _, _⟩) (v := ?v16) rfl (by kernel_rfl) (by kernel_rfl) (by kernel_rfl) (fun _ _ _ h => h) (Or.inl ⟨by rfl, ?hy16⟩) (by assumption) ?rest16
      case hy16 => (intro w hSw; (try dsimp only at hSw); go_simp; try with_reducible rfl)
      (try simp only [Act.put, List.setIfInBounds_toArray, List.set_cons_zero, List.set_cons_succ])
      refine wpAnyH_done (by kernel_rfl) ?_ _
--E2
      have hB0 := hHeld.1
      have hB1 := hHeld.2.1
      clear hHeld hcz hmk heq
      obtain ⟨d1, d2⟩ := hdk.out _ hB0
      go_wp2_with fail
      refine (hsum.out _ d2).mono ?_
      rintro e wx ⟨rfl, hb9⟩
      obtain ⟨hB2, _, x0, x1, _⟩ := hcs.out _ (hB1.trans (hb9.mono (Nat.le_trans (Nat.le_of_eq (by simp)) hB1.size)))
      clear d1 d2 hdk hsum hb9
      by_cases h0 : sm = 0
      · have e1 : ((sm : Int) == 0) = true := by rw [h0]; rfl
        replace h0 := Lib.hid h0
        go_wp2
        go_ret
        exact ⟨by simp [h0.out], hB2⟩
      · have e1 : ((sm : Int) == 0) = false := beq_eq_false_iff_ne.2 (by omega)
        replace h0 := Lib.hid h0
        go_wp2
        go_ret
        exact ⟨by simp [h0.out, hb.out], hB2⟩
  · have hz' : ((p1 : Int) == 0 && (p2 : Int) == 0) = false := by
      rw [Bool.and_eq_false_iff]
      by_cases h1 : p1 = 0
      · exact .inr (beq_eq_false_iff_ne.2 (by have : p2 ≠ 0 := fun h2 => hz ⟨h1, h2⟩; omega))
      · exact .inl (beq_eq_false_iff_ne.2 (by omega))
    rw [show pairAgg (p1, p2) = .agg #[.int .u32 (p1 : Int), .int .u32 (p2 : Int)] from rfl]
    have heq : ∀ w : World, (Op.equalIn 10000 82 (.agg #[.int .u32 (p1 : Int), .int .u32 (p2 : Int)]) (.agg #[.int .u32 0, .int .u32 0])).run Try.prog w = .ok false w := fun w => by rw [pair_eq, hz']
    rw [fits_more D (p1, p2) b bs hz]
    have hcs := key p1 p2
    clear key hz hz'
    replace hd := Lib.hid hd
    replace hL := Lib.hid hL
    replace hr := Lib.hid hr
    generalize hsm : sumB D.disk b bs = sm at *
    replace hsm := Lib.hid hsm
    go_enter Try.func40, Try.ntmps40
    go_wp2_with fail
--R3
    refine wp_region_held_drew (S := (fun w' => Below w.heap.size w w' ∧ Below (w.heap.size + 1) (w.alloc (.cells #[.int .u32 (p1 : Int), .int .u32 (p2 : Int)] 82)) w' ∧ w'.cell? ⟨w.heap.size, 0, none⟩ = some (.int .u32 (p1 : Int)) ∧ w'.cell? ⟨w.heap.size, 1, none⟩ = some (.int .u32 (p2 : Int)) ∧ (convert 28 9 (.slice A L c)).run Try.prog w' = .ok (.string ⟨bs.toArray⟩) w')) (by kernel_rfl) ?_ (fun hHeld => ?_)
    · (try dsimp only)
      exact hcs.out _ (Below.refl _ _).drew
    refine wpAnyH_take (i := 0) (oi := ⟨_, _, _, _, _, _⟩) (v := ?v17) rfl (by kernel_rfl) (by kernel_rfl) (by kernel_rfl) (fun _ _ _ h => h) (Or.inl ⟨by rfl, ?hy17⟩) (by assumption) ?rest17
    case hy17 => (intro w hSw; (try dsimp only at hSw); go_simp; try with_reducible rfl)
    (try simp only [Act.put, List.setIfInBounds_toArray, List.set_cons_zero, List.set_cons_succ])
    refine wpAnyH_take (i := 1) (oi := ⟨_, _, _, _, _, _⟩) (v := ?v18) rfl (by kernel_rfl) (by kernel_rfl) (by kernel_rfl) (fun _ _ _ h => h) (Or.inl ⟨by rfl, ?hy18⟩) (by assumption) ?rest18
    case hy18 => (intro w hSw; (try dsimp only at hSw); go_simp; try with_reducible rfl)
    (try simp only [Act.put, List.setIfInBounds_toArray, List.set_cons_zero, List.set_cons_succ])
    refine wpAnyH_take (i := 2) (oi := ⟨_, _, _, _, _, _⟩) (v := ?v19) rfl (by kernel_rfl) (by kernel_rfl) (by kernel_rfl) (fun _ _ _ h => h) (Or.inl ⟨by rfl, ?hy19⟩) (by assumption) ?rest19
    case hy19 => (intro w hSw; (try dsimp only at hSw); go_simp; try with_reducible rfl)
    (try simp only [Act.put, List.setIfInBounds_toArray, List.set_cons_zero, List.set_cons_succ])
    refine wpAnyH_take (i := 3) (oi := ⟨_, _, _, _, _, _⟩) (v := ?v20) rfl (by kernel_rfl) (by kernel_rfl) (by kernel_rfl) (fun _ _ _ h => h) (Or.inl ⟨by rfl, ?hy20⟩) (by assumption) ?rest20
    case hy20 => (intro w hSw; (try dsimp only at hSw); go_simp; try with_reducible rfl)
    (try simp only [Act.put, List.setIfInBounds_toArray, List.set_cons_zero, List.set_cons_succ])
    refine wpAnyH_take (i := 4) (oi := ⟨_, _, _, _, _, _⟩) (v := undef) rfl (by kernel_rfl) (by kernel_rfl) (by kernel_rfl) (fun _ _ _ h => h) (Or.inr ⟨by rfl, rfl⟩) (by assumption) ?_
    (try simp only [Act.put, List.setIfInBounds_toArray, List.set_cons_zero, List.set_cons_succ])
    refine wpAnyH_take (i := 5) (oi := ⟨_, _, _, _, _, _⟩) (v := undef) rfl (by kernel_rfl) (by kernel_rfl) (by kernel_rfl) (fun _ _ _ h => h) (Or.inr ⟨by rfl, rfl⟩) (by assumption) ?_
    (try simp only [Act.put, List.setIfInBounds_toArray, List.set_cons_zero, List.set_cons_succ])
    refine wpAnyH_take (i := 6) (oi := ⟨_, _, _, _, _, _⟩) (v := undef) rfl (by kernel_rfl) (by kernel_rfl) (by kernel_rfl) (fun _ _ _ h => h) (Or.inr ⟨by rfl, rfl⟩) (by assumption) ?_
    (try simp only [Act.put, List.setIfInBounds_toArray, List.set_cons_zero, List.set_cons_succ])
    refine wpAnyH_take (i := 7) (oi := ⟨_, _, _, _, _, _⟩) (v := undef) rfl (by kernel_rfl) (by kernel_rfl) (by kernel_rfl) (fun _ _ _ h => h) (Or.inr ⟨by rfl, rfl⟩) (by assumption) ?_
    (try simp only [Act.put, List.setIfInBounds_toArray, List.set_cons_zero, List.set_cons_succ])
    refine wpAnyH_take (i := 8) (oi := ⟨_, _, _, _, _, _⟩) (v := undef) rfl (by kernel_rfl) (by kernel_rfl) (by kernel_rfl) (fun _ _ _ h => h) (Or.inr ⟨by rfl, rfl⟩) (by assumption) ?_
    (try simp only [Act.put, List.setIfInBounds_toArray, List.set_cons_zero, List.set_cons_succ])
    refine wpAnyH_take (i := 9) (oi := ⟨_, _, _, _, _, _⟩) (v := ?v26) rfl (by kernel_rfl) (by kernel_rfl) (by kernel_rfl) (fun _ _ _ h => h) (Or.inl ⟨by rfl, ?hy26⟩) (by assumption) ?rest26
    case hy26 => (intro w hSw; (try dsimp only at hSw); go_simp; try with_reducible rfl)
    (try simp only [Act.put, List.setIfInBounds_toArray, List.set_cons_zero, List.set_cons_succ])
    refine wpAnyH_done (by kernel_rfl) ?_ _
--E3
    have hB0 := hHeld.1
    have hB1 := hHeld.2.1
    clear hHeld heq
    obtain ⟨d1, d2⟩ := hdk.out _ hB0
    go_wp2_with fail
    refine (hsum.out _ d2).mono ?_
    rintro e wx ⟨rfl, hb9⟩
    obtain ⟨hB2, _, x0, x1, _⟩ := hcs.out _ (hB1.trans (hb9.mono (Nat.le_trans (Nat.le_of_eq (by simp)) hB1.size)))
    clear d1 d2 hdk hsum hb9
    rcases or_cases (sm := sm) (p1 := p1) (p2 := p2) with ⟨e1, e2⟩ | ⟨e1, e2, e3, e4⟩ | ⟨e1, e2, e3, e4⟩
    · replace e2 := Lib.hid e2
      go_wp2
      go_ret
      exact ⟨by simp [e2.out], hB2⟩
    · replace e2 := Lib.hid e2
      replace e4 := Lib.hid e4
      go_wp2
      go_ret
      exact ⟨by simp [e2.out, e4.out], hB2⟩
    · replace e2 := Lib.hid e2
      replace e4 := Lib.hid e4
      go_wp2
      go_ret
      exact ⟨by simp [e2.out, e4.out], hB2⟩
end
end Go.Proofs.Ytikfbhepnnbdoaa

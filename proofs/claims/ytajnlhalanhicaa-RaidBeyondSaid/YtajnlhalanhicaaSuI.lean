/-
 Several texts of this work in one (merge.py): SuM, SuA, SuB, SuC, SuD, SuE, SuS, SuT, SuV.
-/
import Derived.Test.YtajnlhalanhicaaHeldTail
import Derived.Test.YtajnlhalanhicaaShI
import Derived.Test.YtajnlhalanhicaaBase
import Derived.Test.YtajnlhalanhicaaProg
import Derived.Test.YtajnlhalanhicaaOct
import Derived.Test.YtajnlhalanhicaaShJ
import Derived.Deep.RegionHeld3
import Derived.Handy
import Derived.ChangeKeysEq
import Derived.StillTailTactics
import Derived.Laws.IdiomCopy
namespace Go.Proofs.Ytajnlhalanhicaa
set_option linter.all false
set_option maxRecDepth 20000
section
open Go.RowKit
structure DevM where
 disk : Nat
 size : Nat
 opn : Int
def blocksI (n : Int) : Int := if n < 1 then 0 else n / 17 * 16 + max (n % 17 - 1) 0
def sumAt (b : Nat) : Nat := b / 16 * 17
def dataAt (b : Nat) : Nat := b / 16 * 17 + 1 + b % 16
def u32I (x : Int) : Nat := (x % 4294967296).toNat
def sumL (disk block : Int) : Bytes := leBytes (u32I disk) 4 ++ leBytes (u32I block) 4
def sumB (disk block : Int) (b : Bytes) : Nat := crc 0 (sumL disk block ++ b)
def standP (sums : Bytes) (block : Nat) : Nat × Nat := (leNum ((sums.drop (block % 16 * 8)).take 4), leNum ((sums.drop (block % 16 * 8 + 4)).take 4))
def fitsP (disk : Nat) (p : Nat × Nat) (block : Nat) (b : Bytes) : Bool := (p.1 == 0 && p.2 == 0 && b == zeroSec) || sumB disk block b == p.1 || sumB disk block b == p.2
def putSums (sums : Bytes) (block : Nat) (p : Nat × Nat) : Bytes := sums.take (block % 16 * 8) ++ (leBytes p.1 4 ++ leBytes p.2 4) ++ sums.drop (block % 16 * 8 + 8)
def devSector (s : ShM) (D : DevM) (block : Int) : Bytes × Bytes × Int × ShM :=
 if 0 ≤ block ∧ block < D.size then
  let r := s.readR D.disk (sumAt block.toNat)
  if r.2.1 = 0 then
   let q := r.2.2.readR D.disk (dataAt block.toNat)
   (r.1, q.1, q.2.1, q.2.2)
  else ([], [], r.2.1, r.2.2)
 else ([], [], 1, s)
def devRead (s : ShM) (D : DevM) (block : Int) : Bytes × Int × ShM :=
 let r := devSector s D block
 if r.2.2.1 = 0 then
  (if fitsP D.disk (standP r.1 block.toNat) block.toNat r.2.1 then (r.2.1, 0, r.2.2.2) else ([], 5, r.2.2.2))
 else ([], r.2.2.1, r.2.2.2)
def devFlush (s : ShM) (D : DevM) : Int × ShM × DevM :=
 let r := s.flushR D.disk
 (r.1, r.2, if r.1 = 0 then { D with opn := -1 } else D)
def spoilB (bad : Bytes → Bool) : Nat → Bytes → Bytes
 | 0, b => b
 | k + 1, b => if bad b then spoilB bad k (b.set 0 (b.getD 0 0 + 1)) else b
def spoilOf (D : DevM) (block : Nat) (p : Nat × Nat) (sum : Nat) (was : Bytes) : Bytes :=
 spoilB (fun b => sumB D.disk block b == sum || sumB D.disk block b == p.1 || sumB D.disk block b == p.2) 3 was
def devSpoil (s : ShM) (D : DevM) (block : Nat) (p : Nat × Nat) (was : Bytes) (sum : Nat) : Int × ShM × DevM :=
 let r := s.writeR D.disk (dataAt block) (spoilOf D block p sum was)
 if r.1 = 0 then devFlush r.2 D else (r.1, r.2, D)
def nextP (D : DevM) (block : Nat) (p : Nat × Nat) (was b : Bytes) : Nat × Nat :=
 (if fitsP D.disk p block was then sumB D.disk block was else sumB D.disk block b, sumB D.disk block b)
def devPut (s : ShM) (D : DevM) (block : Nat) (sums : Bytes) (b : Bytes) : Int × ShM × DevM :=
 let r := s.writeR D.disk (sumAt block) sums
 if r.1 = 0 then
  let f := devFlush r.2 D
  if f.1 = 0 then
   let q := f.2.1.writeR D.disk (dataAt block) b
   (q.1, q.2, if q.1 = 0 then { f.2.2 with opn := block } else f.2.2)
  else f
 else (r.1, r.2, D)
def devFirst (s : ShM) (D : DevM) (block : Nat) (sums was b : Bytes) : Int × ShM × DevM :=
 if fitsP D.disk (standP sums block) block was then (0, s, D)
 else if sumB D.disk block was = sumB D.disk block b then devSpoil s D block (standP sums block) was (sumB D.disk block b)
 else (0, s, D)
def devOpen (s : ShM) (D : DevM) (block : Int) : Int × ShM × DevM := if D.opn = block then devFlush s D else (0, s, D)
def devWrite (s : ShM) (D : DevM) (block : Int) (b : Bytes) : Int × ShM × DevM :=
 if b.length = 128 then
  let r := devSector s D block
  if r.2.2.1 = 0 then
   let f := devOpen r.2.2.2 D block
   if f.1 = 0 then
    let x := devFirst f.2.1 f.2.2 block.toNat r.1 r.2.1 b
    if x.1 = 0 then devPut x.2.1 x.2.2 block.toNat (putSums r.1 block.toNat (nextP D block.toNat (standP r.1 block.toNat) r.2.1 b)) b
    else x
   else f
  else (r.2.2.1, r.2.2.2, D)
 else (1, s, D)
end
section
open Go.RowKit
theorem su_blocks (n : Int) (w : World) (_h1 : -9223372036854775808 ≤ n) (_h2 : n ≤ 9223372036854775807) : Calls Try.prog 52 #[.int .i64 n] w fun e w' => e = .returned (.int .i64 (blocksI n)) ∧ w = w' := by
 unfold blocksI
 by_cases h : n < 1
 ·rw [if_pos h]
  go_enter Try.func52, Try.ntmps52
  go_wp2
  go_ret
  exact ⟨by simp, rfl⟩
 ·rw [if_neg h]
  have h0 : 1 ≤ n := by omega
  go_enter Try.func52, Try.ntmps52
  go_wp2
  all_goals
   go_ret
   exact ⟨by (simp; omega), rfl⟩
theorem su_place (b : Nat) (w : World) (h : b < 4096) : Calls Try.prog 58 #[.int .i64 b] w fun e w' => e = .returned (.tuple #[.int .i64 (sumAt b : Nat), .int .i64 (dataAt b : Nat), .int .i64 0]) ∧ w = w' := by
 unfold sumAt dataAt
 go_enter Try.func58, Try.ntmps58
 go_wp2
 go_ret3
 exact ⟨by simp, rfl⟩
theorem u32I_lt (x : Int) : u32I x < 4294967296 := by unfold u32I; omega
theorem u32_wrap (x : Int) : IntKind.u32.wrap x = ((u32I x : Nat) : Int) := by
 have : IntKind.u32.wrap x = x % 4294967296 := by simp [IntKind.wrap, IntKind.bits, IntKind.signed]
 rw [this]
 unfold u32I
 omega
theorem u64_u32 (x : Nat) (h : x < 4294967296) : IntKind.u64.wrap (x : Int) = (x : Int) := by
 have : IntKind.u64.wrap (x : Int) = (x : Int) % 18446744073709551616 := by simp [IntKind.wrap, IntKind.bits, IntKind.signed]
 rw [this]
 omega
theorem crc_three (a b c : Bytes) : crc (crc (crc 0 a) b) c = crc 0 (a ++ b ++ c) := by
 rw [crc_app 0 (by omega) (a ++ b) c, crc_app 0 (by omega) a b]
set_option maxHeartbeats 1000000 in
theorem su_sum (disk block : Int) (A : Option Addr) (L c : Nat) (bs : Bytes) (w : World) (hr : Rd w A bs) (hL : bs.length = L) :
  Calls Try.prog 54 #[.int .i64 disk, .int .i64 block, .slice A L c] w fun e w' => e = .returned (.int .u32 (sumB disk block bs : Nat)) ∧ Below w.heap.size w w' := by
 have i0 : ∀ w, (Instr.index 133 (.agg #[.int .i64 disk, .int .i64 block]) (.int .i64 0)).run Try.prog w = .ok (.int .i64 disk) w := fun _ => by kernel_rfl
 have i1 : ∀ w, (Instr.index 133 (.agg #[.int .i64 disk, .int .i64 block]) (.int .i64 1)).run Try.prog w = .ok (.int .i64 block) w := fun _ => by kernel_rfl
 have w1 := u32_wrap disk
 have w2 := u32_wrap block
 have w3 := u64_u32 _ (u32I_lt disk)
 have w4 := u64_u32 _ (u32I_lt block)
 have p1 : Hid (∀ w, _) := Lib.hid fun w => put_ok (u32I disk) 4 w (by omega) (by omega) (u32I_lt disk)
 have p2 : Hid (∀ w, _) := Lib.hid fun w => put_ok (u32I block) 4 w (by omega) (by omega) (u32I_lt block)
 unfold sumB sumL
 rw [← crc_three]
 have l1 := Lib.hid (leBytes_len 4 (u32I disk))
 have l2 := Lib.hid (leBytes_len 4 (u32I block))
 have c0 : Hid (∀ s bs, _) := Lib.hid crc_lt
 generalize leBytes (u32I disk) 4 = n1 at *
 generalize leBytes (u32I block) 4 = n2 at *
 replace hr := Lib.hid hr
 replace hL := Lib.hid hL
 go_enter Try.func54, Try.ntmps54
 go_wp2_with fail
 refine wp_loop_rounds 3 ?_
 rw [rounds_succ]
 go_wp2_with fail
 refine (p1.out w).mono ?_
 rintro e wa ⟨A1, c1, rfl, ho1, hb1⟩
 clear p1
 go_wp2_with fail
 refine (crc_any A1 4 c1 n1 0 wa ho1.rd l1.out (by omega)).mono ?_
 rintro e wb ⟨rfl, hb2⟩
 have hB1 := below_to hb1 hb2
 have k1 := Lib.hid (c0.out 0 n1)
 generalize hs1 : crc 0 n1 = s1 at *
 replace hs1 := Lib.hid hs1
 clear ho1 hb1 hb2
 go_wp2_with fail
 rw [rounds_succ]
 go_wp2_with fail
 refine (p2.out wb).mono ?_
 rintro e wa ⟨A1, c1, rfl, ho1, hb1⟩
 clear p2
 go_wp2_with fail
 refine (crc_any A1 4 c1 n2 s1 wa ho1.rd l2.out k1.out).mono ?_
 rintro e wd ⟨rfl, hb2⟩
 have hB2 := below_to hB1 (below_to hb1 hb2)
 have k2 := Lib.hid (c0.out s1 n2)
 generalize hs2 : crc s1 n2 = s2 at *
 replace hs2 := Lib.hid hs2
 clear ho1 hb1 hb2 hB1
 go_wp2_with fail
 rw [rounds_succ]
 go_wp2_with fail
 refine (crc_any A L c bs s2 wd (hr.out.below hB2) hL.out k2.out).mono ?_
 rintro e wx ⟨rfl, hb2⟩
 go_wp2
 go_ret
 exact ⟨by have e1 := hs1.out; have e2 := hs2.out; subst e2 e1; rfl, below_to hB2 hb2⟩
end
section
open Go.RowKit
def devR (g : Nat) (D : DevM) : Array Value := #[.pointer (some ⟨g, 0, none⟩), .int .i64 (D.disk : Int), .int .i64 (D.size : Int), .int .i64 D.opn]
def pairAgg (p : Nat × Nat) : Value := .agg #[.int .u32 (p.1 : Int), .int .u32 (p.2 : Int)]
theorem Try.infoU32 : (Try.prog.info? 114).map (fun i => (i.zero, i.size, i.bytes)) = some (some (.int .u32 0), 1, 4) := by kernel_rfl
set_option maxRecDepth 100000 in
theorem pair_eq (p q r s : Int) (w : World) : (Op.equalIn 10000 124 (.agg #[.int .u32 p, .int .u32 q]) (.agg #[.int .u32 r, .int .u32 s])).run Try.prog w = .ok ((p == r) && (q == s)) w := by
 obtain ⟨i0, hi0, _, _, _⟩ := info_parts Try.infoU32
 have hc : Try.prog.cellsOf 114 = 1 := by kernel_rfl
 have h0 : ∀ (u v : Value) (w : World), (Go.part 114 #[u, v] 0).run Try.prog w = .ok u w := fun _ _ _ => by kernel_rfl
 have h1 : ∀ (u v : Value) (w : World), (Go.part 114 #[u, v] 1).run Try.prog w = .ok v w := fun _ _ _ => by kernel_rfl
 rw [show (10000 : Nat) = 9999 + 1 from rfl, run_equalIn_array w 9999 _ _ Try.underlying124 hi0, hc]
 show (Op.eqItems 9999 114 1 _ _ [0, 1]).run Try.prog w = _
 have e : ∀ (a b : Int) (w : World), (Op.equalIn 9999 114 (.int .u32 a) (.int .u32 b)).run Try.prog w = .ok (a == b) w := fun a b w => run_equalIn_int w 9998 _ _ _ a b Try.underlying114
 simp only [Op.eqItems, Sem.run_bind, Nat.mul_one, h0, h1, e, Result.andThen_ok, Sem.run_pure]
 cases (p == r)
 ·rfl
 ·simp only [Bool.not_true, Bool.false_eq_true, if_false, Sem.run_bind, h1, e, Result.andThen_ok]
  cases (q == s) <;> rfl
theorem stand_lt (bs : Bytes) (b : Nat) : (standP bs b).1 < 4294967296 ∧ (standP bs b).2 < 4294967296 := by
 unfold standP
 have h := fun o => leNum_lt ((bs.drop o).take 4)
 have hl := fun o => List.length_take_le 4 (bs.drop o)
 have key : ∀ o, leNum ((bs.drop o).take 4) < 4294967296 := fun o =>
  Nat.lt_of_lt_of_le (h o) (Nat.le_trans (Nat.pow_le_pow_right (by omega) (hl o)) (by decide))
 exact ⟨key _, key _⟩
theorem u32_nat (x : Nat) (h : x < 4294967296) : IntKind.u32.wrap (x : Int) = (x : Int) := by
 have : IntKind.u32.wrap (x : Int) = (x : Int) % 4294967296 := by simp [IntKind.wrap, IntKind.bits, IntKind.signed]
 rw [this]
 omega
set_option maxHeartbeats 1000000 in
theorem su_stand (A : Option Addr) (c : Nat) (bs : Bytes) (b : Nat) (w : World) (hr : Rd w A bs) (hL : bs.length = 128) (hb : b < 4096) :
  Calls Try.prog 55 #[.slice A 128 c, .int .i64 b] w fun e w' => e = .returned (pairAgg (standP bs b)) ∧ Below w.heap.size w w' := by
 obtain ⟨h1, h2⟩ := stand_lt bs b
 have w1 := u32_nat _ h1
 have w2 := u32_nat _ h2
 have hg1 : Hid (∀ W, Rd W A bs → Calls Try.prog 86 #[.slice A 128 c, .int .i64 ((b : Int) % 16 * 8), .int .i64 4] W fun e w' => e = .returned (.tuple #[.int .u64 ((standP bs b).1 : Nat), .int .i64 0]) ∧ W = w') := Lib.hid fun W h => by
  have := get_ok A 128 c bs (b % 16 * 8) 4 W h hL (by omega) (by omega) (by omega)
  rw [show ((b % 16 * 8 : Nat) : Int) = (b : Int) % 16 * 8 from by omega] at this
  exact this
 have hg2 : Hid (∀ W, Rd W A bs → Calls Try.prog 86 #[.slice A 128 c, .int .i64 ((b : Int) % 16 * 8 + 4), .int .i64 4] W fun e w' => e = .returned (.tuple #[.int .u64 ((standP bs b).2 : Nat), .int .i64 0]) ∧ W = w') := Lib.hid fun W h => by
  have := get_ok A 128 c bs (b % 16 * 8 + 4) 4 W h hL (by omega) (by omega) (by omega)
  rw [show ((b % 16 * 8 + 4 : Nat) : Int) = (b : Int) % 16 * 8 + 4 from by omega] at this
  exact this
 unfold pairAgg
 generalize (standP bs b).1 = p at *
 generalize (standP bs b).2 = q at *
 replace hL := Lib.hid hL
 go_enter Try.func55, Try.ntmps55
 go_wp2_with fail
 refine wp_loop_rounds 3 ?_
 rw [rounds_succ]
 go_wp2_with fail
 have hal := (Below.refl w.heap.size w).alloc (Nat.le_refl _) (.cells #[.int .u32 0, .int .u32 0] 124)
 refine (hg1.out _ (hr.below hal)).mono ?_
 rintro e wa ⟨rfl, rfl⟩
 go_wp2_with fail
 rw [rounds_succ]
 go_wp2_with fail
 refine (hg2.out _ (hr.below ((Below.refl w.heap.size w).alloc (Nat.le_refl _) _))).mono ?_
 rintro e wa ⟨rfl, rfl⟩
 go_wp2_with fail
 rw [rounds_succ]
 go_wp2_with fail
 go_returns
 exact ⟨rfl, (Below.refl w.heap.size w).alloc (Nat.le_refl _) _⟩
section
variable {w : World}
theorem two_cells (w : World) (b : Nat) (u v : Value) (t : TypeId) (h : w.heap[b]? = some (.cells #[u, v] t)) : w.cell? ⟨b, 0, none⟩ = some u ∧ w.cell? ⟨b, 1, none⟩ = some v :=
 ⟨(cell_of_row w b 0 _ _ _ h).trans rfl, (cell_of_row w b 1 _ _ _ h).trans rfl⟩
theorem fits_zero (D : DevM) (b : Nat) (bs : Bytes) : fitsP D.disk (0, 0) b bs = ((bs == zeroSec) || sumB D.disk b bs == 0) := by simp [fitsP]
theorem fits_more (D : DevM) (p : Nat × Nat) (b : Nat) (bs : Bytes) (h : ¬ (p.1 = 0 ∧ p.2 = 0)) : fitsP D.disk p b bs = (sumB D.disk b bs == p.1 || sumB D.disk b bs == p.2) := by
 unfold fitsP
 have : (p.1 == 0 && p.2 == 0) = false := by
  rw [Bool.and_eq_false_iff]
  by_cases h1 : p.1 = 0
  ·exact .inr (by simpa using fun h2 => h ⟨h1, h2⟩)
  ·exact .inl (by simpa using h1)
 rw [this, Bool.false_and, Bool.false_or]
theorem or_cases {sm p1 p2 : Nat} : (((sm : Int) == (p1 : Int)) = true ∧ sm = p1) ∨ (((sm : Int) == (p1 : Int)) = false ∧ ¬ sm = p1 ∧ (((sm : Int) == (p2 : Int)) = true ∧ sm = p2)) ∨ (((sm : Int) == (p1 : Int)) = false ∧ ¬ sm = p1 ∧ (((sm : Int) == (p2 : Int)) = false ∧ ¬ sm = p2)) := by
 by_cases h1 : sm = p1
 ·exact .inl ⟨by rw [h1]; simp, h1⟩
 ·by_cases h2 : sm = p2
  ·exact .inr (.inl ⟨beq_eq_false_iff_ne.2 (by omega), h1, by rw [h2]; simp, h2⟩)
  ·exact .inr (.inr ⟨beq_eq_false_iff_ne.2 (by omega), h1, beq_eq_false_iff_ne.2 (by omega), h2⟩)
set_option maxRecDepth 10000 in
set_option maxHeartbeats 2000000 in
theorem su_fits (a g : Nat) (D : DevM) (p : Nat × Nat) (b : Nat) (A : Option Addr) (L c : Nat) (bs : Bytes) (w : World) (hd : w.heap[a]? = some (.cells (devR g D) 119)) (hr : Rd w A bs) (hL : bs.length = L) :
    Calls Try.prog 56 #[.pointer (some ⟨a, 0, none⟩), pairAgg p, .int .i64 b, .slice A L c] w fun e w' => e = .returned (.bool (fitsP D.disk p b bs)) ∧ Below w.heap.size w w' := by
  have hlt := lt_of_blk hd
  obtain ⟨p1, p2⟩ := p
  have hsum : Hid (∀ W, Rd W A bs → Calls Try.prog 54 #[.int .i64 (D.disk : Int), .int .i64 (b : Int), .slice A L c] W fun e w' => e = .returned (.int .u32 (sumB D.disk b bs : Nat)) ∧ Below W.heap.size W w') := Lib.hid fun W h => su_sum D.disk b A L c bs W h hL
  have key : ∀ u v : Int, Hid (∀ W, Below (w.heap.size + 1) (w.alloc (.cells #[.int .u32 u, .int .u32 v] 124)) W → Below w.heap.size w W ∧ Below (w.heap.size + 1) (w.alloc (.cells #[.int .u32 u, .int .u32 v] 124)) W ∧ W.cell? ⟨w.heap.size, 0, none⟩ = some (.int .u32 u) ∧ W.cell? ⟨w.heap.size, 1, none⟩ = some (.int .u32 v) ∧ (convert 32 9 (.slice A L c)).run Try.prog W = .ok (.string ⟨bs.toArray⟩) W) := fun u v => Lib.hid fun W hW =>
    have hal : Below w.heap.size w (w.alloc (.cells #[.int .u32 u, .int .u32 v] 124)) := (Below.refl w.heap.size w).alloc (Nat.le_refl _) _
    have hb := hal.trans (hW.mono (by simp))
    ⟨hb, hW, (two_cells W w.heap.size _ _ _ ((hW.block _ (by simp)).trans (heap_alloc_new w _))).1, (two_cells W w.heap.size _ _ _ ((hW.block _ (by simp)).trans (heap_alloc_new w _))).2,
       run_string_rd (P := Try.prog) _ 32 9 5 Try.underlying32 Try.underlying5 Try.underlying9 _ L c bs (hr.below hb) hL⟩
  have hdk : Hid (∀ W, Below w.heap.size w W → W.cell? ⟨a, 1, none⟩ = some (.int .i64 (D.disk : Int)) ∧ Rd W A bs) := Lib.hid fun W hb =>
      ⟨(cell_of_row W a 1 _ _ _ ((hb.block a hlt).trans hd)).trans rfl, hr.below hb⟩
  by_cases hz : p1 = 0 ∧ p2 = 0
  · obtain ⟨rfl, rfl⟩ := hz
    rw [show pairAgg (0, 0) = .agg #[.int .u32 0, .int .u32 0] from rfl]
    have heq : ∀ w : World, (Op.equalIn 10000 124 (.agg #[.int .u32 0, .int .u32 0]) (.agg #[.int .u32 0, .int .u32 0])).run Try.prog w = .ok true w := fun w => pair_eq 0 0 0 0 w
    rw [fits_zero]
    obtain ⟨zs, hzs⟩ : ∃ zs, zs = zeroSec := ⟨_, rfl⟩
    have hzl : zs.length = 128 := by rw [hzs]; simp [zeroSec]
    have hmk := run_make_rd (P := Try.prog) 32 5 Try.underlying32 Try.infoU8 .i64 .i64 128 (by omega)
    rw [show ((128 : Nat) : Int) = 128 from rfl, show List.replicate 128 (0 : UInt8) = zs from hzs.symm] at hmk
    have hcz : (convert 32 9 (.slice (some ⟨w.heap.size + 1, 0, none⟩) 128 128)).run Try.prog ((w.alloc (.cells #[.int .u32 0, .int .u32 0] 124)).alloc (.cells (bVs zs).toArray 5)).drew = .ok (.string ⟨zs.toArray⟩) ((w.alloc (.cells #[.int .u32 0, .int .u32 0] 124)).alloc (.cells (bVs zs).toArray 5)).drew :=
      run_string_rd (P := Try.prog) _ 32 9 5 Try.underlying32 Try.underlying5 Try.underlying9 _ 128 128 zs (by have h := (Rd.lit (w.alloc (.cells #[.int .u32 0, .int .u32 0] 124)) 5 zs (by omega)).drew; simpa using h) hzl
    rw [show zeroSec = zs from hzs.symm]
    have hcs := key 0 0
    clear key
    replace hzs := Lib.hid hzs
    replace hzl := Lib.hid hzl
    replace hd := Lib.hid hd
    replace hL := Lib.hid hL
    replace hr := Lib.hid hr
    have hfin : ∀ v, v = ((bs == zs) || sumB D.disk b bs == 0) → Ending.returned (.bool v) = Ending.returned (.bool ((bs == zs) || sumB D.disk b bs == 0)) := fun v h => by rw [h]
    generalize hsm : sumB D.disk b bs = sm at *
    replace hsm := Lib.hid hsm
    by_cases hb : bs = zs
    · have hbb : (bs == zs) = true := by simpa using hb
      replace hb := Lib.hid hb
      go_enter Try.func56, Try.ntmps56
      go_wp2_with fail
      refine wp_region_held_drew (S := (fun w' => Below w.heap.size w w' ∧ Below (w.heap.size + 1) (w.alloc (.cells #[.int .u32 0, .int .u32 0] 124)) w' ∧ w'.cell? ⟨w.heap.size, 0, none⟩ = some (.int .u32 0) ∧ w'.cell? ⟨w.heap.size, 1, none⟩ = some (.int .u32 0) ∧ (convert 32 9 (.slice A L c)).run Try.prog w' = .ok (.string ⟨bs.toArray⟩) w')) (by kernel_rfl) ?_ (fun hHeld => ?_)
      · (try dsimp only)
        exact hcs.out _ (Below.refl _ _).drew
      refine tkA 0 ?_
      refine tkA 1 ?_
      refine tkA 2 ?_
      refine tkA 3 ?_
      refine tkA 4 ?_
      refine tkA 5 ?_
      refine rkA 6 (fun K hK => ?_)
      go_simp
      refine hK.out _ _ ?_ (fun hHeld2 => ?_)
      · (try dsimp only)
        exact hcs.out _ ((Below.refl _ _).drew.alloc (by simp) _)
      clear hK K
      replace hHeld := hHeld2
      clear hHeld2
      (try simp only [pA, pN, pB, pC, pD])
      refine rkA 7 (fun K hK => ?_)
      go_simp
      refine hK.out _ _ ?_ (fun hHeld2 => ?_)
      · (try dsimp only)
        exact hcs.out _ ((Below.refl _ _).drew.alloc (by simp) _)
      clear hK K
      replace hHeld := hHeld2
      clear hHeld2
      (try simp only [pA, pN, pB, pC, pD])
      refine tkA 8 ?_
      refine tkA 9 ?_
      refine wpAnyH_done (by kernel_rfl) ?_ _
      have hBf := hHeld.1
      clear hHeld
      go_wp2
      go_ret
      exact ⟨by simp [hb.out], hBf⟩
    · have hbb : (bs == zs) = false := by simpa using hb
      replace hb := Lib.hid hb
      go_enter Try.func56, Try.ntmps56
      go_wp2_with fail
      refine wp_region_held_drew (S := (fun w' => Below w.heap.size w w' ∧ Below (w.heap.size + 1) (w.alloc (.cells #[.int .u32 0, .int .u32 0] 124)) w' ∧ w'.cell? ⟨w.heap.size, 0, none⟩ = some (.int .u32 0) ∧ w'.cell? ⟨w.heap.size, 1, none⟩ = some (.int .u32 0) ∧ (convert 32 9 (.slice A L c)).run Try.prog w' = .ok (.string ⟨bs.toArray⟩) w')) (by kernel_rfl) ?_ (fun hHeld => ?_)
      · (try dsimp only)
        exact hcs.out _ (Below.refl _ _).drew
      refine tkA 0 ?_
      refine tkA 1 ?_
      refine tkA 2 ?_
      refine tkA 3 ?_
      refine tkA 4 ?_
      refine tkA 5 ?_
      refine rkA 6 (fun K hK => ?_)
      go_simp
      refine hK.out _ _ ?_ (fun hHeld2 => ?_)
      · (try dsimp only)
        exact hcs.out _ ((Below.refl _ _).drew.alloc (by simp) _)
      clear hK K
      replace hHeld := hHeld2
      clear hHeld2
      (try simp only [pA, pN, pB, pC, pD])
      refine rkA 7 (fun K hK => ?_)
      go_simp
      refine hK.out _ _ ?_ (fun hHeld2 => ?_)
      · (try dsimp only)
        exact hcs.out _ ((Below.refl _ _).drew.alloc (by simp) _)
      clear hK K
      replace hHeld := hHeld2
      clear hHeld2
      (try simp only [pA, pN, pB, pC, pD])
      refine tkA 8 ?_
      refine tkA 9 ?_
      refine wpAnyH_done (by kernel_rfl) ?_ _
      have hB0 := hHeld.1
      have hB1 := hHeld.2.1
      clear hHeld hcz hmk heq
      obtain ⟨d1, d2⟩ := hdk.out _ hB0
      go_wp2_with fail
      refine (hsum.out _ d2).mono ?_
      rintro e wx ⟨rfl, hb9⟩
      obtain ⟨hB2, _, x0, x1, _⟩ := hcs.out _ (hB1.trans (hb9.mono (Nat.le_trans (Nat.le_of_eq (by simp)) hB1.size)))
      clear d1 d2 hdk hsum hb9
      by_cases h0 : sm = 0
      · have e1 : ((sm : Int) == 0) = true := by rw [h0]; rfl
        replace h0 := Lib.hid h0
        go_wp2
        go_ret
        exact ⟨by simp [h0.out], hB2⟩
      · have e1 : ((sm : Int) == 0) = false := beq_eq_false_iff_ne.2 (by omega)
        replace h0 := Lib.hid h0
        go_wp2
        go_ret
        exact ⟨by simp [h0.out, hb.out], hB2⟩
  · have hz' : ((p1 : Int) == 0 && (p2 : Int) == 0) = false := by
      rw [Bool.and_eq_false_iff]
      by_cases h1 : p1 = 0
      · exact .inr (beq_eq_false_iff_ne.2 (by have : p2 ≠ 0 := fun h2 => hz ⟨h1, h2⟩; omega))
      · exact .inl (beq_eq_false_iff_ne.2 (by omega))
    rw [show pairAgg (p1, p2) = .agg #[.int .u32 (p1 : Int), .int .u32 (p2 : Int)] from rfl]
    have heq : ∀ w : World, (Op.equalIn 10000 124 (.agg #[.int .u32 (p1 : Int), .int .u32 (p2 : Int)]) (.agg #[.int .u32 0, .int .u32 0])).run Try.prog w = .ok false w := fun w => by rw [pair_eq, hz']
    rw [fits_more D (p1, p2) b bs hz]
    have hcs := key p1 p2
    clear key hz hz'
    replace hd := Lib.hid hd
    replace hL := Lib.hid hL
    replace hr := Lib.hid hr
    generalize hsm : sumB D.disk b bs = sm at *
    replace hsm := Lib.hid hsm
    go_enter Try.func56, Try.ntmps56
    go_wp2_with fail
    refine wp_region_held_drew (S := (fun w' => Below w.heap.size w w' ∧ Below (w.heap.size + 1) (w.alloc (.cells #[.int .u32 (p1 : Int), .int .u32 (p2 : Int)] 124)) w' ∧ w'.cell? ⟨w.heap.size, 0, none⟩ = some (.int .u32 (p1 : Int)) ∧ w'.cell? ⟨w.heap.size, 1, none⟩ = some (.int .u32 (p2 : Int)) ∧ (convert 32 9 (.slice A L c)).run Try.prog w' = .ok (.string ⟨bs.toArray⟩) w')) (by kernel_rfl) ?_ (fun hHeld => ?_)
    · (try dsimp only)
      exact hcs.out _ (Below.refl _ _).drew
    refine tkA 0 ?_
    refine tkA 1 ?_
    refine tkA 2 ?_
    refine tkA 3 ?_
    refine tuA 4 ?_
    refine tuA 5 ?_
    refine tuA 6 ?_
    refine tuA 7 ?_
    refine tuA 8 ?_
    refine tkA 9 ?_
    refine wpAnyH_done (by kernel_rfl) ?_ _
    have hB0 := hHeld.1
    have hB1 := hHeld.2.1
    clear hHeld heq
    obtain ⟨d1, d2⟩ := hdk.out _ hB0
    go_wp2_with fail
    refine (hsum.out _ d2).mono ?_
    rintro e wx ⟨rfl, hb9⟩
    obtain ⟨hB2, _, x0, x1, _⟩ := hcs.out _ (hB1.trans (hb9.mono (Nat.le_trans (Nat.le_of_eq (by simp)) hB1.size)))
    clear d1 d2 hdk hsum hb9
    rcases or_cases (sm := sm) (p1 := p1) (p2 := p2) with ⟨e1, e2⟩ | ⟨e1, e2, e3, e4⟩ | ⟨e1, e2, e3, e4⟩
    · replace e2 := Lib.hid e2
      go_wp2
      go_ret
      exact ⟨by simp [e2.out], hB2⟩
    · replace e2 := Lib.hid e2
      replace e4 := Lib.hid e4
      go_wp2
      go_ret
      exact ⟨by simp [e2.out, e4.out], hB2⟩
    · replace e2 := Lib.hid e2
      replace e4 := Lib.hid e4
      go_wp2
      go_ret
      exact ⟨by simp [e2.out, e4.out], hB2⟩
end
end
section
open Go.RowKit
structure DvX (X : Nat → Prop) (a g : Nat) (w : World) (s : ShM) (D : DevM) : Prop where
 sh : ShX (fun b => X b ∨ b = a) g w s
 row : w.heap[a]? = some (.cells (devR g D) 119)
 out : ¬ X a
 disk : D.disk < s.disks.length
 size : D.size < 4096
section
variable {X : Nat → Prop} {a g : Nat} {w w' : World} {s s' : ShM} {D : DevM}
theorem DvX.lt (h : DvX X a g w s D) : ∀ b, X b → b < w.heap.size := fun b hb => h.sh.lt b (.inl hb)
theorem DvX.alt (h : DvX X a g w s D) : a < w.heap.size := lt_of_blk h.row
theorem DvX.mono (h : DvX X a g w s D) {Y : Nat → Prop} (hY : ∀ b, Y b → X b) : DvX Y a g w s D :=
 ⟨h.sh.mono fun b hb => hb.imp (hY b) id, h.row, fun hb => h.out (hY a hb), h.disk, h.size⟩
theorem DvX.below (h : DvX X a g w s D) (hb : Below w.heap.size w w') : DvX X a g w' s D :=
 ⟨h.sh.below hb, (hb.block a h.alt).trans h.row, h.out, h.disk, h.size⟩
theorem DvX.drew (h : DvX X a g w s D) : DvX X a g w.drew s D := h.below (Below.refl _ _).drew
theorem DvX.alloc (h : DvX X a g w s D) (o : Obj) : DvX X a g (w.alloc o) s D := h.below ((Below.refl _ _).alloc (Nat.le_refl _) _)
theorem DvX.step (h : DvX X a g w s D) (hS : ShX (fun b => X b ∨ b = a) g w' s') (hK : Kept (fun b => X b ∨ b = a) w w') (hl : s'.disks.length = s.disks.length) : DvX X a g w' s' D ∧ Kept X w w' :=
 ⟨⟨hS, (hK.block a (.inr rfl)).trans h.row, h.out, by rw [hl]; exact h.disk, h.size⟩, hK.mono fun b hb => .inl hb⟩
theorem DvX.more (h : DvX X a g w s D) (hb : Below w.heap.size w w') {Y : Nat → Prop} (hY : ∀ b, Y b → b < w'.heap.size ∧ (X b ∨ w.heap.size ≤ b)) : DvX Y a g w' s D := by
 refine ⟨h.sh.more hb.size (fun b hlt _ => hb.block b hlt) fun b hx => ?_, (hb.block a h.alt).trans h.row, fun hx => ?_, h.disk, h.size⟩
 ·rcases hx with hx | hx
  ·obtain ⟨h1, h2⟩ := hY b hx
   exact ⟨h1, h2.imp (fun h => .inl h) id⟩
  ·subst hx
   exact ⟨Nat.lt_of_lt_of_le h.alt hb.size, .inl (.inr rfl)⟩
 ·rcases (hY a hx).2 with h1 | h1
  ·exact h.out h1
  ·have := h.alt; omega
theorem DvX.c0 (h : DvX X a g w s D) : w.cell? ⟨a, 0, none⟩ = some (.pointer (some ⟨g, 0, none⟩)) := (cell_of_row w a 0 _ _ _ h.row).trans rfl
theorem DvX.c1 (h : DvX X a g w s D) : w.cell? ⟨a, 1, none⟩ = some (.int .i64 (D.disk : Int)) := (cell_of_row w a 1 _ _ _ h.row).trans rfl
theorem DvX.c2 (h : DvX X a g w s D) : w.cell? ⟨a, 2, none⟩ = some (.int .i64 (D.size : Int)) := (cell_of_row w a 2 _ _ _ h.row).trans rfl
theorem DvX.c3 (h : DvX X a g w s D) : w.cell? ⟨a, 3, none⟩ = some (.int .i64 D.opn) := (cell_of_row w a 3 _ _ _ h.row).trans rfl
theorem DvX.fr (h : DvX X a g w s D) (i : Nat) : w.frozen? ⟨a, i, none⟩ = false := frozen_of_row w a i _ _ h.row
theorem DvX.setOpn (h : DvX X a g w s D) (z : Int) : DvX X a g (w.setCell ⟨a, 3, none⟩ (.int .i64 z)) s { D with opn := z } := by
 refine ⟨?_, (heap_setCell_same w a 3 _ _ _ h.row).trans rfl, h.out, h.disk, h.size⟩
 obtain ⟨h0, F, h1, h2, h3⟩ := h.sh
 refine ⟨fun b hb => by simpa [World.setCell] using h0 b hb, F, h1.of_blocks fun b hb => heap_setCell_other w ⟨a, 3, none⟩ b _ (fun e => h3 b hb (.inr e)), h2, h3⟩
theorem Kept.setCell {a : Addr} (hx : ¬ X a.block) (u : Value) : Kept X w (w.setCell a u) :=
 ⟨rfl, rfl, rfl, by simp [World.setCell], fun k hk => heap_setCell_other w a k u (fun e => hx (e ▸ hk))⟩
theorem flush_len (s : ShM) (d : Int) : (s.flushR d).2.disks.length = s.disks.length := by
 simp only [ShM.flushR]
 split
 ·split
  ·rw [ShM.set_len, spend_disks]
  ·rfl
 ·rfl
theorem write_len (s : ShM) (d n : Int) (b : Bytes) : (s.writeR d n b).2.disks.length = s.disks.length := by
 simp only [ShM.writeR]
 split
 ·split
  ·rw [ShM.set_len, spend_disks]
  ·rfl
 ·rfl
theorem readR_disks (s : ShM) (d n : Int) : (s.readR d n).2.2.disks = s.disks := by
 simp only [ShM.readR]
 split
 ·split <;> rfl
 ·rfl
set_option maxRecDepth 10000 in
set_option maxHeartbeats 1000000 in
theorem su_flush (h : DvX X a g w s D) : Calls Try.prog 21 #[.pointer (some ⟨a, 0, none⟩)] w fun e w' =>
  e = .returned (.int .i64 (devFlush s D).1) ∧ DvX X a g w' (devFlush s D).2.1 (devFlush s D).2.2 ∧ Kept X w w' := by
 have c0 := h.c0
 have c1 := h.c1
 have hct := lx_flush h.drew.sh D.disk
 have hlen := flush_len s D.disk
 have halt := h.alt
 go_enter Try.func21, Try.ntmps21
 go_wp2_with fail
 go_still_tail 8, (by kernel_rfl)
 change wpList _ _ _ _ _ w.drew
 go_wp2_with fail
 refine hct.mono ?_
 rintro e w1 ⟨rfl, hS1, hK1⟩
 obtain ⟨h1, hK1⟩ := h.drew.step hS1 hK1 hlen
 clear hct hS1
 by_cases he : (s.flushR D.disk).1 = 0
 ·have hb : ((s.flushR D.disk).1 == 0) = true := by rw [he]; rfl
  have f3 := h1.fr 3
  have f0 := h1.alt
  have c3 := h1.c3
  replace he := Lib.hid he
  go_wp2
  go_ret
  refine ⟨rfl, ?_, (Kept.drew X w).trans (hK1.trans (Kept.setCell h1.out _))⟩
  have h2 := h1.setOpn (-1)
  simp only [devFlush, he.out, if_true]
  exact h2
 ·have hb : ((s.flushR D.disk).1 == 0) = false := beq_eq_false_iff_ne.2 he
  replace he := Lib.hid he
  go_wp2
  go_ret
  refine ⟨rfl, ?_, (Kept.drew X w).trans hK1⟩
  simp only [devFlush, he.out, if_false]
  exact h1
theorem su_dblocks (h : DvX X a g w s D) : Calls Try.prog 101 #[.pointer (some ⟨a, 0, none⟩)] w fun e w' => e = .returned (.int .i64 (D.size : Nat)) ∧ w = w' := by
 have c2 := h.c2
 have halt := h.alt
 go_enter Try.func101, Try.ntmps101
 go_wp2
 go_ret
 exact ⟨rfl, rfl⟩
theorem su_dead (h : DvX X a g w s D) : Calls Try.prog 69 #[.pointer (some ⟨a, 0, none⟩)] w fun e w' => e = .returned (.bool (s.disk D.disk).dead) ∧ ∃ n, w' = w.drewN n := by
 have c0 := h.c0
 have c1 := h.c1
 have halt := h.alt
 have hdd : s.deadR D.disk = (s.disk D.disk).dead := by
  have hok := h.sh.ok
  have hh : s.has D.disk 0 = true := by
   simp only [ShM.has, decide_eq_true_eq]
   exact ⟨by omega, by have := h.disk; omega, by omega, by have := hok.sectors1; omega⟩
  simp [ShM.deadR, hh]
 have hct := lx_dead h.sh.drew D.disk
 rw [hdd] at hct
 clear hdd
 go_enter Try.func69, Try.ntmps69
 go_wp2_with fail
 go_region_held3 (fun w' => w'.cell? ⟨a, 0, none⟩ = some (.pointer (some ⟨g, 0, none⟩)) ∧ w'.cell? ⟨a, 1, none⟩ = some (.int .i64 (D.disk : Int))) (first | assumption | exact ⟨c0, c1⟩) (first | (go_at_call 96; with_reducible refine hct.mono ?_; rintro e wx ⟨rfl, rfl⟩))
 all_goals
  go_wp2
  go_ret
  exact ⟨rfl, 1, rfl⟩
end
end
section
open Go.RowKit
def freshDev (s : ShM) (d : Nat) : DevM := ⟨d, (blocksI s.sectors).toNat, -1⟩
theorem blocksI_bounds (n : Nat) (h : n ≤ 4096) : 0 ≤ blocksI n ∧ blocksI n < 4096 := by
 unfold blocksI
 split <;> omega
section
variable {X : Nat → Prop} {a g : Nat} {w w' : World} {s s' : ShM} {D : DevM}
set_option maxHeartbeats 1000000 in
theorem su_open (h : ShX X g w s) (d : Nat) (hd : d < s.disks.length) : Calls Try.prog 18 #[.pointer (some ⟨g, 0, none⟩), .int .i64 d] w fun e w' =>
  ∃ a, e = .returned (.tuple #[.pointer (some ⟨a, 0, none⟩), .int .i64 0]) ∧ w.heap.size ≤ a ∧ DvX X a g w' s (freshDev s d) ∧ Below w.heap.size w w' := by
 have hct := lx_size h
 have h17 := h.ok.disks17
 have h4 := h.ok.sectors4096
 obtain ⟨b0, b1⟩ := blocksI_bounds s.sectors h4
 have hbl : Hid (∀ W, _) := Lib.hid fun W => su_blocks s.sectors W (by omega) (by omega)
 have hsz : Hid (∀ W, Below w.heap.size w W → ∃ a, Ending.returned (.tuple #[.pointer (some ⟨W.heap.size, 0, none⟩), .int .i64 0]) = Ending.returned (.tuple #[.pointer (some ⟨a, 0, none⟩), .int .i64 0]) ∧ w.heap.size ≤ a ∧ DvX X a g (W.alloc (.cells #[.pointer (some ⟨g, 0, none⟩), .int .i64 (d : Int), .int .i64 (blocksI s.sectors), .int .i64 (-1)] 119)) s (freshDev s d) ∧ Below w.heap.size w (W.alloc (.cells #[.pointer (some ⟨g, 0, none⟩), .int .i64 (d : Int), .int .i64 (blocksI s.sectors), .int .i64 (-1)] 119))) := Lib.hid fun W hW => by
  have hal := (Below.refl W.heap.size W).alloc (Nat.le_refl _) (.cells #[.pointer (some ⟨g, 0, none⟩), .int .i64 (d : Int), .int .i64 (blocksI s.sectors), .int .i64 (-1)] 119)
  have e1 : ((blocksI s.sectors).toNat : Int) = blocksI s.sectors := by omega
  refine ⟨W.heap.size, rfl, hW.size, ⟨(h.below hW).more hal.size (fun b hb _ => hal.block b hb) fun b hb => ?_, ?_, fun hx => ?_, hd, ?_⟩, hW.alloc hW.size _⟩
  ·have hs1 : (W.alloc (.cells #[.pointer (some ⟨g, 0, none⟩), .int .i64 (d : Int), .int .i64 (blocksI s.sectors), .int .i64 (-1)] 119)).heap.size = W.heap.size + 1 := by simp
   rw [hs1]
   rcases hb with hb | hb
   ·have := h.lt b hb
    have := hW.size
    exact ⟨by omega, .inl hb⟩
   ·subst hb
    exact ⟨by omega, .inr (Nat.le_refl _)⟩
  ·rw [heap_alloc_new]
   simp only [devR, freshDev, e1]
  ·have := h.lt _ hx
   have := hW.size
   omega
  ·show (blocksI s.sectors).toNat < 4096
   omega
 go_enter Try.func18, Try.ntmps18
 go_wp2_with fail
 refine hct.mono ?_
 rintro e w1 ⟨rfl, hb⟩
 clear hct
 go_wp2_with fail
 refine (hbl.out w1).mono ?_
 rintro e w2 ⟨rfl, rfl⟩
 go_wp2
 go_ret2
 exact hsz.out w1 hb
def SecPost (X : Nat → Prop) (a g : Nat) (w : World) (D : DevM) (r : Bytes × Bytes × Int × ShM) (e : Ending) (w' : World) : Prop :=
 ∃ v1 v2, e = .returned (.tuple #[v1, v2, .int .i64 r.2.2.1]) ∧ Fresh w w' v1 r.1 ∧ Fresh w w' v2 r.2.1 ∧ (∀ b, v1.ownBlock = some b → v2.ownBlock ≠ some b) ∧
  DvX (fun b => X b ∨ v1.ownBlock = some b ∨ v2.ownBlock = some b) a g w' r.2.2.2 D ∧ Kept X w w'
theorem Fresh.kept {v : Value} {bs : Bytes} {w0 : World} (h : Fresh w0 w v bs) {Y : Nat → Prop} (hK : Kept Y w w') (hY : ∀ b, v.ownBlock = some b → Y b) : Fresh w0 w' v bs := by
 obtain ⟨A, c, rfl, hA⟩ := h
 rcases hA with ⟨rfl, hn⟩ | ⟨x, rfl, hx, hr⟩
 ·exact ⟨none, c, rfl, .inl ⟨rfl, hn⟩⟩
 ·exact ⟨_, c, rfl, .inr ⟨x, rfl, hx, hr.of_block (hK.block x (hY x rfl))⟩⟩
theorem Fresh.base {v : Value} {bs : Bytes} {w0 w1 : World} (h : Fresh w1 w v bs) (hs : w0.heap.size ≤ w1.heap.size) : Fresh w0 w v bs := by
 obtain ⟨A, c, rfl, hA⟩ := h
 rcases hA with ⟨rfl, hn⟩ | ⟨x, rfl, hx, hr⟩
 ·exact ⟨none, c, rfl, .inl ⟨rfl, hn⟩⟩
 ·exact ⟨_, c, rfl, .inr ⟨x, rfl, ⟨Nat.le_trans hs hx.1, hx.2⟩, hr⟩⟩
theorem Fresh.own {v : Value} {bs : Bytes} (h : Fresh w w' v bs) : ∀ b, v.ownBlock = some b → w.heap.size ≤ b ∧ b < w'.heap.size := by
 obtain ⟨A, c, rfl, hA⟩ := h
 intro b hb
 rcases hA with ⟨rfl, hn⟩ | ⟨x, rfl, hx, hr⟩
 ·cases hb
 ·injection hb with hb
  subst hb
  exact ⟨hx.1, hr.lt⟩
theorem sec_bad {n : Int} (hb : ¬ (0 ≤ n ∧ n < (D.size : Int))) : devSector s D n = ([], [], 1, s) := by simp only [devSector, if_neg hb]
theorem sec_err {n : Int} (hb : 0 ≤ n ∧ n < D.size) (he : ¬ (s.readR D.disk (sumAt n.toNat)).2.1 = 0) : devSector s D n = ([], [], (s.readR D.disk (sumAt n.toNat)).2.1, (s.readR D.disk (sumAt n.toNat)).2.2) := by
 simp only [devSector, if_pos hb, if_neg he]
theorem sec_ok {n : Int} (hb : 0 ≤ n ∧ n < D.size) (he : (s.readR D.disk (sumAt n.toNat)).2.1 = 0) :
  devSector s D n = ((s.readR D.disk (sumAt n.toNat)).1, ((s.readR D.disk (sumAt n.toNat)).2.2.readR D.disk (dataAt n.toNat)).1, ((s.readR D.disk (sumAt n.toNat)).2.2.readR D.disk (dataAt n.toNat)).2.1, ((s.readR D.disk (sumAt n.toNat)).2.2.readR D.disk (dataAt n.toNat)).2.2) := by
 simp only [devSector, if_pos hb, if_pos he]
theorem readR_len2 (s : ShM) (d n : Int) : (s.readR d n).2.2.disks.length = s.disks.length := by rw [readR_disks]
theorem DvX.stepV (h : DvX X a g w s D) {v : Value} {bs : Bytes} (hf : Fresh w w' v bs) (hS : ShX (fun b => (X b ∨ b = a) ∨ v.ownBlock = some b) g w' s') (hK : Kept (fun b => X b ∨ b = a) w w') (hl : s'.disks.length = s.disks.length) :
  DvX (fun b => X b ∨ v.ownBlock = some b) a g w' s' D ∧ Kept X w w' := by
 refine ⟨⟨hS.mono fun b hb => ?_, (hK.block a (.inr rfl)).trans h.row, fun hx => ?_, by rw [hl]; exact h.disk, h.size⟩, hK.mono fun b hb => .inl hb⟩
 ·rcases hb with (hb | hb) | hb
  ·exact .inl (.inl hb)
  ·exact .inr hb
  ·exact .inl (.inr hb)
 ·rcases hx with hx | hx
  ·exact h.out hx
  ·have := (hf.own a hx).1
   have := h.alt
   omega
set_option maxRecDepth 10000 in
set_option maxHeartbeats 2000000 in
theorem su_sector (h : DvX X a g w s D) (hroom : Room 1000000000000 s) (n : Int) (hn0 : -9223372036854775808 ≤ n) (hn1 : n ≤ 9223372036854775807) :
  Calls Try.prog 53 #[.pointer (some ⟨a, 0, none⟩), .int .i64 n] w (SecPost X a g w D (devSector s D n)) := by
 have c0 := h.c0
 have c1 := h.c1
 have c2 := h.c2
 have halt := h.alt
 have hsz := h.size
 by_cases hb : 0 ≤ n ∧ n < D.size
 ·have hl : Hid (∀ d n, (s.readR d n).2.2.disks.length = s.disks.length) := Lib.hid (readR_len2 s)
  obtain ⟨hb0, hb1⟩ := id hb
  have hct := lx_read h.drew.sh D.disk (sumAt n.toNat) (hroom _)
  have hrm : Hid (Room 1000000000000 (s.readR D.disk (sumAt n.toNat)).2.2) := Lib.hid (room_read hroom _ _)
  have hl2 := Lib.hid (readR_len2 s D.disk (sumAt n.toNat))
  have hlen := Lib.hid (readR_len h.sh.ok D.disk (sumAt n.toNat))
  have hse := Lib.hid fun he => sec_err (s := s) (D := D) hb he
  have hso := Lib.hid fun he => sec_ok (s := s) (D := D) hb he
  have hpl : Hid (∀ W, _) := Lib.hid fun W => su_place n.toNat W (by omega)
  rw [show ((n.toNat : Nat) : Int) = n from by omega] at hpl
  clear hb
  generalize sumAt n.toNat = p at *
  generalize dataAt n.toNat = q at *
  generalize hr : s.readR D.disk p = r at *
  replace hr := Lib.hid hr
  obtain ⟨bs, er, s1⟩ := r
  dsimp only at hct hrm hl2 hse hso hlen
  replace c0 := Lib.hid c0
  replace c1 := Lib.hid c1
  go_enter Try.func53, Try.ntmps53
  go_wp2_with fail
  refine (hpl.out w).mono ?_
  rintro e w' ⟨rfl, rfl⟩
  replace c0 := c0.out
  replace c1 := c1.out
  go_wp2_with fail
  refine wp_region_held_drew (S := (fun w' => w'.cell? ⟨a, 0, none⟩ = some (.pointer (some ⟨g, 0, none⟩)) ∧ w'.cell? ⟨a, 1, none⟩ = some (.int .i64 (D.disk : Int)))) (by kernel_rfl) ?_ (fun hHeld => ?_)
  ·(try dsimp only)
   exact ⟨c0, c1⟩
  refine tkA 0 ?_
  refine tkA 1 ?_
  refine tkA 2 ?_
  refine tkA 3 ?_
  refine tkA 4 ?_
  refine tkA 5 ?_
  refine tkA 6 ?_
  refine tkA 7 ?_
  refine tkA 8 ?_
  refine rkA 9 (fun K hK => ?_)
  go_simp
  refine hct.mono ?_
  rintro e w1 ⟨v1, rfl, hf1, hS1, hK1⟩
  obtain ⟨h1, hK1⟩ := h.drew.stepV hf1 hS1 hK1 hl2.out
  clear hct hS1 c0 c1 c2
  (try go_wp2_with fail)
  refine hK.out _ _ ?_ (fun hHeld2 => ?_)
  ·(try dsimp only)
   exact ⟨h1.c0, h1.c1⟩
  clear hK K
  replace hHeld := hHeld2
  clear hHeld2
  (try simp only [pA, pN, pB, pC, pD])
  refine tkA 10 ?_
  refine tkA 11 ?_
  refine tkA 12 ?_
  refine tkA 13 ?_
  refine tkA 14 ?_
  refine wpAnyH_done (by kernel_rfl) ?_ _
  clear hHeld
  by_cases he : er = 0
  ·have heb : (er != 0) = false := by simp [he]
   have e0 := hso.out he
   subst he
   replace e0 := Lib.hid e0
   have c0 := h1.c0
   have c1 := h1.c1
   have ha1 := h1.alt
   have hct2 := lx_read h1.drew.sh D.disk q (hrm.out _)
   have hl3 := Lib.hid (readR_len2 s1 D.disk q)
   have hfw := Lib.hid (Fresh.base (w0 := w) hf1 (Nat.le_refl _))
   replace hf1 := Lib.hid hf1
   go_wp2_with fail
   refine wp_region_held_drew (S := (fun w' => w'.cell? ⟨a, 0, none⟩ = some (.pointer (some ⟨g, 0, none⟩)) ∧ w'.cell? ⟨a, 1, none⟩ = some (.int .i64 (D.disk : Int)))) (by kernel_rfl) ?_ (fun hHeld => ?_)
   ·(try dsimp only)
    exact ⟨c0, c1⟩
   refine tkA 0 ?_
   refine tkA 1 ?_
   refine tkA 2 ?_
   refine tkA 3 ?_
   refine tkA 4 ?_
   refine tkA 5 ?_
   refine tkA 6 ?_
   refine tkA 7 ?_
   refine tkA 8 ?_
   refine rkA 9 (fun K hK => ?_)
   go_simp
   refine hct2.mono ?_
   rintro e w2 ⟨v2, rfl, hf2, hS2, hK2⟩
   obtain ⟨h2, hK2⟩ := h1.drew.stepV hf2 hS2 hK2 hl3.out
   clear hct2 hS2 c0 c1
   (try go_wp2_with fail)
   refine hK.out _ _ ?_ (fun hHeld2 => ?_)
   ·(try dsimp only)
    exact ⟨h2.c0, h2.c1⟩
   clear hK K
   replace hHeld := hHeld2
   clear hHeld2
   (try simp only [pA, pN, pB, pC, pD])
   refine tkA 10 ?_
   refine tkA 11 ?_
   refine tkA 12 ?_
   refine tkA 13 ?_
   refine tkA 14 ?_
   refine wpAnyH_done (by kernel_rfl) ?_ _
   clear hHeld
   have hfin : SecPost X a g w D (devSector s D n) (.returned (.tuple #[v1, v2, .int .i64 (s1.readR D.disk q).2.1])) w2 := by
    rw [e0.out]
    refine ⟨v1, v2, rfl, hfw.out.kept ((Kept.drew _ w1).trans hK2) (fun b hb => .inr hb), hf2.base (Nat.le_trans hK1.size (Nat.le_refl _)), fun b hb hb2 => ?_, h2.mono fun b hb => ?_, ?_⟩
    ·have x1 := (hf1.out.own b hb).2
     have x2 := (hf2.own b hb2).1
     have x3 : w1.drew.heap.size = w1.heap.size := rfl
     omega
    ·rcases hb with hb | hb | hb
     ·exact .inl (.inl hb)
     ·exact .inl (.inr hb)
     ·exact .inr hb
    ·exact (Kept.drew X w).trans (hK1.trans (((Kept.drew _ w1).trans hK2).mono fun b hb => .inl hb))
   replace hfin := Lib.hid hfin
   clear hf2 hK2 h2
   go_wp2
   go_ret3
   exact hfin.out
  ·have heb : (er != 0) = true := by simp [he]
   have e0 := hse.out he
   replace he := Lib.hid he
   have hfin : SecPost X a g w D (devSector s D n) (.returned (.tuple #[.slice none 0 0, .slice none 0 0, .int .i64 er])) w1 := by
    rw [e0]
    refine ⟨_, _, rfl, Fresh.nil _ _, Fresh.nil _ _, (fun b hb => by cases hb), h1.mono fun b hb => ?_, (Kept.drew X w).trans hK1⟩
    rcases hb with hb | hb | hb
    ·exact .inl hb
    ·cases hb
    ·cases hb
   replace hfin := Lib.hid hfin
   replace e0 := Lib.hid e0
   go_wp2
   go_ret3
   exact hfin.out
 ·have e0 := sec_bad (s := s) hb
  have hfin : Hid (∀ W, (W = w ∨ W = w.drew) → SecPost X a g w D (devSector s D n) (.returned (.tuple #[.slice none 0 0, .slice none 0 0, .int .i64 1])) W) := Lib.hid fun W hW => by
   rw [e0]
   have hh : DvX X a g W s D ∧ Kept X w W := by
    rcases hW with rfl | rfl
    ·exact ⟨h, Kept.refl _ _⟩
    ·exact ⟨h.drew, Kept.drew _ _⟩
   refine ⟨_, _, rfl, Fresh.nil _ _, Fresh.nil _ _, (fun b hb => by cases hb), hh.1.mono fun b hb => ?_, hh.2⟩
   rcases hb with hb | hb | hb
   ·exact hb
   ·cases hb
   ·cases hb
  replace e0 := Lib.hid e0
  have hx : n < 0 ∨ (0 ≤ n ∧ (D.size : Int) ≤ n) := by omega
  clear hb
  rcases hx with hx | ⟨hx, hx'⟩
  all_goals
   go_enter Try.func53, Try.ntmps53
   go_wp2
   go_ret3
   exact hfin.out _ (.inl rfl)
end
end
section
open Go.RowKit
theorem ok_read {s : ShM} (h : s.Ok) (d n : Int) : (s.readR d n).2.2.Ok := by
 simp only [ShM.readR]
 split
 ·split
  ·exact ⟨h.disks1, h.disks17, h.sectors1, h.sectors4096, h.sure, h.sec, h.waits⟩
  ·exact h
 ·exact h
theorem readR_128 {s : ShM} (hok : s.Ok) {d n : Int} (he : (s.readR d n).2.1 = 0) : (s.readR d n).1.length = 128 := by
 by_cases hh : s.has d n = true
 ·obtain ⟨⟨h1, h2⟩, h3, h4⟩ := has_of hh
  by_cases hw : s.why d.toNat = 0
  ·have e : s.readR d n = ((s.disk d.toNat).read n.toNat, 0, s.tick) := by simp [ShM.readR, hh, hw]
   rw [e]
   exact read_len hok (by omega) (by omega)
  ·simp [ShM.readR, hh, hw] at he
 ·simp [ShM.readR, hh] at he
theorem sec_len {s : ShM} (hok : s.Ok) {D : DevM} {n : Int} (he : (devSector s D n).2.2.1 = 0) : (devSector s D n).1.length = 128 ∧ (devSector s D n).2.1.length = 128 ∧ 0 ≤ n ∧ n < D.size := by
 by_cases hb : 0 ≤ n ∧ n < D.size
 ·by_cases h1 : (s.readR D.disk (sumAt n.toNat)).2.1 = 0
  ·rw [sec_ok hb h1] at he ⊢
   exact ⟨readR_128 hok h1, readR_128 (ok_read hok _ _) he, hb.1, hb.2⟩
  ·rw [sec_err hb h1] at he
   exact absurd he h1
 ·rw [sec_bad hb] at he
  have he' : (1 : Int) = 0 := he
  omega
def RdPost (X : Nat → Prop) (a g : Nat) (w : World) (D : DevM) (r : Bytes × Int × ShM) (e : Ending) (w' : World) : Prop :=
 ∃ v, e = .returned (.tuple #[v, .int .i64 r.2.1]) ∧ Fresh w w' v r.1 ∧ DvX (fun b => X b ∨ v.ownBlock = some b) a g w' r.2.2 D ∧ Kept X w w'
theorem Fresh.below {w0 w w' : World} {v : Value} {bs : Bytes} (h : Fresh w0 w v bs) (hb : Below w.heap.size w w') : Fresh w0 w' v bs := by
 obtain ⟨A, c, rfl, hA⟩ := h
 rcases hA with ⟨rfl, hn⟩ | ⟨x, rfl, hx, hr⟩
 ·exact ⟨none, c, rfl, .inl ⟨rfl, hn⟩⟩
 ·exact ⟨_, c, rfl, .inr ⟨x, rfl, hx, hr.of_block (hb.block x hr.lt)⟩⟩
section
variable {X : Nat → Prop} {a g : Nat} {w w' : World} {s s' : ShM} {D : DevM}
set_option maxRecDepth 10000 in
set_option maxHeartbeats 2000000 in
theorem su_read (h : DvX X a g w s D) (hroom : Room 1000000000000 s) (n : Int) (hn0 : -9223372036854775808 ≤ n) (hn1 : n ≤ 9223372036854775807) :
  Calls Try.prog 70 #[.pointer (some ⟨a, 0, none⟩), .int .i64 n] w (RdPost X a g w D (devRead s D n)) := by
 have hct := su_sector h hroom n hn0 hn1
 have hln := Lib.hid fun he => sec_len (s := s) (D := D) (n := n) h.sh.ok he
 have hlt := h.lt
 have hsz := h.size
 have hrd : Hid (devRead s D n = _) := Lib.hid (show devRead s D n = let r := devSector s D n; if r.2.2.1 = 0 then (if fitsP D.disk (standP r.1 n.toNat) n.toNat r.2.1 then (r.2.1, 0, r.2.2.2) else ([], 5, r.2.2.2)) else ([], r.2.2.1, r.2.2.2) from rfl)
 generalize hr : devSector s D n = r at *
 replace hr := Lib.hid hr
 obtain ⟨x1, x2, er, s1⟩ := r
 dsimp only at hln hrd hct
 go_enter Try.func70, Try.ntmps70
 go_wp2_with fail
 refine hct.mono ?_
 rintro e w1 ⟨v1, v2, rfl, hf1, hf2, hne, h1, hK1⟩
 dsimp only at hf1 hf2 h1
 replace hlt := Lib.hid hlt
 by_cases he : er = 0
 ·obtain ⟨l1, l2, n0, n1⟩ := hln.out he
  have hz := hrd.out
  rw [if_pos he] at hz
  obtain ⟨k, rfl⟩ := Int.eq_ofNat_of_zero_le n0
  rw [Int.toNat_natCast] at hz
  obtain ⟨A1, c1, rfl, hr1, _, _⟩ := hf1.form2 (by omega)
  obtain ⟨A2, c2, rfl, hr2, _, hn2⟩ := hf2.form2 (by omega)
  rw [l1] at hf1 hne h1 ⊢
  rw [l2] at hf2 hne h1 hn2 ⊢
  have hst := su_stand A1 c1 x1 k w1 hr1 l1 (by omega)
  have hfi : Hid (∀ W, Below w1.heap.size w1 W → _) := Lib.hid fun W hW => su_fits a g D (standP x1 k) k A2 128 c2 x2 W ((hW.block a h1.alt).trans h1.row) (hr2.below hW) l2
  have heb : (er != 0) = false := by simp [he]
  subst he
  replace hrd := hz
  generalize hft : fitsP D.disk (standP x1 k) k x2 = ft at *
  unfold pairAgg at hst hfi
  generalize (standP x1 k).1 = p1 at *
  generalize (standP x1 k).2 = p2 at *
  have hfin : Hid (∀ W, Below w1.heap.size w1 W → RdPost X a g w D (devRead s D k) (.returned (.tuple #[if ft then .slice A2 128 c2 else .slice none 0 0, .int .i64 (if ft then 0 else 5)])) W) := Lib.hid fun W hW => by
   rw [hrd]
   have hKW : Kept X w W := hK1.trans ((Kept.of_below hW h1.lt).mono fun b hb => .inl hb)
   cases ft
   ·refine ⟨_, rfl, Fresh.nil _ _, (h1.below hW).mono fun b hb => ?_, hKW⟩
    rcases hb with hb | hb
    ·exact .inl hb
    ·cases hb
   ·refine ⟨_, rfl, hf2.below hW, (h1.below hW).mono fun b hb => ?_, hKW⟩
    rcases hb with hb | hb
    ·exact .inl hb
    ·exact .inr (.inr hb)
  replace hrd := Lib.hid hrd
  replace hft := Lib.hid hft
  replace l1 := Lib.hid l1
  replace l2 := Lib.hid l2
  clear hct hz hf1 hf2 hr1 hr2 hn2 hne hln
  go_wp2_with fail
  refine hst.mono ?_
  rintro e w2 ⟨rfl, hb2⟩
  clear hst
  go_wp2_with fail
  refine (hfi.out w2 hb2).mono ?_
  rintro e w3 ⟨rfl, hb3⟩
  have hq := hfin.out w3 (below_to hb2 hb3)
  clear hfi hfin
  cases ft
  ·replace hq := Lib.hid hq
   go_wp2
   go_ret2
   exact hq.out
  ·replace hq := Lib.hid hq
   go_wp2
   go_ret2
   exact hq.out
 ·have heb : (er != 0) = true := by simp [he]
  have hz := hrd.out
  rw [if_neg he] at hz
  have hq : RdPost X a g w D (devRead s D n) (.returned (.tuple #[.slice none 0 0, .int .i64 er])) w1 := by
   rw [hz]
   refine ⟨_, rfl, Fresh.nil _ _, h1.mono fun b hb => ?_, hK1⟩
   rcases hb with hb | hb
   ·exact .inl hb
   ·cases hb
  replace hq := Lib.hid hq
  replace he := Lib.hid he
  clear hct hz hf1 hf2 hne hln
  go_wp2
  go_ret2
  exact hq.out
end
end
section
open Go.RowKit
def wk (was : Bytes) (k : Nat) : Bytes := was.set 0 (was.getD 0 0 + UInt8.ofNat k)
theorem wk_len (was : Bytes) (k : Nat) : (wk was k).length = was.length := by simp [wk]
theorem wk_zero (was : Bytes) (h : 0 < was.length) : wk was 0 = was := by
 cases was with
 | nil => simp at h
 | cons b l => simp [wk]
theorem wk_get (was : Bytes) (k : Nat) (h : 0 < was.length) : (wk was k).getD 0 0 = was.getD 0 0 + UInt8.ofNat k := by
 cases was with
 | nil => simp at h
 | cons b l => simp [wk]
theorem wk_succ (was : Bytes) (k : Nat) (h : 0 < was.length) : (wk was k).set 0 ((wk was k).getD 0 0 + 1) = wk was (k + 1) := by
 rw [wk_get was k h]
 simp only [wk, List.set_set]
 congr 1
 rw [UInt8.add_assoc]
 congr 1
 apply UInt8.toNat_inj.1
 simp [UInt8.toNat_add]
theorem sumB_wk (disk block : Int) (was : Bytes) (h : 0 < was.length) {i j : Nat} (hi : i < 256) (hj : j < 256) (e : sumB disk block (wk was i) = sumB disk block (wk was j)) : i = j := by
 rcases Nat.decEq i j with hne | heq
 ·exfalso
  have hl : (sumL disk block).length = 8 := by simp [sumL, leBytes_len]
  have key : sumL disk block ++ wk was j = (sumL disk block ++ wk was i).set 8 (was.getD 0 0 + UInt8.ofNat j) := by
   rw [List.set_append_right _ _ (by omega), hl]
   simp [wk]
  have hlt : 8 < (sumL disk block ++ wk was i).length := by rw [List.length_append, hl, wk_len]; omega
  refine crc_turned (sumL disk block ++ wk was i) 8 hlt (was.getD 0 0 + UInt8.ofNat j) ?_ 0 ?_
  ·have e2 : (sumL disk block ++ wk was i)[8] = was.getD 0 0 + UInt8.ofNat i := by
    rw [List.getElem_append_right (by omega)]
    simp [hl, wk]
   rw [e2]
   intro e3
   have e4 := congrArg UInt8.toNat (UInt8.add_right_inj (was.getD 0 0) |>.1 e3)
   simp only [UInt8.toNat_ofNat'] at e4
   omega
  ·rw [← key]
   exact e
 ·exact heq
theorem spoil_four (disk block : Int) (was : Bytes) (h : 0 < was.length) (sum p1 p2 : Nat) (hb : ∀ j, j < 4 → sumB disk block (wk was j) = sum ∨ sumB disk block (wk was j) = p1 ∨ sumB disk block (wk was j) = p2) : False := by
 have h0 := hb 0 (by omega)
 have h1 := hb 1 (by omega)
 have h2 := hb 2 (by omega)
 have h3 := hb 3 (by omega)
 have n01 : sumB disk block (wk was 0) ≠ sumB disk block (wk was 1) := fun e => by have := sumB_wk disk block was h (by omega) (by omega) e; omega
 have n02 : sumB disk block (wk was 0) ≠ sumB disk block (wk was 2) := fun e => by have := sumB_wk disk block was h (by omega) (by omega) e; omega
 have n03 : sumB disk block (wk was 0) ≠ sumB disk block (wk was 3) := fun e => by have := sumB_wk disk block was h (by omega) (by omega) e; omega
 have n12 : sumB disk block (wk was 1) ≠ sumB disk block (wk was 2) := fun e => by have := sumB_wk disk block was h (by omega) (by omega) e; omega
 have n13 : sumB disk block (wk was 1) ≠ sumB disk block (wk was 3) := fun e => by have := sumB_wk disk block was h (by omega) (by omega) e; omega
 have n23 : sumB disk block (wk was 2) ≠ sumB disk block (wk was 3) := fun e => by have := sumB_wk disk block was h (by omega) (by omega) e; omega
 omega
def badS (disk block : Int) (sum p1 p2 : Nat) (b : Bytes) : Prop := sumB disk block b = sum ∨ sumB disk block b = p1 ∨ sumB disk block b = p2
theorem spoil_at (D : DevM) (n : Nat) (p : Nat × Nat) (sum : Nat) (was : Bytes) (h : 0 < was.length) : ∀ (f k : Nat), (∀ j, k ≤ j → j < k + f → True) → ∀ m, m ≤ f → (∀ j, j < m → badS D.disk n sum p.1 p.2 (wk was (k + j))) → ¬ badS D.disk n sum p.1 p.2 (wk was (k + m)) →
  spoilB (fun b => sumB D.disk n b == sum || sumB D.disk n b == p.1 || sumB D.disk n b == p.2) f (wk was k) = wk was (k + m)
 | 0, k, _, m, hm, _, _ => by
  obtain rfl : m = 0 := by omega
  rfl
 | f + 1, k, _, m, hm, hb, hn => by
  unfold spoilB
  cases m with
  | zero =>
   rw [if_neg]
   ·rfl
   ·intro e
    apply hn
    simp only [Bool.or_eq_true, beq_iff_eq] at e
    unfold badS
    rw [Nat.add_zero]
    rcases e with (e | e) | e
    ·exact .inl e
    ·exact .inr (.inl e)
    ·exact .inr (.inr e)
  | succ m =>
   have h0 := hb 0 (by omega)
   rw [Nat.add_zero] at h0
   rw [if_pos, wk_succ was k h]
   ·have := spoil_at D n p sum was h f (k + 1) (fun _ _ _ => trivial) m (by omega) (fun j hj => by
     have := hb (j + 1) (by omega)
     rw [show k + 1 + j = k + (j + 1) from by omega]
     exact this) (by rw [show k + 1 + m = k + (m + 1) from by omega]; exact hn)
    rw [this, show k + 1 + m = k + (m + 1) from by omega]
   ·simp only [Bool.or_eq_true, beq_iff_eq]
    rcases h0 with e | e | e
    ·exact .inl (.inl e)
    ·exact .inl (.inr e)
    ·exact .inr e
theorem spoil_is (D : DevM) (n : Nat) (p : Nat × Nat) (sum : Nat) (was : Bytes) (h : 0 < was.length) (m : Nat) (hm : m ≤ 3) (hb : ∀ j, j < m → badS D.disk n sum p.1 p.2 (wk was j)) (hn : ¬ badS D.disk n sum p.1 p.2 (wk was m)) : spoilOf D n p sum was = wk was m := by
 have := spoil_at D n p sum was h 3 0 (fun _ _ _ => trivial) m hm (fun j hj => by rw [Nat.zero_add]; exact hb j hj) (by rw [Nat.zero_add]; exact hn)
 rw [wk_zero was h, Nat.zero_add] at this
 exact this
def farOf (w : World) (b : Nat) (b0 : UInt8) : Nat := match w.cell? ⟨b, 0, none⟩ with | some (.int _ z) => ((z - (b0.toNat : Int)) % 256).toNat | _ => 0
theorem far_wk {w : World} {b : Nat} {was : Bytes} {k : Nat} (h : RowM w b (wk was k)) (hl : 0 < was.length) (hk : k < 256) : farOf w b (was.getD 0 0) = k := by
 have hc := h.cell 0 (by rw [wk_len]; exact hl)
 unfold farOf
 rw [hc]
 have e : (wk was k)[0]'(by rw [wk_len]; exact hl) = was.getD 0 0 + UInt8.ofNat k := by
  have := wk_get was k hl
  rw [List.getD_eq_getElem?_getD, List.getElem?_eq_getElem (by rw [wk_len]; exact hl)] at this
  exact this
 simp only [e, UInt8.toNat_add, UInt8.toNat_ofNat']
 have := (was.getD 0 0).toNat_lt
 omega
theorem nextP_lt (D : DevM) (n : Nat) (p : Nat × Nat) (was bs : Bytes) : (nextP D n p was bs).1 < 256 ^ 4 ∧ (nextP D n p was bs).2 < 256 ^ 4 := by
 unfold nextP
 dsimp only
 constructor
 ·split <;> exact crc_lt _ _
 ·exact crc_lt _ _
end
section
open Go.RowKit
theorem bad_cases {x sum p1 p2 : Nat} : (((x : Int) == (sum : Int)) = true ∧ (x = sum ∨ x = p1 ∨ x = p2)) ∨ (((x : Int) == (sum : Int)) = false ∧ ((x : Int) == (p1 : Int)) = true ∧ (x = sum ∨ x = p1 ∨ x = p2)) ∨
  (((x : Int) == (sum : Int)) = false ∧ ((x : Int) == (p1 : Int)) = false ∧ ((x : Int) == (p2 : Int)) = true ∧ (x = sum ∨ x = p1 ∨ x = p2)) ∨ (((x : Int) == (sum : Int)) = false ∧ ((x : Int) == (p1 : Int)) = false ∧ ((x : Int) == (p2 : Int)) = false ∧ ¬ (x = sum ∨ x = p1 ∨ x = p2)) := by
 by_cases h1 : x = sum
 ·exact .inl ⟨by rw [h1]; simp, .inl h1⟩
 ·have e1 : ((x : Int) == (sum : Int)) = false := beq_eq_false_iff_ne.2 (by omega)
  by_cases h2 : x = p1
  ·exact .inr (.inl ⟨e1, by rw [h2]; simp, .inr (.inl h2)⟩)
  ·have e2 : ((x : Int) == (p1 : Int)) = false := beq_eq_false_iff_ne.2 (by omega)
   by_cases h3 : x = p2
   ·exact .inr (.inr (.inl ⟨e1, e2, by rw [h3]; simp, .inr (.inr h3)⟩))
   ·exact .inr (.inr (.inr ⟨e1, e2, beq_eq_false_iff_ne.2 (by omega), by omega⟩))
theorem inc_byte (b : UInt8) : ((b.toNat : Int) + 1) % 256 = ((b + 1).toNat : Int) := by
 rw [UInt8.toNat_add]
 simp
section
variable {X : Nat → Prop} {a g : Nat} {w w' : World} {s s' : ShM} {D : DevM}
theorem RowM.below {w w' : World} {b : Nat} {bs : Bytes} (h : RowM w b bs) (hb : Below w.heap.size w w') : RowM w' b bs := h.of_block (hb.block b h.lt)
theorem DvX.setX (h : DvX X a g w s D) {b : Addr} (hb : X b.block) (u : Value) : DvX X a g (w.setCell b u) s D := by
 have hne : a ≠ b.block := fun e => h.out (e ▸ hb)
 refine ⟨?_, (heap_setCell_other w b a u hne).trans h.row, h.out, h.disk, h.size⟩
 obtain ⟨h0, F, h1, h2, h3⟩ := h.sh
 exact ⟨fun k hk => by simpa [World.setCell] using h0 k hk, F, h1.of_blocks fun k hk => heap_setCell_other w b k u (fun e => h3 k hk (.inl (e ▸ hb))), h2, h3⟩
set_option maxRecDepth 10000 in
set_option maxHeartbeats 4000000 in
theorem su_spoil (gb : Nat) (h : DvX (fun b => X b ∨ b = gb) a g w s D) (hX : ¬ X gb) (hroom : Room 1000000000000 s) (p1 p2 sum : Nat) (n : Nat) (hn : n < D.size) (c : Nat) (was : Bytes) (hr : RowM w gb was) (hl : was.length = 128) :
  Calls Try.prog 57 #[.pointer (some ⟨a, 0, none⟩), .agg #[.int .u32 (p1 : Int), .int .u32 (p2 : Int)], .int .i64 (n : Int), .slice (some ⟨gb, 0, none⟩) 128 c, .int .u32 (sum : Int)] w fun e w' =>
   e = .returned (.int .i64 (devSpoil s D n (p1, p2) was sum).1) ∧ DvX (fun b => X b ∨ b = gb) a g w' (devSpoil s D n (p1, p2) was sum).2.1 (devSpoil s D n (p1, p2) was sum).2.2 ∧ Kept X w w' := by
 have hpos : 0 < was.length := by omega
 have hsum : Hid (∀ W k, RowM W gb (wk was k) → Calls Try.prog 54 #[.int .i64 (D.disk : Int), .int .i64 (n : Int), .slice (some ⟨gb, 0, none⟩) 128 c] W fun e w' => e = .returned (.int .u32 (sumB D.disk n (wk was k) : Nat)) ∧ Below W.heap.size W w') := Lib.hid fun W k h => su_sum D.disk n _ 128 c _ W (h.rd (by rw [wk_len]; omega)) (by rw [wk_len]; exact hl)
 have hpl : Hid (∀ W, _) := Lib.hid fun W => su_place n W (by have := h.size; omega)
 have hsz := h.size
 have hgX : Hid (¬ X gb) := Lib.hid hX
 have hal : Below w.heap.size w (w.alloc (.cells #[.int .u32 (p1 : Int), .int .u32 (p2 : Int)] 124)) := (Below.refl w.heap.size w).alloc (Nat.le_refl _) _
 have h1 := h.below hal
 have hr1 : RowM (w.alloc (.cells #[.int .u32 (p1 : Int), .int .u32 (p2 : Int)] 124)) gb (wk was 0) := by rw [wk_zero was hpos]; exact hr.below hal
 have hbox : (w.alloc (.cells #[.int .u32 (p1 : Int), .int .u32 (p2 : Int)] 124)).heap[w.heap.size]? = some (.cells #[.int .u32 (p1 : Int), .int .u32 (p2 : Int)] 124) := heap_alloc_new w _
 have hgb := hr.lt
 have hK0 : Kept X w (w.alloc (.cells #[.int .u32 (p1 : Int), .int .u32 (p2 : Int)] 124)) := Kept.of_below hal (fun b hb => h.lt b (.inl hb))
 have c1 := h1.c1
 have ha1 := h1.alt
 have hct := hsum.out _ 0 hr1
 replace hr1 := Lib.hid hr1
 replace hbox := Lib.hid hbox
 replace hl := Lib.hid hl
 go_enter Try.func57, Try.ntmps57
 go_wp2_with fail
 refine hct.mono ?_
 rintro e w1 ⟨rfl, hb1⟩
 have h2 := h1.below hb1
 have hr2 := Lib.hid (hr1.out.below hb1)
 have hbox2 := Lib.hid ((hb1.block _ (by simp)).trans hbox.out)
 have hK2 := hK0.trans (Kept.of_below hb1 (fun b hb => h1.lt b (.inl hb)))
 clear h1 c1 ha1 hct hb1 hK0 hal
 go_wp2_with fail
 go_loopw [11] (fun x wr => ∃ k : Nat, k ≤ 3 ∧ x = .int .u32 (sumB D.disk n (wk was k) : Nat) ∧ Hid (∀ j, j < k → badS D.disk n sum p1 p2 (wk was j)) ∧ Hid (RowM wr gb (wk was k)) ∧ DvX (fun b => X b ∨ b = gb) a g wr s D ∧ Kept X w wr ∧ Hid (wr.heap[w.heap.size]? = some (.cells #[.int .u32 (p1 : Int), .int .u32 (p2 : Int)] 124)))
  (fun _ wr => 3 - farOf wr gb (was.getD 0 0))
 case atStart => exact ⟨0, by omega, rfl, Lib.hid (fun j hj => by omega), hr2, h2, hK2, hbox2⟩
 case round =>
  obtain ⟨k, hk, rfl, hbad, hrow, hd, hK, hbx⟩ := hrel
  obtain ⟨x0, x1⟩ := two_cells wr w.heap.size _ _ _ hbx.out
  have hfar := Lib.hid (far_wk hrow.out hpos (by omega))
  have hbk : Hid (badS D.disk n sum p1 p2 (wk was k) ↔ (sumB D.disk n (wk was k) = sum ∨ sumB D.disk n (wk was k) = p1 ∨ sumB D.disk n (wk was k) = p2)) := Lib.hid Iff.rfl
  generalize hx : sumB D.disk n (wk was k) = x at *
  replace hx := Lib.hid hx
  rcases bad_cases (x := x) (sum := sum) (p1 := p1) (p2 := p2) with ⟨e1, hb⟩ | ⟨e1, e2, hb⟩ | ⟨e1, e2, e3, hb⟩ | ⟨e1, e2, e3, hb⟩
  iterate 3
   ·replace hb := Lib.hid hb
    have hk3 : k < 3 := by
     rcases Nat.lt_or_ge k 3 with hlt | hge
     ·exact hlt
     ·exfalso
      obtain rfl : k = 3 := by omega
      refine spoil_four D.disk n was hpos sum p1 p2 fun j hj => ?_
      by_cases hj3 : j = 3
      ·subst hj3; exact hbk.out.2 hb.out
      ·exact hbad.out j (by omega)
    have hbad2 : Hid (∀ j, j < k + 1 → badS D.disk n sum p1 p2 (wk was j)) := Lib.hid fun j hj => by
     by_cases hjk : j = k
     ·subst hjk; exact hbk.out.2 hb.out
     ·exact hbad.out j (by omega)
    have c0 := hrow.out.cell 0 (by rw [wk_len]; omega)
    have f0 := hrow.out.frozen 0 (by rw [wk_len]; omega)
    have hgw := hrow.out.lt
    have hset := hrow.out.set 0 (by rw [wk_len]; omega) ((wk was k).getD 0 0 + 1)
    rw [wk_succ was k hpos] at hset
    have eg : (wk was k)[0]'(by rw [wk_len]; omega) = (wk was k).getD 0 0 := by
     rw [List.getD_eq_getElem?_getD, List.getElem?_eq_getElem (by rw [wk_len]; omega)]
     rfl
    rw [eg] at c0
    have hinc := inc_byte ((wk was k).getD 0 0)
    generalize (wk was k).getD 0 0 = b0 at *
    generalize hb01 : b0 + 1 = b1 at *
    replace hb01 := Lib.hid hb01
    have hd2 := hd.setX (b := ⟨gb, 0, none⟩) (.inr rfl) (.int .u8 (b1.toNat : Int))
    have hK3 := hK.trans (Kept.setCell (a := ⟨gb, 0, none⟩) hgX.out (.int .u8 (b1.toNat : Int)))
    have hbx2 := Lib.hid ((heap_setCell_other wr ⟨gb, 0, none⟩ w.heap.size (.int .u8 (b1.toNat : Int)) (by show w.heap.size ≠ gb; omega)).trans hbx.out)
    have c1 := hd2.c1
    have ha2 := hd2.alt
    have hct := hsum.out _ (k + 1) hset
    replace hset := Lib.hid hset
    go_wp2_with fail
    refine hct.mono ?_
    rintro e w5 ⟨rfl, hb5⟩
    have hd5 := hd2.below hb5
    have hr5 := Lib.hid (hset.out.below hb5)
    have hbx5 := Lib.hid ((hb5.block _ (lt_of_blk hbx2.out)).trans hbx2.out)
    have hK5 := hK3.trans (Kept.of_below hb5 (fun b hb => hd2.lt b (.inl hb)))
    have hfar5 := Lib.hid (far_wk hr5.out hpos (by omega))
    clear hct hd2 hK3 c1 ha2 hb5 c0 f0
    go_wp2
    go_roundw
    case rel => exact ⟨k + 1, by omega, rfl, hbad2, hr5, hd5, hK5, hbx5⟩
    case measure => rw [hfar.out, hfar5.out]; omega
  ·have hw : Hid (spoilOf D n (p1, p2) sum was = wk was k) := Lib.hid (spoil_is D n (p1, p2) sum was hpos k hk hbad.out (fun hc => hb (hbk.out.1 hc)))
   have hdv : Hid (devSpoil s D n (p1, p2) was sum = let r := s.writeR D.disk (dataAt n) (spoilOf D n (p1, p2) sum was); if r.1 = 0 then devFlush r.2 D else (r.1, r.2, D)) := Lib.hid rfl
   rw [hw.out] at hdv
   have hln := Lib.hid (write_len s D.disk (dataAt n) (wk was k))
   have hrm := hroom
   have hwr : Hid (∀ W, DvX (fun b => X b ∨ b = gb) a g W s D → RowM W gb (wk was k) → _) := Lib.hid fun W hS hR => lx_write_in hS.sh D.disk (dataAt n) (some ⟨gb, 0, none⟩) 128 c (wk was k) (hR.rd (by rw [wk_len, hl.out]; omega)) (fun ad e => by injection e with e; subst e; exact .inl (.inr rfl)) (by rw [wk_len, hl.out]) (hroom _)
   generalize dataAt n = q at *
   generalize hwR : s.writeR D.disk q (wk was k) = r at *
   replace hwR := Lib.hid hwR
   obtain ⟨er, s1⟩ := r
   dsimp only at hdv hln hwr
   clear hb hbk
   go_wp2_with fail
   refine (hpl.out wr).mono ?_
   rintro e w' ⟨rfl, rfl⟩
   clear hpl x0 x1 hsum
   have c0 := hd.c0
   have c1 := hd.c1
   have ha := hd.alt
   have hct := hwr.out wr.drew hd.drew (hrow.out.of_block rfl)
   clear hwr
   go_wp2_with fail
   go_still_tail 10, (by kernel_rfl)
   change wpList _ _ _ _ _ wr.drew
   go_wp2_with fail
   refine hct.mono ?_
   rintro e w3 ⟨rfl, hS3, hK3⟩
   obtain ⟨h3, hK3⟩ := hd.drew.step hS3 hK3 hln.out
   have hK3 := hK.trans ((Kept.drew X wr).trans (hK3.mono fun b hb => .inl hb))
   clear hct hS3 c0 c1 ha
   by_cases he : er = 0
   ·have heb : (er != 0) = false := by simp [he]
    have hz := hdv.out
    rw [if_pos he] at hz
    subst he
    have hct := su_flush h3
    generalize devFlush s1 D = f at *
    obtain ⟨ef, s2, D2⟩ := f
    dsimp only at hct
    replace hz := Lib.hid hz
    go_wp2_with fail
    refine hct.mono ?_
    rintro e w4 ⟨rfl, h4, hK4⟩
    have hK4 := hK3.trans (hK4.mono fun b hb => .inl hb)
    clear hct
    replace hK4 := Lib.hid hK4
    replace h4 := Lib.hid h4
    go_wp2
    go_ret
    rw [hz.out]
    exact ⟨rfl, h4.out, hK4.out⟩
   ·have heb : (er != 0) = true := by simp [he]
    have hz := hdv.out
    rw [if_neg he] at hz
    replace he := Lib.hid he
    replace hz := Lib.hid hz
    replace h3 := Lib.hid h3
    go_wp2
    go_ret
    rw [hz.out]
    exact ⟨rfl, h3.out, hK3⟩
end
end
section
open Go.RowKit
theorem put_cons (bs : Bytes) (b : UInt8) (r : Bytes) (o : Nat) (h : o + (b :: r).length ≤ bs.length) : (bs.set o b).take (o + 1) ++ r ++ (bs.set o b).drop (o + 1 + r.length) = bs.take o ++ b :: r ++ bs.drop (o + (b :: r).length) := by
 simp only [List.length_cons] at h ⊢
 have e : bs.set o b = (bs.take o ++ [b]) ++ bs.drop (o + 1) := by
  rw [List.set_eq_take_append_cons_drop, if_pos (by omega)]
  simp
 have hl : (bs.take o ++ [b]).length = o + 1 := by simp; omega
 have e1 : (bs.set o b).take (o + 1) = bs.take o ++ [b] := by rw [e, List.take_left' hl]
 have e2 : (bs.set o b).drop (o + 1 + r.length) = bs.drop (o + (r.length + 1)) := by
  rw [← List.drop_drop, e, List.drop_left' hl, List.drop_drop]
  congr 1
  omega
 rw [e1, e2]
 simp
theorem RowM.put {g : Nat} : ∀ (cs bs : Bytes) (o : Nat) (w : World), RowM w g bs → o + cs.length ≤ bs.length → RowM (w.setCells g o (bVs cs)) g (putB bs o cs)
 | [], bs, o, w, h, _ => by
  have e : putB bs o [] = bs := by simp [putB]
  rw [e]
  exact h
 | b :: r, bs, o, w, h, hl => by
  have h1 := h.set o (by simp at hl; omega) b
  have h2 := RowM.put r (bs.set o b) (o + 1) (w.setCell ⟨g, o, none⟩ (.int .u8 (b.toNat : Int))) h1 (by simp at hl ⊢; omega)
  have e : putB (bs.set o b) (o + 1) r = putB bs o (b :: r) := put_cons bs b r o hl
  rw [← e]
  exact h2
theorem setCells_other (g k : Nat) (hk : k ≠ g) : ∀ (vs : List Value) (o : Nat) (w : World), (w.setCells g o vs).heap[k]? = w.heap[k]?
 | [], _, _ => rfl
 | v :: r, o, w => by
  rw [World.setCells, setCells_other g k hk r]
  exact heap_setCell_other w ⟨g, o, none⟩ k v hk
theorem setCells_size (g : Nat) : ∀ (vs : List Value) (o : Nat) (w : World), (w.setCells g o vs).heap.size = w.heap.size ∧ (w.setCells g o vs).os = w.os ∧ (w.setCells g o vs).tape = w.tape ∧ (w.setCells g o vs).output = w.output
 | [], _, _ => ⟨rfl, rfl, rfl, rfl⟩
 | v :: r, o, w => by
  have h := setCells_size g r (o + 1) (w.setCell ⟨g, o, none⟩ v)
  rw [World.setCells]
  exact ⟨h.1.trans (by simp [World.setCell]), h.2.1, h.2.2.1, h.2.2.2⟩
theorem put_four (bs : Bytes) (k : Nat) (a b : Bytes) (ha : a.length = 4) (hb : b.length = 4) (h : k + 8 ≤ bs.length) : putB (putB bs k a) (k + 4) b = bs.take k ++ (a ++ b) ++ bs.drop (k + 8) := by
 unfold putB
 have e1 : (bs.take k ++ a ++ bs.drop (k + a.length)).take (k + 4) = bs.take k ++ a := by
  rw [List.take_append_of_le_length (by simp [ha]; omega)]
  exact List.take_of_length_le (by simp [ha]; omega)
 have e2 : (bs.take k ++ a ++ bs.drop (k + a.length)).drop (k + 4 + b.length) = bs.drop (k + 8) := by
  rw [List.drop_append]
  have h1 : (bs.take k ++ a).length = k + 4 := by simp [ha]; omega
  rw [h1, List.drop_of_length_le (by omega), List.nil_append, List.drop_drop, ha, hb]
  congr 1
  omega
 rw [e1, e2]
 simp
section
variable {P : Program}
theorem ex_copy_m (w : World) (dT sT ty e : TypeId) (hu : P.underlying dT = some (.slice e)) (hi : (P.info? e).map (fun i => (i.zero, i.size, i.bytes)) = some (some (.int .u8 0), 1, 1))
  (g o dLen dCap : Nat) (bs cs : Bytes) (ad : Addr) (n c : Nat) (hg : RowM w g bs) (hr : Rd w (some ad) cs) (hn : cs.length = n) (hd : n ≤ dLen) (hfit : o + n ≤ bs.length) :
  ∃ w', (Builtin.copy_ #[dT, sT] ty #[.slice (some ⟨g, o, none⟩) dLen dCap, .slice (some ad) n c]).run P w = .ok (.int .i64 n) w' ∧ RowM w' g (putB bs o cs) ∧ But g w w' := by
 subst hn
 obtain ⟨i0, hi0, hz0, hz1, hz2⟩ := info_parts hi
 have hs : (P.info? e).map (·.size) = some 1 := by simp [hi0, hz1]
 have h := run_copy_cells (P := P) w dT sT ty e g o dLen dCap ad cs.length c (bVs cs) hu hs (by rw [bVs_len]; exact (Nat.min_eq_left hd).symm) (fun j v hj => by
   have hj' : j < cs.length := by
    have := (List.getElem?_eq_some_iff.1 hj).1
    simpa [bVs_len] using this
   rw [bVs_get cs j hj'] at hj
   injection hj with hj
   subst hj
   exact hr.cell j hj')
  (fun j hj => by rw [bVs_len] at hj; rw [hg.cell (o + j) (by omega)]; rfl) (fun j hj => by rw [bVs_len] at hj; exact hg.frozen (o + j) (by omega)) (bVs_one cs)
 rw [bVs_len] at h
 obtain ⟨z1, z2, z3, z4⟩ := setCells_size g (bVs cs) o w
 exact ⟨_, h, RowM.put cs bs o w hg (by omega), ⟨z2, z3, z4, Nat.le_of_eq z1.symm, fun k _ hk => setCells_other g k hk _ _ _⟩⟩
end
theorem But.kept {g : Nat} {w w' : World} (h : But g w w') {X : Nat → Prop} (hX : ¬ X g) (hlt : ∀ b, X b → b < w.heap.size) : Kept X w w' :=
 ⟨h.os, h.tape, h.output, h.size, fun k hk => h.block k (hlt k hk) (fun e => hX (e ▸ hk))⟩
section
variable {X : Nat → Prop} {a g : Nat} {w w' : World} {s s' : ShM} {D : DevM}
theorem DvX.but (h : DvX X a g w s D) {b : Nat} (hb : X b) (hB : But b w w') : DvX X a g w' s D := by
 have hne : a ≠ b := fun e => h.out (e ▸ hb)
 refine ⟨?_, (hB.block a h.alt hne).trans h.row, h.out, h.disk, h.size⟩
 obtain ⟨h0, F, h1, h2, h3⟩ := h.sh
 exact ⟨fun k hk => Nat.lt_of_lt_of_le (h0 k hk) hB.size, F, h1.of_blocks fun k hk => hB.block k (h1.lt k hk) (fun e => h3 k hk (.inl (e ▸ hb))), h2, h3⟩
theorem Fresh.row {w0 : World} {v : Value} {bs : Bytes} (h : Fresh w0 w v bs) (hl : 0 < bs.length) : ∃ g c, v = .slice (some ⟨g, 0, none⟩) bs.length c ∧ w0.heap.size ≤ g ∧ bs.length ≤ c ∧ RowM w g bs := by
 obtain ⟨A, c, rfl, hA⟩ := h
 rcases hA with ⟨rfl, hn⟩ | ⟨x, rfl, hx, hr⟩
 ·subst hn; simp at hl
 ·exact ⟨x, c, rfl, hx.1, hx.2, hr⟩
theorem room_sec {N : Nat} (h : Room N s) (D : DevM) (n : Int) : Room N (devSector s D n).2.2.2 := by
 by_cases hb : 0 ≤ n ∧ n < D.size
 ·by_cases h1 : (s.readR D.disk (sumAt n.toNat)).2.1 = 0
  ·rw [sec_ok hb h1]
   exact room_read (room_read h _ _) _ _
  ·rw [sec_err hb h1]
   exact room_read h _ _
 ·rw [sec_bad hb]
  exact h
def WrPost (X : Nat → Prop) (a g : Nat) (w : World) (r : Int × ShM × DevM) (e : Ending) (w' : World) : Prop :=
 e = .returned (.int .i64 r.1) ∧ DvX X a g w' r.2.1 r.2.2 ∧ Kept X w w'
end
end
end Go.Proofs.Ytajnlhalanhicaa

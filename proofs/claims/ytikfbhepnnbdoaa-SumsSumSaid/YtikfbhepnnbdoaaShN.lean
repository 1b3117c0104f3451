/-
  THE WALKS over bits.Mul, slices.Repeat of one string, and the shelf's New.
-/
import Derived.Test.YtikfbhepnnbdoaaShQ
import Derived.Test.YtikfbhepnnbdoaaShB
namespace Go.Proofs.Ytikfbhepnnbdoaa
set_option linter.all false
open Go.RowKit

theorem mul64_one (n : Nat) (w : World) (hn : n ≤ 4096) : Calls Try.prog 60 #[.int .u64 1, .int .u64 n] w fun e w' => e = .returned (.tuple #[.int .u64 0, .int .u64 n]) ∧ w = w' := by
  have hA : bits .and .u64 1 4294967295 = 1 := by decide
  have hB : bits .and .u64 (n : Int) 4294967295 = (n : Int) := by
    have := u64_and_nat n 4294967295 (by omega) (by omega)
    rw [show ((4294967295 : Nat) : Int) = 4294967295 from rfl] at this
    rw [this]
    have e := Nat.and_two_pow_sub_one_eq_mod n 32
    rw [show (2 ^ 32 - 1 : Nat) = 4294967295 from rfl, show (2 ^ 32 : Nat) = 4294967296 from rfl] at e
    rw [e, Nat.mod_eq_of_lt (by omega)]
  have hC : (n : Int) / 4294967296 = 0 := by omega
  have hD : IntKind.u64.wrap (n : Int) = (n : Int) := by
    have : IntKind.u64.wrap (n : Int) = (n : Int) % 18446744073709551616 := by simp [IntKind.wrap, IntKind.bits, IntKind.signed]
    rw [this]; omega
  have hE : bits .and .u64 0 4294967295 = 0 := by decide
  have hF : IntKind.u64.wrap 0 = 0 := by decide
  go_enter Try.func60, Try.ntmps60
  go_wp2
  go_ret2
  exact ⟨by simp [hA, hB, hC, hD, hE, hF], rfl⟩
theorem bmul_one (n : Nat) (w : World) (hn : n ≤ 4096) : Calls Try.prog 53 #[.int .u64 1, .int .u64 n] w fun e w' => e = .returned (.tuple #[.int .u64 0, .int .u64 n]) ∧ w = w' := by
  go_enter Try.func53, Try.ntmps53
  go_wp2_with fail
  refine (mul64_one n w hn).mono ?_
  rintro e w' ⟨rfl, rfl⟩
  go_wp2
  go_ret2
  exact ⟨by simp, rfl⟩

theorem Try.infoStr : (Try.prog.info? 9).map (fun i => (i.zero, i.size, i.bytes)) = some (some (.string ⟨#[]⟩), 1, 16) := by kernel_rfl
/-- k of n cells are v, the others are z -/
def repRow (n k : Nat) (v z : Value) : List Value := List.replicate k v ++ List.replicate (n - k) z
theorem repRow_len (n k : Nat) (v z : Value) (h : k ≤ n) : (repRow n k v z).length = n := by simp [repRow]; omega
theorem repRow_put (n k m : Nat) (v z : Value) (h : k + m ≤ n) : (repRow n k v z).take k ++ List.replicate m v ++ (repRow n k v z).drop (k + m) = repRow n (k + m) v z := by
  simp only [repRow]
  rw [List.take_append_of_le_length (by simp), List.take_of_length_le (by simp), List.drop_append, List.drop_eq_nil_of_le (by simp), List.nil_append, List.length_replicate, List.drop_replicate]
  rw [List.replicate_append_replicate]
  congr 2
  omega
theorem copy_rep {P : Program} (w : World) (dT sT ty e : TypeId) (hu : P.underlying dT = some (.slice e)) (hs : (P.info? e).map (·.size) = some 1) (g : Nat) (n k : Nat) (b : Bytes) (z : Value) (hg : w.heap[g]? = some (.cells (repRow n k (strV b) z).toArray e (0, 0)))
    (o dLen dCap sCap m : Nat) (hm : m = Nat.min k dLen) (ho : o = k) (hkm : k + m ≤ n) :
    (Builtin.copy_ #[dT, sT] ty #[.slice (some ⟨g, o, none⟩) dLen dCap, .slice (some ⟨g, 0, none⟩) k sCap]).run P w = .ok (.int .i64 m) (w.setRow g (repRow n (k + m) (strV b) z).toArray) := by
  subst ho
  have hkn : o ≤ n := by omega
  have hmk : m ≤ o := by rw [hm]; exact Nat.min_le_left _ _
  have h := run_copy_row (P := P) w dT sT ty e g o dLen dCap ⟨g, 0, none⟩ o sCap (repRow n o (strV b) z).toArray e (List.replicate m (strV b)) hu hs hg (by simpa using hm)
    (by
      intro j u hj
      have hjm : j < m := by
        have := (List.getElem?_eq_some_iff.1 hj).1
        simpa using this
      rw [List.getElem?_replicate, if_pos hjm] at hj
      injection hj with hj
      subst hj
      have e1 : (⟨g, 0, none⟩ : Addr).add j = ⟨g, j, none⟩ := by unfold Addr.add; split <;> simp_all
      rw [e1, cell_of_row w g j _ e (0, 0) hg]
      simp only [List.getElem?_toArray, repRow]
      rw [List.getElem?_append_left (by simp; omega), List.getElem?_replicate, if_pos (by omega)])
    (by simp [repRow]; omega)
    (by intro u hu; rw [List.eq_of_mem_replicate hu]; rfl)
  simp only [List.length_replicate] at h
  rw [h, repRow_put n o m _ _ hkm]
  rfl

set_option maxRecDepth 3000 in
theorem sl_repeat (n : Nat) (w : World) (b : Bytes) (ad : Addr) (c : Nat) (hr : RdV w (some ad) [strV b]) (h1 : 1 ≤ n) (hn : n ≤ 4096) :
    Calls Try.prog 36 #[.slice (some ad) 1 c, .int .i64 n] w fun e w' =>
      e = .returned (.slice (some ⟨w.heap.size, 0, none⟩) n n) ∧ w'.ownsRow w.heap.size 9 1 (.slice (some ⟨w.heap.size, 0, none⟩) n n) n (List.replicate n (strV b)) ∧ Below w.heap.size w w' ∧ w'.heap.size = w.heap.size + 1 := by
  obtain ⟨i0, hi0, hz0, hz1, hz2⟩ := info_parts Try.infoStr
  have hmk : ∀ W : World, (Instr.makeSlice 54 (.int .i64 n) (.int .i64 n)).run Try.prog W = .ok (.slice (some ⟨W.heap.size, 0, none⟩) n n) (W.alloc (.cells (repRow n 0 (strV b) (.string ⟨#[]⟩)).toArray 9)) := by
    intro W
    have h := run_make (P := Try.prog) (w := W) 54 9 i0 (.string ⟨#[]⟩) Try.underlying54 hi0 hz0 .i64 .i64 (n : Int) (n : Int) (by omega) (Int.le_refl _) (by rw [hz2]; omega) (by omega)
    simp only [Int.toNat_natCast, hz1, Nat.mul_one] at h
    rw [h]
    have e1 : madeCells (Value.string ⟨#[]⟩).cells n = (repRow n 0 (strV b) (.string ⟨#[]⟩)).toArray := by
      apply Array.toList_inj.1
      rw [show (Value.string ⟨#[]⟩).cells = #[Value.string ⟨#[]⟩] from rfl, toList_madeCells_one]
      simp [repRow]
    rw [e1]
  have hsz : (Try.prog.info? 9).map (·.size) = some 1 := by rw [hi0, Option.map_some, hz1]
  have hg0 := heap_alloc_new w (.cells (repRow n 0 (strV b) (.string ⟨#[]⟩)).toArray 9)
  have hcp0 := run_copy_row (P := Try.prog) (w.alloc (.cells (repRow n 0 (strV b) (.string ⟨#[]⟩)).toArray 9)) 54 54 3 9 w.heap.size 0 n n ad 1 c _ 9 [strV b] Try.underlying54 hsz hg0
    (by show 1 = Nat.min 1 n; exact (Nat.min_eq_left h1).symm)
    (by
      intro j u hj
      have hj0 : j < 1 := (List.getElem?_eq_some_iff.1 hj).1
      have h0 : j = 0 := by omega
      subst h0
      injection hj with hj
      subst hj
      have := hr.cell 0 (by simp)
      exact (World.cell?_of_block (heap_alloc_old w _ (World.block_lt_of_cell? w _ this))).trans this)
    (by simp [repRow]; omega) (by intro u hu; simp at hu; subst hu; rfl)
  have hput0 := repRow_put n 0 1 (strV b) (.string ⟨#[]⟩) (by omega)
  simp only [List.length_singleton, Nat.zero_add] at hcp0 hput0
  rw [show List.replicate 1 (strV b) = [strV b] from rfl] at hput0
  rw [hput0] at hcp0
  have hG1 := setRow_heap (w.alloc (.cells (repRow n 0 (strV b) (.string ⟨#[]⟩)).toArray 9)) w.heap.size _ (repRow n 1 (strV b) (.string ⟨#[]⟩)).toArray 9 _ hg0
  have hB1 : Below w.heap.size w ((w.alloc (.cells (repRow n 0 (strV b) (.string ⟨#[]⟩)).toArray 9)).setRow w.heap.size (repRow n 1 (strV b) (.string ⟨#[]⟩)).toArray) :=
    ((Below.refl _ _).alloc (Nat.le_refl _) _).trans ⟨rfl, rfl, rfl, by simp [World.setRow], fun k hk => setRow_other _ _ k _ (by omega)⟩
  have hsz1 : ((w.alloc (.cells (repRow n 0 (strV b) (.string ⟨#[]⟩)).toArray 9)).setRow w.heap.size (repRow n 1 (strV b) (.string ⟨#[]⟩)).toArray).heap.size = w.heap.size + 1 := by simp [World.setRow]
  go_enter Try.func36, Try.ntmps36
  go_wp2_with fail
  refine (bmul_one n w hn).mono ?_
  rintro e w' ⟨rfl, rfl⟩
  have hn2 : ¬ (9223372036854775807 : Int) < (n : Int) := by omega
  go_wp2_with fail
  generalize (w.alloc (.cells (repRow n 0 (strV b) (.string ⟨#[]⟩)).toArray 9)).setRow w.heap.size (repRow n 1 (strV b) (.string ⟨#[]⟩)).toArray = w1 at *
  generalize hgg : w.heap.size = g at *
  clear hcp0 hput0 hg0 hmk hr
  go_loopw [8] (fun p wr => ∃ k : Nat, 1 ≤ k ∧ k ≤ n ∧ p = .int .i64 k ∧ wr.heap[g]? = some (.cells (repRow n k (strV b) (.string ⟨#[]⟩)).toArray 9) ∧ Below g w wr ∧ wr.heap.size = g + 1)
    (fun p _ => (n - intOf p).toNat)
  case atStart => exact ⟨1, by omega, h1, by go_num, hG1, hB1, hsz1⟩
  case round =>
    obtain ⟨k, hk1, hkn, rfl, hG, hB, hs⟩ := hrel
    by_cases hlt : k < n
    · obtain ⟨m, hm⟩ : ∃ m, m = Nat.min k (n - k) := ⟨_, rfl⟩
      have hmb : m ≤ n - k := by rw [hm]; exact Nat.min_le_right _ _
      have hm1 : 1 ≤ m := by rw [hm]; exact Nat.le_min.2 ⟨hk1, by omega⟩
      have hcp := copy_rep (P := Try.prog) wr.drew 54 54 3 9 Try.underlying54 hsz g n k b (.string ⟨#[]⟩) hG k (n - k) (n - k) n m hm rfl (by omega)
      have hG2 := setRow_heap wr.drew g _ (repRow n (k + m) (strV b) (.string ⟨#[]⟩)).toArray 9 _ hG
      have hB2 : Below g w (wr.drew.setRow g (repRow n (k + m) (strV b) (.string ⟨#[]⟩)).toArray) := hB.drew.trans ⟨rfl, rfl, rfl, by simp [World.setRow], fun j hj => setRow_other _ _ j _ (by omega)⟩
      have hs2 : (wr.drew.setRow g (repRow n (k + m) (strV b) (.string ⟨#[]⟩)).toArray).heap.size = g + 1 := by simpa [World.setRow] using hs
      have hkk : (k : Int) < (n : Int) := by omega
      clear hm
      go_wp2_with fail
      go_region_held3 (fun w' => True) (trivial) (fail)
      clear hcp
      have hwr : IntKind.i64.wrap ((k : Int) + (m : Int)) = ((k + m : Nat) : Int) := by
        simp only [IntKind.wrap, IntKind.bits, IntKind.signed, if_true]
        simp
        omega
      replace hwr := Lib.hid hwr
      go_wp2
      go_roundw
      case rel => exact ⟨k + m, by omega, by omega, by rw [hwr.out], hG2, hB2, hs2⟩
      case measure =>
        rw [hwr.out]
        simp [intOf]
        omega
    · have hkn2 : k = n := by omega
      subst hkn2
      go_wp2
      go_ret
      subst hgg
      refine ⟨by simp, ⟨by simp, .inr ⟨_, k, _, rfl, Nat.le_refl _, hG, Nat.le_refl _, by simp only [maxLen]; omega, by simp [repRow], by simp [repRow]⟩⟩, hB, hs⟩

theorem Try.infoDisk : (Try.prog.info? 74).map (fun i => (i.zero, i.size, i.bytes)) = some (some (.agg #[.slice none 0 0, .slice none 0 0, .bool false]), 3, 56) := by kernel_rfl
/-- the disks' row when the first ones have their sectors -/
def newRow (n d : Nat) (l : List Nat) : List Value := l.flatMap (fun g => [.slice (some ⟨g, 0, none⟩) n n, .slice none 0 0, .bool false]) ++ (List.replicate (d - l.length) ()).flatMap (fun _ => [.slice none 0 0, .slice none 0 0, .bool false])
theorem newRow_len (n d : Nat) (l : List Nat) (h : l.length ≤ d) : (newRow n d l).length = d * 3 := by
  rw [newRow, List.length_append, flat_len (n := 3) (fun _ => rfl), flat_len (n := 3) (fun _ => rfl), List.length_replicate]
  omega
theorem newRow_set (n d : Nat) (l : List Nat) (g : Nat) (h : l.length < d) : (newRow n d l).set (l.length * 3) (.slice (some ⟨g, 0, none⟩) n n) = newRow n d (l ++ [g]) := by
  rw [newRow, List.set_append_right _ _ (by rw [flat_len (n := 3) (fun _ => rfl)]; omega), flat_len (n := 3) (fun _ => rfl), Nat.sub_self]
  obtain ⟨m, hm⟩ : ∃ m, d - l.length = m + 1 := ⟨d - l.length - 1, by omega⟩
  rw [hm, List.replicate_succ, List.flatMap_cons, newRow, List.flatMap_append]
  have e : d - (l ++ [g]).length = m := by simp; omega
  rw [e]
  simp
theorem newRow_all (n d : Nat) (l : List Nat) (h : l.length = d) : newRow n d l = disksV (List.replicate d (freshDisk n)) (l.map fun g => ⟨g, n, .slice none 0 0⟩) := by
  have h0 : d - l.length = 0 := by omega
  simp only [newRow, h0, List.replicate_zero, List.flatMap_nil, List.append_nil]
  subst h
  simp only [disksV]
  induction l with
  | nil => rfl
  | cons g l ih =>
    rw [List.flatMap_cons, List.length_cons, List.replicate_succ, List.map_cons, List.zip_cons_cons, List.flatMap_cons, ih (by simp)]
    simp [diskV, freshDisk]

theorem sh_new_bad (w : World) (d n : Int) (h : ¬ (1 ≤ d ∧ d ≤ 17 ∧ 1 ≤ n ∧ n ≤ 4096)) : Calls Try.prog 18 #[.int .i64 d, .int .i64 n] w fun e w' => e = .returned (.tuple #[.pointer none, .int .i64 1]) ∧ w = w' := by
  go_enter Try.func18, Try.ntmps18
  by_cases a1 : d < 1
  · clear h
    go_wp2
    go_ret2
    exact ⟨by simp, rfl⟩
  · by_cases a2 : 17 < d
    · clear h
      go_wp2
      go_ret2
      exact ⟨by simp, rfl⟩
    · by_cases a3 : n < 1
      · clear h
        go_wp2
        go_ret2
        exact ⟨by simp, rfl⟩
      · have a4 : 4096 < n := by omega
        clear h
        go_wp2
        go_ret2
        exact ⟨by simp, rfl⟩
end Go.Proofs.Ytikfbhepnnbdoaa

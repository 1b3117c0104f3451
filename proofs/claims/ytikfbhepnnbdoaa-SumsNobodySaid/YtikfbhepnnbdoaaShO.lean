/-
  THE WALK over the shelf's New.
-/
import Derived.Test.YtikfbhepnnbdoaaShN
import Derived.Deep.RegionHeld3
import Derived.Deep.Onto
namespace Go.Proofs.Ytikfbhepnnbdoaa
set_option linter.all false
open Go.RowKit

/-- the sectors' rows of the first disks -/
structure Rows (w : World) (n : Nat) (b : Nat) (l : List Nat) : Prop where
  own : ∀ (j : Nat) (h : j < l.length), w.ownsRow 0 9 1 (.slice (some ⟨l[j], 0, none⟩) n n) n (List.replicate n (strV zeroSec))
  low : ∀ (j : Nat) (h : j < l.length), b ≤ l[j]
  inc : ∀ (i j : Nat) (hi : i < l.length) (hj : j < l.length), i < j → l[i] < l[j]
theorem Rows.nil (w : World) (n b : Nat) : Rows w n b [] := ⟨fun _ h => absurd h (by simp), fun _ h => absurd h (by simp), fun _ _ h => absurd h (by simp)⟩
theorem Rows.lt {w : World} {n b : Nat} {l : List Nat} (h : Rows w n b l) (j : Nat) (hj : j < l.length) : l[j] < w.heap.size := (World.ownsRow.lt (h.own j hj) _ rfl).2
theorem Rows.below {w w' : World} {n b : Nat} {l : List Nat} (h : Rows w n b l) (hk : ∀ k, b ≤ k → k < w.heap.size → w'.heap[k]? = w.heap[k]?) : Rows w' n b l :=
  ⟨fun j hj => ownsRow_same (h.own j hj) fun k e => by
    injection e with e
    subst e
    exact hk _ (h.low j hj) (h.lt j hj), h.low, h.inc⟩
theorem Rows.snoc {w : World} {n b : Nat} {l : List Nat} (h : Rows w n b l) (g : Nat) (hg : w.ownsRow 0 9 1 (.slice (some ⟨g, 0, none⟩) n n) n (List.replicate n (strV zeroSec))) (hb : b ≤ g) (hl : ∀ (j : Nat) (hj : j < l.length), l[j] < g) : Rows w n b (l ++ [g]) := by
  refine ⟨fun j hj => ?_, fun j hj => ?_, fun i j hi hj hij => ?_⟩
  · rw [List.getElem_append]
    split
    · exact h.own j (by assumption)
    · simpa using hg
  · rw [List.getElem_append]
    split
    · exact h.low j (by assumption)
    · simpa using hb
  · simp only [List.length_append, List.length_singleton] at hi hj
    rw [List.getElem_append, List.getElem_append]
    split
    · split
      · exact h.inc i j (by assumption) (by assumption) hij
      · simp only [List.getElem_singleton]
        exact hl i (by assumption)
    · omega

theorem freshSh_ok (d n : Nat) (h1 : 1 ≤ d) (h17 : d ≤ 17) (n1 : 1 ≤ n) (n4 : n ≤ 4096) : (freshSh d n).Ok := by
  refine ⟨by simpa [freshSh] using h1, by simpa [freshSh] using h17, n1, n4, ?_, ?_, ?_⟩
  · intro k hk
    rw [List.eq_of_mem_replicate hk]
    simp [freshDisk, freshSh]
  · intro k hk b hb
    rw [List.eq_of_mem_replicate hk] at hb
    rw [List.eq_of_mem_replicate hb]
    simp [zeroSec]
  · intro k hk x hx
    rw [List.eq_of_mem_replicate hk] at hx
    simp [freshDisk] at hx
theorem seenF_fresh (d n : Nat) : seenF (freshSh d n) = fun _ _ => 0 := by
  funext x y
  simp only [seenF, freshSh, List.length_replicate, ShM.disk]
  split
  · rename_i h
    simp [List.getD_eq_getElem?_getD, h, freshDisk, waitsOf]
  · rfl

theorem fresh_at {w : World} {g gd gm d n : Nat} {l : List Nat} (h1 : 1 ≤ d) (h17 : d ≤ 17) (n1 : 1 ≤ n) (n4 : n ≤ 4096) (hl : l.length = d) (hR : Rows w n (g + 1) l)
    (hg : w.heap[g]? = some (.cells #[.int .i64 0, .bool false, .slice (some ⟨gd, 0, none⟩) d d, .int .i64 (n : Int), .int .i64 0, .map (some gm)] 70))
    (hgd : w.heap[gd]? = some (.cells (newRow n d l).toArray 74)) (hm : MapP w gm (fun _ _ => 0)) (h2 : gd < gm) (h3 : gm < g) :
    ShAt w ⟨g, gd, d, gm, l.map fun x => ⟨x, n, .slice none 0 0⟩⟩ (freshSh d n) := by
  have hok := freshSh_ok d n h1 h17 n1 n4
  have hdk : ∀ j (h : j < (freshSh d n).disks.length), (freshSh d n).disks[j] = freshDisk n := fun j h => by simp [freshSh]
  have hfs : ∀ j (h : j < (l.map fun x => (⟨x, n, .slice none 0 0⟩ : DiskF)).length), (l.map fun x => (⟨x, n, .slice none 0 0⟩ : DiskF))[j] = ⟨l[j]'(by simpa using h), n, .slice none 0 0⟩ := fun j h => by simp
  unfold ShAt
  rw [seenF_fresh]
  refine ⟨hok, ?_, by simp [freshSh, hl], ?_, ?_, ?_, hm, ?_⟩
  · rw [hg]
    simp [shelfR, freshSh]
  · rw [newRow_all n d l hl] at hgd
    have hlen := newRow_len n d l (by omega)
    rw [newRow_all n d l hl] at hlen
    have e : (freshSh d n).disks.length = d := by simp [freshSh]
    rw [e]
    exact ⟨hlen, .inr ⟨gd, d, _, rfl, Nat.zero_le _, hgd, Nat.le_refl _, by simp only [maxLen]; omega, by simpa using hlen, by
      show List.take (d * 3) (disksV (List.replicate d (freshDisk n)) (l.map fun g => ⟨g, n, .slice none 0 0⟩)) = _
      rw [List.take_of_length_le (by rw [hlen]; exact Nat.le_refl _)]
      rfl⟩⟩
  · intro j hj
    simp only [hdk]
    have hjl : j < l.length := by simpa [freshSh, hl] using hj
    have := hR.own j hjl
    simp only [hfs]
    simpa [freshDisk, sureV] using this
  · intro j hj
    simp only [hdk]
    simp only [hfs]
    exact World.ownsRow_nil _ _ _ _
  · refine ⟨by show g ≠ gd; omega, by show g ≠ gm; omega, by show gd ≠ gm; omega, ?_, ?_, ?_⟩
    · intro j hj b hb
      simp only [hfs] at hb
      have hjl : j < l.length := by simpa using hj
      have := hR.low j hjl
      simp only [DiskF.blocks, Value.ownBlock, Option.toList_none, List.mem_singleton] at hb
      subst hb
      exact ⟨by show l[j] ≠ g; omega, by show l[j] ≠ gd; omega, by show l[j] ≠ gm; omega⟩
    · intro j hj
      simp only [hfs]
      simp [Value.ownBlock]
    · intro i j hi hj hij b hb hb2
      simp only [hfs] at hb hb2
      have hil : i < l.length := by simpa using hi
      have hjl : j < l.length := by simpa using hj
      simp only [DiskF.blocks, Value.ownBlock, Option.toList_none, List.mem_singleton] at hb hb2
      rcases Nat.lt_or_ge i j with h | h
      · have := hR.inc i j hil hjl h
        omega
      · have := hR.inc j i hjl hil (by omega)
        omega

theorem newRow_at (n d : Nat) (l : List Nat) (h : l.length < d) : (newRow n d l)[l.length * 3]? = some (.slice none 0 0) := by
  obtain ⟨m, hm⟩ : ∃ m, d - l.length = m + 1 := ⟨d - l.length - 1, by omega⟩
  rw [newRow, List.getElem?_append_right (by rw [flat_len (n := 3) (fun _ => rfl)]; omega), flat_len (n := 3) (fun _ => rfl), Nat.sub_self, hm]
  rfl
theorem four_blocks (w : World) (a b c e : Obj) : ((((w.alloc a).alloc b).alloc c).alloc e).heap[w.heap.size]? = some a ∧ ((((w.alloc a).alloc b).alloc c).alloc e).heap[w.heap.size + 1]? = some b ∧
    ((((w.alloc a).alloc b).alloc c).alloc e).heap[w.heap.size + 2]? = some c ∧ ((((w.alloc a).alloc b).alloc c).alloc e).heap.size = w.heap.size + 4 ∧ Below w.heap.size w ((((w.alloc a).alloc b).alloc c).alloc e) := by
  have s1 : (w.alloc a).heap.size = w.heap.size + 1 := by simp
  have s2 : ((w.alloc a).alloc b).heap.size = w.heap.size + 2 := by simp
  have s3 : (((w.alloc a).alloc b).alloc c).heap.size = w.heap.size + 3 := by simp
  have n1 := heap_alloc_new w a
  have n2 := heap_alloc_new (w.alloc a) b
  have n3 := heap_alloc_new ((w.alloc a).alloc b) c
  rw [s1] at n2
  rw [s2] at n3
  refine ⟨?_, ?_, ?_, by simp, ?_⟩
  · exact (heap_alloc_old _ _ (by omega)).trans ((heap_alloc_old _ _ (by omega)).trans ((heap_alloc_old _ _ (by omega)).trans n1))
  · exact (heap_alloc_old _ _ (by omega)).trans ((heap_alloc_old _ _ (by omega)).trans n2)
  · exact (heap_alloc_old _ _ (by omega)).trans n3
  · exact ((((Below.refl _ _).alloc (Nat.le_refl _) _).alloc (by omega) _).alloc (by omega) _).alloc (by omega) _
theorem Try.infoByte : (Try.prog.info? 5).map (fun i => (i.zero, i.size, i.bytes)) = some (some (.int .u8 0), 1, 1) := by kernel_rfl

set_option maxRecDepth 3000 in
theorem sh_new (w : World) (d n : Nat) (h1 : 1 ≤ d) (h17 : d ≤ 17) (n1 : 1 ≤ n) (n4 : n ≤ 4096) :
    Calls Try.prog 18 #[.int .i64 d, .int .i64 n] w fun e w' =>
      ∃ F, e = .returned (.tuple #[.pointer (some ⟨F.g, 0, none⟩), .int .i64 0]) ∧ ShAt w' F (freshSh d n) ∧ Below w.heap.size w w' ∧ ∀ b ∈ F.blocks, w.heap.size ≤ b := by
  obtain ⟨i0, hi0, hz0, hz1, hz2⟩ := info_parts Try.infoDisk
  have hmk : ∀ W : World, (Instr.makeSlice 65 (.int .i64 d) (.int .i64 d)).run Try.prog W = .ok (.slice (some ⟨W.heap.size, 0, none⟩) d d) (W.alloc (.cells (newRow n d []).toArray 74)) := by
    intro W
    have h := run_make (P := Try.prog) (w := W) 65 74 i0 (.agg #[.slice none 0 0, .slice none 0 0, .bool false]) Try.underlying65 hi0 hz0 .i64 .i64 (d : Int) (d : Int) (by omega) (Int.le_refl _) (by rw [hz2]; omega) (by omega)
    simp only [Int.toNat_natCast, hz1] at h
    rw [h]
    have e1 : madeCells (Value.agg #[.slice none 0 0, .slice none 0 0, .bool false]).cells (d * 3) = (newRow n d []).toArray := by
      apply Array.toList_inj.1
      have hall : ∀ m : Nat, (madeCells (Value.agg #[.slice none 0 0, .slice none 0 0, .bool false]).cells (m * 3)).toList = newRow n m [] := by
        intro m
        have e0 : (Value.agg #[.slice none 0 0, .slice none 0 0, .bool false]).cells = #[Value.slice none 0 0, .slice none 0 0, .bool false] := rfl
        rw [e0]
        induction m with
        | zero => simp [madeCells, newRow]
        | succ m ih =>
          have e1 : newRow n (m + 1) [] = newRow n m [] ++ [.slice none 0 0, .slice none 0 0, .bool false] := by
            simp only [newRow, List.flatMap_nil, List.nil_append, List.length_nil, Nat.sub_zero, List.replicate_succ', List.flatMap_append, List.flatMap_cons, List.append_nil]
          rw [e1, ← ih]
          simp only [madeCells, Array.toList_map, Array.toList_range]
          rw [show (m + 1) * 3 = m * 3 + 1 + 1 + 1 from by omega, List.range_succ, List.range_succ, List.range_succ]
          simp only [List.map_append, List.map_cons, List.map_nil, List.append_assoc, List.cons_append, List.nil_append]
          have h0 : m * 3 % 3 = 0 := by omega
          have h1 : (m * 3 + 1) % 3 = 1 := by omega
          have h2 : (m * 3 + 1 + 1) % 3 = 2 := by omega
          simp [h0, h1, h2]
      exact hall d
    rw [e1]
  have hmm := @run_makeMap Try.prog
  have hmb := run_make_rd (P := Try.prog) 28 5 Try.underlying28 Try.infoByte .i64 .i64 128 (by omega)
  rw [show ((128 : Nat) : Int) = 128 from rfl] at hmb
  obtain ⟨zs, hzs⟩ : ∃ zs : List UInt8, zs = zeroSec := ⟨_, rfl⟩
  have hzl : zs.length = 128 := by rw [hzs]; simp [zeroSec]
  rw [show List.replicate 128 (0 : UInt8) = zs from hzs.symm] at hmb
  have hms : ∀ W : World, (convert 28 9 (.slice (some ⟨W.heap.size, 0, none⟩) 128 128)).run Try.prog (W.alloc (.cells (bVs zs).toArray 5)) = .ok (.string ⟨zs.toArray⟩) (W.alloc (.cells (bVs zs).toArray 5)) := fun W =>
    run_string_rd (P := Try.prog) _ 28 9 5 Try.underlying28 Try.underlying5 Try.underlying9 _ 128 128 zs (Rd.lit W 5 zs (by rw [hzl]; omega)) hzl
  have hmsw := hms (((w.alloc (.cells (newRow n d []).toArray 74)).alloc (.map #[] 0)).alloc (.cells #[.int .i64 0, .bool false, .slice (some ⟨w.heap.size, 0, none⟩) d d, .int .i64 (n : Int), .int .i64 0, .map (some (w.heap.size + 1))] 70))
  simp only [World.size_alloc] at hmsw
  replace hzs := Lib.hid hzs
  replace hzl := Lib.hid hzl
  obtain ⟨dr, hdr⟩ : ∃ dr : List Value, dr = newRow n d [] := ⟨_, rfl⟩
  rw [← hdr] at hmk hmsw
  replace hdr := Lib.hid hdr
  go_enter Try.func18, Try.ntmps18
  go_wp2_with fail
  obtain ⟨hD0, hM0', hG0, hs0, hB0⟩ := four_blocks w (.cells dr.toArray 74) (.map #[] 0) (.cells #[.int .i64 0, .bool false, .slice (some ⟨w.heap.size, 0, none⟩) d d, .int .i64 (n : Int), .int .i64 0, .map (some (w.heap.size + 1))] 70) (.cells (bVs zs).toArray 5)
  rw [hdr.out] at hD0
  have hM0 : MapP ((((w.alloc (.cells dr.toArray 74)).alloc (.map #[] 0)).alloc (.cells #[.int .i64 0, .bool false, .slice (some ⟨w.heap.size, 0, none⟩) d d, .int .i64 (n : Int), .int .i64 0, .map (some (w.heap.size + 1))] 70)).alloc (.cells (bVs zs).toArray 5)) (w.heap.size + 1) (fun _ _ => 0) :=
    ⟨#[], 0, hM0', MapKept.stamped_empty 0, ⟨by simp, fun x y h => absurd rfl h⟩⟩
  rw [hdr.out] at hM0 hG0 hs0 hB0
  clear hM0'
  rw [hdr.out]
  generalize (((w.alloc (.cells (newRow n d []).toArray 74)).alloc (.map #[] 0)).alloc (.cells #[.int .i64 0, .bool false, .slice (some ⟨w.heap.size, 0, none⟩) d d, .int .i64 (n : Int), .int .i64 0, .map (some (w.heap.size + 1))] 70)).alloc (.cells (bVs zs).toArray 5) = W0 at *
  clear hmk hmm hmb hms hmsw
  rw [show w.heap.size + 1 + 1 = w.heap.size + 2 from rfl]
  generalize hBB : w.heap.size = B at *
  replace hBB := Lib.hid hBB
  go_loopw [36] (fun p wr => ∃ l : List Nat, l.length ≤ d ∧ p = .int .i64 (l.length : Int) ∧ Rows wr n (B + 3) l ∧ wr.heap[B]? = some (.cells (newRow n d l).toArray 74) ∧ wr.heap[B + 2]? = some (.cells #[.int .i64 0, .bool false, .slice (some ⟨B, 0, none⟩) d d, .int .i64 (n : Int), .int .i64 0, .map (some (B + 1))] 70) ∧ MapP wr (B + 1) (fun _ _ => 0) ∧ Below B w wr ∧ B + 4 ≤ wr.heap.size)
    (fun p _ => (d - intOf p).toNat)
  case atStart => exact ⟨[], by simp, by go_num, Rows.nil _ _ _, hD0, hG0, hM0, hB0, by omega⟩
  case round =>
    obtain ⟨l, hld, rfl, hR, hD, hG, hM, hB, hs⟩ := hrel
    by_cases hlt : l.length < d
    · have hc2 : wr.cell? ⟨B + 2, 2, none⟩ = some (.slice (some ⟨B, 0, none⟩) d d) := (cell_of_row wr (B + 2) 2 _ _ _ hG).trans rfl
      have hcd := cell_of_row wr B (l.length * 3) _ _ _ hD
      have hfd := frozen_of_row wr B (l.length * 3) _ _ hD
      have hldi : (l.length : Int) < (d : Int) := by omega
      have hkeep : ∀ W', Turns [B] wr W' → W'.cell? ⟨B + 2, 2, none⟩ = some (.slice (some ⟨B, 0, none⟩) d d) := fun W' hT => (World.cell?_of_block (hT.block (B + 2) (by omega) (by simp))).trans hc2
      have hnew := World.new_ne wr _ hc2
      rw [List.getElem?_toArray, newRow_at n d l hlt] at hcd
      have hBlt : B < wr.heap.size := by omega
      have hrd : RdV ((wr.alloc (.cells #[.string ⟨zs.toArray⟩] 9)).drew) (some ⟨wr.heap.size, 0, none⟩) [strV zs] := (RdV.lit wr 9 [strV zs] (by simp)).drew
      have hrep : Calls Try.prog 36 #[.slice (some ⟨wr.heap.size, 0, none⟩) 1 1, .int .i64 n] ((wr.alloc (.cells #[.string ⟨zs.toArray⟩] 9)).drew) fun e w' =>
          e = .returned (.slice (some ⟨wr.heap.size + 1, 0, none⟩) n n) ∧ w'.ownsRow 0 9 1 (.slice (some ⟨wr.heap.size + 1, 0, none⟩) n n) n (List.replicate n (strV zs)) ∧ Below wr.heap.size wr w' ∧ w'.heap.size = wr.heap.size + 2 := by
        have hsz : ((wr.alloc (.cells #[.string ⟨zs.toArray⟩] 9)).drew).heap.size = wr.heap.size + 1 := by simp
        have h := sl_repeat n ((wr.alloc (.cells #[.string ⟨zs.toArray⟩] 9)).drew) zs ⟨wr.heap.size, 0, none⟩ 1 hrd n1 n4
        rw [hsz] at h
        refine h.mono ?_
        rintro e w' ⟨r1, r2, r3, r4⟩
        refine ⟨r1, r2.mono (Nat.zero_le _), ?_, r4⟩
        have q : Below wr.heap.size wr ((wr.alloc (.cells #[.string ⟨zs.toArray⟩] 9)).drew) := ((Below.refl _ _).alloc (Nat.le_refl _) _).drew
        exact q.trans (r3.mono (Nat.le_succ _))
      replace hrep := Lib.hid hrep
      generalize hk : l.length = k at *
      replace hk := Lib.hid hk
      go_wp2_with fail
      go_region_held3 (fun w' => w'.cell? ⟨B + 2, 2, none⟩ = some (.slice (some ⟨B, 0, none⟩) d d))
        ((refine hkeep _ ?_; repeat (first | exact Turns.refl _ _ | assumption | refine Turns.drew ?_ | refine Turns.alloc ?_ _ | refine Turns.setCell ?_ (by simp) _)))
        ((go_at_call 36
          refine hrep.out.mono ?_
          rintro e w2 ⟨rfl, ho2, hb2, hs2⟩
          have hT2 : Turns [B] wr w2 := Turns.of_below hb2
          have hc9 := (World.cell?_of_block (hb2.block B hBlt) (a := ⟨B, k * 3, none⟩)).trans hcd
          have hf9 := (World.frozen?_of_block (hb2.block B hBlt) (a := ⟨B, k * 3, none⟩)).trans hfd))
      have hkB : ∀ j, j ≠ B → j < wr.heap.size → (w2.setCell ⟨B, k * 3, none⟩ (.slice (some ⟨wr.heap.size + 1, 0, none⟩) n n)).heap[j]? = wr.heap[j]? := fun j h1 h2 => (heap_setCell_other _ _ _ _ h1).trans (hb2.block j h2)
      have hR3 : Rows (w2.setCell ⟨B, k * 3, none⟩ (.slice (some ⟨wr.heap.size + 1, 0, none⟩) n n)) n (B + 3) (l ++ [wr.heap.size + 1]) := by
        refine (hR.below (fun j h1 h2 => hkB j (by omega) h2)).snoc _ ?_ (by omega) (fun j hj => Nat.lt_succ_of_lt (hR.lt j hj))
        rw [← hzs.out]
        refine ownsRow_same ho2 fun j e => heap_setCell_other _ _ _ _ ?_
        have e4 : wr.heap.size + 1 = j := by simpa [Value.ownBlock] using e
        intro e2
        have e3 : j = B := e2
        omega
      have hD3 : (w2.setCell ⟨B, k * 3, none⟩ (.slice (some ⟨wr.heap.size + 1, 0, none⟩) n n)).heap[B]? = some (.cells (newRow n d (l ++ [wr.heap.size + 1])).toArray 74) := by
        have h := heap_setCell_same w2 B (k * 3) _ _ (.slice (some ⟨wr.heap.size + 1, 0, none⟩) n n) ((hb2.block B hBlt).trans hD)
        rw [h, List.setIfInBounds_toArray, ← hk.out, newRow_set n d l _ (by rw [hk.out]; exact hlt)]
      have hG3 := (hkB (B + 2) (by omega) (by omega)).trans hG
      have hM3 := hM.of_block (hkB (B + 1) (by omega) (by omega))
      have hB3 : Below B w (w2.setCell ⟨B, k * 3, none⟩ (.slice (some ⟨wr.heap.size + 1, 0, none⟩) n n)) := (hB.trans (hb2.mono (by omega))).setCell (Nat.le_refl _) _
      have hs3 : B + 4 ≤ (w2.setCell ⟨B, k * 3, none⟩ (.slice (some ⟨wr.heap.size + 1, 0, none⟩) n n)).heap.size := by simp; omega
      have hlen3 : (l ++ [wr.heap.size + 1]).length = k + 1 := by rw [List.length_append, hk.out]; rfl
      generalize l ++ [wr.heap.size + 1] = l3 at *
      generalize w2.setCell ⟨B, k * 3, none⟩ (.slice (some ⟨wr.heap.size + 1, 0, none⟩) n n) = W3 at *
      clear hcd hfd hrd hrep hc9 hf9 hkB hkeep hc2 ho2
      replace hlen3 := Lib.hid hlen3
      go_wp2
      go_roundw
      case rel => exact ⟨l3, by rw [hlen3.out]; omega, by rw [hlen3.out]; go_num, hR3, hD3, hG3, hM3, hB3, hs3⟩
      case measure => simp [intOf]; omega
    · have hkd : l.length = d := by omega
      have hlt' : ¬ ((l.length : Int) < (d : Int)) := by omega
      have hfin := fresh_at h1 h17 n1 n4 hkd hR hG hD hM (by omega) (by omega)
      have hbl : ∀ b ∈ (⟨B + 2, B, d, B + 1, l.map fun x => ⟨x, n, .slice none 0 0⟩⟩ : ShF).blocks, B ≤ b := by
        intro b hb
        rcases ShF.mem_cases hb with rfl | rfl | rfl | ⟨e, he, hb⟩
        · show B ≤ B + 2; omega
        · exact Nat.le_refl _
        · show B ≤ B + 1; omega
        · have hel : e < l.length := by simpa using he
          simp only [List.getElem_map, DiskF.blocks, Value.ownBlock, Option.toList_none, List.mem_singleton] at hb
          have := hR.low e hel
          omega
      replace hkd := Lib.hid hkd
      go_wp2
      go_ret2
      rw [hBB.out]
      exact ⟨_, by simp, hfin, hB, hbl⟩
end Go.Proofs.Ytikfbhepnnbdoaa

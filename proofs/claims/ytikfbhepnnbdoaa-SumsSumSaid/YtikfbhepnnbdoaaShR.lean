/-
  THE WALK over the shelf's Read, where no write of the sector waits.
-/
import Derived.Test.YtikfbhepnnbdoaaShB
import Derived.Test.YtikfbhepnnbdoaaShQ
import Derived.Test.YtikfbhepnnbdoaaMemB
import Derived.Deep.RegionHeld3
import Derived.Laws.ResultCell
namespace Go.Proofs.Ytikfbhepnnbdoaa
set_option linter.all false
open Go.RowKit

theorem three_blocks (w : World) (a b c : Obj) : (((w.alloc a).alloc b).alloc c).heap[w.heap.size]? = some a ∧ (((w.alloc a).alloc b).alloc c).heap[w.heap.size + 1]? = some b ∧
    (((w.alloc a).alloc b).alloc c).heap[w.heap.size + 1 + 1]? = some c ∧ (((w.alloc a).alloc b).alloc c).heap.size = w.heap.size + 3 ∧ Below w.heap.size w (((w.alloc a).alloc b).alloc c) := by
  have s1 : (w.alloc a).heap.size = w.heap.size + 1 := by simp
  have s2 : ((w.alloc a).alloc b).heap.size = w.heap.size + 2 := by simp
  have n1 := heap_alloc_new w a
  have n2 := heap_alloc_new (w.alloc a) b
  have n3 := heap_alloc_new ((w.alloc a).alloc b) c
  rw [s1] at n2
  rw [s2] at n3
  refine ⟨?_, ?_, n3, by simp, ?_⟩
  · exact (heap_alloc_old _ _ (by omega)).trans ((heap_alloc_old _ _ (by omega)).trans n1)
  · exact (heap_alloc_old _ _ (by omega)).trans n2
  · exact (((Below.refl _ _).alloc (Nat.le_refl _) _).alloc (by omega) _).alloc (by omega) _
theorem read_results (tmps : Array Value) (w : World) (g1 g2 : Nat) (v1 v2 : Value) (h6 : tmps.getD 6 undef = .pointer (some ⟨g1, 0, none⟩)) (h7 : tmps.getD 7 undef = .pointer (some ⟨g2, 0, none⟩))
    (c1 : w.cell? ⟨g1, 0, none⟩ = some v1) (c2 : w.cell? ⟨g2, 0, none⟩ = some v2) : (results Try.f24 tmps).run Try.prog w = .ok (.tuple #[v1, v2]) w := by
  have e6 : tmps[6]?.getD undef = .pointer (some ⟨g1, 0, none⟩) := by simpa using h6
  have e7 : tmps[7]?.getD undef = .pointer (some ⟨g2, 0, none⟩) := by simpa using h7
  simp [results, Try.f24, go_sem, c1, c2, e6, e7]

section
variable {w : World} {F : ShF} {s : ShM}

set_option maxRecDepth 3000 in
theorem sh_read_nil (w : World) (d n : Int) : Calls Try.prog 24 #[.pointer none, .int .i64 d, .int .i64 n] w fun e w' => e = .returned (.tuple #[.slice none 0 0, .int .i64 2]) ∧ Below w.heap.size w w' := by
  go_enter Try.func24, Try.ntmps24
  go_wp2
  refine bodyPost_ret (read_results _ _ (w.heap.size + 1) (w.heap.size + 1 + 1) (.slice none 0 0) (.int .i64 2) (by rfl) (by rfl) ?_ ?_) rfl ?_
  · exact cell_of_row _ (w.heap.size + 1) 0 _ _ _ (three_blocks w _ _ _).2.1
  · exact cell_of_row _ (w.heap.size + 1 + 1) 0 _ _ _ (three_blocks w _ _ _).2.2.1
  exact ⟨rfl, (three_blocks w _ _ _).2.2.2.2⟩

theorem has_false_of {s : ShM} {d n : Int} (h : ¬ s.has d n = true) : s.has d n = false := by simpa using h

set_option maxRecDepth 3000 in
theorem sh_read_has (hS : ShAt w F s) (d n : Int) (hh : ¬ s.has d n = true) : Calls Try.prog 24 #[.pointer (some ⟨F.g, 0, none⟩), .int .i64 d, .int .i64 n] w fun e w' =>
    e = .returned (.tuple #[.slice none 0 0, .int .i64 1]) ∧ Below w.heap.size w w' := by
  have hB : Below w.heap.size w (((w.alloc (.cells #[.int .i64 n] 3)).alloc (.cells #[.slice none 0 0] 28)).alloc (.cells #[.int .i64 0] 22)) := (three_blocks w _ _ _).2.2.2.2
  have hhas := sh_has (hS.below hB) d n
  rw [has_false_of hh] at hhas
  have hlt := hS.lt _ F.mem_g
  go_enter Try.func24, Try.ntmps24
  go_wp2_with fail
  refine hhas.mono ?_
  rintro e w' ⟨rfl, rfl⟩
  go_wp2
  refine bodyPost_ret (read_results _ _ (w.heap.size + 1) (w.heap.size + 1 + 1) (.slice none 0 0) (.int .i64 1) (by rfl) (by rfl) ?_ ?_) rfl ?_
  · exact cell_of_row _ (w.heap.size + 1) 0 _ _ _ (three_blocks w _ _ _).2.1
  · exact cell_of_row _ (w.heap.size + 1 + 1) 0 _ _ _ (three_blocks w _ _ _).2.2.1
  exact ⟨rfl, (three_blocks w _ _ _).2.2.2.2⟩

set_option maxRecDepth 3000 in
theorem sh_read_why (hS : ShAt w F s) (d n : Nat) (hh : s.has d n = true) (hw : s.why d ≠ 0) : Calls Try.prog 24 #[.pointer (some ⟨F.g, 0, none⟩), .int .i64 d, .int .i64 n] w fun e w' =>
    e = .returned (.tuple #[.slice none 0 0, .int .i64 (s.why d)]) ∧ ShAt w' F s ∧ Turns F.blocks w w' := by
  have hB : Below w.heap.size w (((w.alloc (.cells #[.int .i64 (n : Int)] 3)).alloc (.cells #[.slice none 0 0] 28)).alloc (.cells #[.int .i64 0] 22)) := (three_blocks w _ _ _).2.2.2.2
  have hSB := hS.below hB
  have hhas := sh_has hSB d n
  rw [hh] at hhas
  obtain ⟨⟨hd0, hd1⟩, hn0, hn1⟩ := has_of hh
  have hd' : d < s.disks.length := by omega
  have hready := sh_ready hSB d hd' false
  simp only [Bool.false_eq_true, and_false, if_false] at hready
  have hlt := hS.lt _ F.mem_g
  obtain ⟨hA0, hA1, hA2, hA3, _⟩ := three_blocks w (.cells #[.int .i64 (n : Int)] 3) (.cells #[.slice none 0 0] 28) (.cells #[.int .i64 0] 22)
  have hb : (s.why d != 0) = true := by simpa using hw
  go_enter Try.func24, Try.ntmps24
  go_wp2_with fail
  refine hhas.mono ?_
  rintro e w' ⟨rfl, rfl⟩
  go_wp2_with fail
  refine hready.mono ?_
  rintro e w1 ⟨rfl, hS1, hT1⟩
  clear hhas hready
  generalize hy : s.why d = y at *
  replace hy := Lib.hid hy
  have hw1 : ∀ k, w.heap.size ≤ k → k < w.heap.size + 3 → w1.heap[k]? = (((w.alloc (.cells #[.int .i64 (n : Int)] 3)).alloc (.cells #[.slice none 0 0] 28)).alloc (.cells #[.int .i64 0] 22)).heap[k]? := fun k h1 h2 =>
    hT1.block k (by omega) (fun hm => by have := hS.lt _ hm; omega)
  have g1 := (hw1 (w.heap.size + 1) (by omega) (by omega)).trans hA1
  have g2 := (hw1 (w.heap.size + 1 + 1) (by omega) (by omega)).trans hA2
  have c1 := cell_of_row _ _ 0 _ _ _ g1
  have c2 := cell_of_row _ _ 0 _ _ _ g2
  have f1 := frozen_of_row _ _ 0 _ _ g1
  have f2 := frozen_of_row _ _ 0 _ _ g2
  have hb1 : w.heap.size + 1 ∉ F.blocks := fun hm => by have := hS.lt _ hm; omega
  have hb2 : w.heap.size + 1 + 1 ∉ F.blocks := fun hm => by have := hS.lt _ hm; omega
  have hT1' : Turns F.blocks w w1 := (Turns.of_below hB).trans hT1
  have hfin : ShAt ((w1.setCell ⟨w.heap.size + 1, 0, none⟩ (.slice none 0 0)).setCell ⟨w.heap.size + 1 + 1, 0, none⟩ (.int .i64 y)) F s := (hS1.far (a := ⟨w.heap.size + 1, 0, none⟩) hb1 _).far (a := ⟨w.heap.size + 1 + 1, 0, none⟩) hb2 _
  have hfT : Turns F.blocks w ((w1.setCell ⟨w.heap.size + 1, 0, none⟩ (.slice none 0 0)).setCell ⟨w.heap.size + 1 + 1, 0, none⟩ (.int .i64 y)) :=
    ⟨hT1'.os, hT1'.tape, hT1'.output, by simpa using hT1'.size, fun k hk hn => (heap_setCell_other _ _ _ _ (by show k ≠ w.heap.size + 1 + 1; omega)).trans ((heap_setCell_other _ _ _ _ (by show k ≠ w.heap.size + 1; omega)).trans (hT1'.block k hk hn))⟩
  clear hA0 hA1 hA2 hw1 g1 g2 hT1
  go_wp2_with fail
  refine bodyPost_ret (read_results _ _ (w.heap.size + 1) (w.heap.size + 1 + 1) (.slice none 0 0) (.int .i64 y) (by rfl) (by rfl) ?_ ?_) rfl ?_
  · rw [World.cell?_setCell_far _ _ _ _ (by show w.heap.size + 1 + 1 ≠ w.heap.size + 1; omega)]
    exact World.cell?_setCell_same' _ _ _ (by rw [c1]; rfl)
  · exact World.cell?_setCell_same' _ _ _ (by rw [World.cell?_setCell_far _ _ _ _ (by show w.heap.size + 1 ≠ w.heap.size + 1 + 1; omega), c2]; rfl)
  exact ⟨by rw [hy.out], hfin, hfT⟩

theorem readR_of {s : ShM} {d n : Nat} (hh : s.has d n = true) (hw : s.why d = 0) : s.readR d n = ((s.disk d).read n, 0, s.tick) := by
  simp [ShM.readR, hh, hw]

theorem read_end {w w2 : World} {F : ShF} {s : ShM} {f : Nat → Nat → Nat} {g : Nat} {bs : Bytes} (hlt : ∀ b ∈ F.blocks, b < w.heap.size) (v : Value) {u1 u2 : Value}
    (c1 : w2.cell? ⟨w.heap.size + 1, 0, none⟩ = some u1) (c2 : w2.cell? ⟨w.heap.size + 1 + 1, 0, none⟩ = some u2) (hr : RowM w2 g bs) (hg : w.heap.size + 3 ≤ g) (hS : ShAtM w2 F s f) (hT : Turns F.blocks w w2) :
    ((w2.setCell ⟨w.heap.size + 1, 0, none⟩ v).setCell ⟨w.heap.size + 1 + 1, 0, none⟩ (.int .i64 0)).cell? ⟨w.heap.size + 1, 0, none⟩ = some v ∧
    ((w2.setCell ⟨w.heap.size + 1, 0, none⟩ v).setCell ⟨w.heap.size + 1 + 1, 0, none⟩ (.int .i64 0)).cell? ⟨w.heap.size + 1 + 1, 0, none⟩ = some (.int .i64 0) ∧
    RowM ((w2.setCell ⟨w.heap.size + 1, 0, none⟩ v).setCell ⟨w.heap.size + 1 + 1, 0, none⟩ (.int .i64 0)) g bs ∧
    ShAtM ((w2.setCell ⟨w.heap.size + 1, 0, none⟩ v).setCell ⟨w.heap.size + 1 + 1, 0, none⟩ (.int .i64 0)) F s f ∧
    Turns F.blocks w ((w2.setCell ⟨w.heap.size + 1, 0, none⟩ v).setCell ⟨w.heap.size + 1 + 1, 0, none⟩ (.int .i64 0)) := by
  have hb1 : w.heap.size + 1 ∉ F.blocks := fun hm => by have := hlt _ hm; omega
  have hb2 : w.heap.size + 1 + 1 ∉ F.blocks := fun hm => by have := hlt _ hm; omega
  refine ⟨?_, ?_, ?_, (hS.far (a := ⟨w.heap.size + 1, 0, none⟩) hb1 _).far (a := ⟨w.heap.size + 1 + 1, 0, none⟩) hb2 _, ?_⟩
  · rw [World.cell?_setCell_far _ _ _ _ (by show w.heap.size + 1 + 1 ≠ w.heap.size + 1; omega)]
    exact World.cell?_setCell_same' _ _ _ (by rw [c1]; rfl)
  · exact World.cell?_setCell_same' _ _ _ (by rw [World.cell?_setCell_far _ _ _ _ (by show w.heap.size + 1 ≠ w.heap.size + 1 + 1; omega), c2]; rfl)
  · exact hr.of_block ((heap_setCell_other _ _ _ _ (by show g ≠ w.heap.size + 1 + 1; omega)).trans (heap_setCell_other _ _ _ _ (by show g ≠ w.heap.size + 1; omega)))
  · exact ⟨hT.os, hT.tape, hT.output, by simpa using hT.size, fun k hk hn => (heap_setCell_other _ _ _ _ (by show k ≠ w.heap.size + 1 + 1; omega)).trans ((heap_setCell_other _ _ _ _ (by show k ≠ w.heap.size + 1; omega)).trans (hT.block k hk hn))⟩

/-- what Read hands back: bytes of its own -/
def ReadRow (w w' : World) (v : Value) (bs : Bytes) : Prop := ∃ g c, v = .slice (some ⟨g, 0, none⟩) bs.length c ∧ (w.heap.size ≤ g ∧ bs.length ≤ c) ∧ RowM w' g bs

set_option maxRecDepth 3000 in
set_option maxHeartbeats 400000 in
theorem sh_read_sure (hS : ShAt w F s) (d n : Nat) (hh : s.has d n = true) (hw : s.why d = 0) (h0 : waitsOf (s.disk d).waits n = 0) (bs : Bytes) (hbs : (s.disk d).sure.getD n [] = bs) :
    Calls Try.prog 24 #[.pointer (some ⟨F.g, 0, none⟩), .int .i64 d, .int .i64 n] w fun e w' =>
    ∃ v, e = .returned (.tuple #[v, .int .i64 0]) ∧ ReadRow w w' v bs ∧ ShAt w' F s.tick ∧ Turns F.blocks w w' := by
  obtain ⟨hA0, hA1, hA2, hA3, hB⟩ := three_blocks w (.cells #[.int .i64 (n : Int)] 3) (.cells #[.slice none 0 0] 28) (.cells #[.int .i64 0] 22)
  have hSB := hS.below hB
  have hhas := sh_has hSB d n
  rw [hh] at hhas
  obtain ⟨⟨hd0, hd1⟩, hn0, hn1⟩ := has_of hh
  have hd' : d < s.disks.length := by omega
  have hready := sh_ready hSB d hd' false
  simp only [Bool.false_eq_true, and_false, if_false, hw] at hready
  have hlt := hS.lt _ F.mem_g
  have hlt1 : ∀ b ∈ F.blocks, b < w.heap.size := hS.lt
  go_enter Try.func24, Try.ntmps24
  go_wp2_with fail
  refine hhas.mono ?_
  rintro e w' ⟨rfl, rfl⟩
  go_wp2_with fail
  refine hready.mono ?_
  rintro e w1 ⟨rfl, hS1, hT1⟩
  clear hhas hready
  have hT1' : Turns F.blocks w w1 := (Turns.of_below hB).trans hT1
  have hw1 : ∀ k, w.heap.size ≤ k → k < w.heap.size + 3 → w1.heap[k]? = (((w.alloc (.cells #[.int .i64 (n : Int)] 3)).alloc (.cells #[.slice none 0 0] 28)).alloc (.cells #[.int .i64 0] 22)).heap[k]? := fun k h1 h2 =>
    hT1.block k (by omega) (fun hm => by have := hlt1 _ hm; omega)
  have g0 := (hw1 (w.heap.size) (by omega) (by omega)).trans hA0
  have g1 := (hw1 (w.heap.size + 1) (by omega) (by omega)).trans hA1
  have g2 := (hw1 (w.heap.size + 1 + 1) (by omega) (by omega)).trans hA2
  have hsz1 : w.heap.size + 3 ≤ w1.heap.size := by rw [← hA3]; exact hT1.size
  clear hA0 hA1 hA2 hA3 hw1 hT1 hB hSB
  have hc4 := hS1.c4
  have hf4 := hS1.frozen 4
  have hS2 := hS1.setCount (wrap64 (s.count + 1))
  have hT2 := hT1'.setCell (a := ⟨F.g, 4, none⟩) F.mem_g (.int .i64 (wrap64 (s.count + 1)))
  have hne : ∀ k, w.heap.size ≤ k → (w1.setCell ⟨F.g, 4, none⟩ (.int .i64 (wrap64 (s.count + 1)))).heap[k]? = w1.heap[k]? := fun k hk => heap_setCell_other _ _ _ _ (by show k ≠ F.g; omega)
  have g0 := (hne _ (by omega)).trans g0
  have g1 := (hne _ (by omega)).trans g1
  have g2 := (hne _ (by omega)).trans g2
  have hsz2 : w.heap.size + 3 ≤ (w1.setCell ⟨F.g, 4, none⟩ (.int .i64 (wrap64 (s.count + 1)))).heap.size := by simpa using hsz1
  have hlt2 := hS1.lt _ F.mem_g
  clear hne
  go_wp2_with fail
  have hs2 : { s with count := wrap64 (s.count + 1) } = s.tick := rfl
  rw [hs2] at hS2
  have hdk : s.tick.disk d = s.disk d := rfl
  have hdl : s.tick.disks = s.disks := rfl
  have hsec : s.tick.sectors = s.sectors := rfl
  have hsn : seenF s.tick = seenF s := rfl
  generalize w1.setCell ⟨F.g, 4, none⟩ (.int .i64 (wrap64 (s.count + 1))) = W at *
  have h4096 := hS.ok.sectors4096
  have h17 := hS.ok.disks17
  have hd7 : smallN d := by unfold smallN; omega
  have hn7 : smallN n := by unfold smallN; omega
  have hlook := hS2.drew.seen.look Try.pairMap d n hd7 hn7
  have hseen : seenF s d n = waitsOf (s.disk d).waits n := by simp only [seenF, if_pos hd']
  rw [hseen, h0] at hlook
  unfold pairV at hlook
  simp only [Int.natCast_zero] at hlook
  have hc5 := hS2.c5
  have k0 := cell_of_row _ _ 0 _ _ _ g0
  have k1 := cell_of_row _ _ 0 _ _ _ g1
  have k2 := cell_of_row _ _ 0 _ _ _ g2
  have f1 := frozen_of_row _ _ 0 _ _ g1
  have f2 := frozen_of_row _ _ 0 _ _ g2
  simp only [List.getElem?_toArray, List.getElem?_cons_zero] at k0 k1 k2
  clear g0 g1 g2
  have q5 : W.drew.cell? ⟨F.g, 5, none⟩ = some (.map (some F.gm)) := hc5
  have q0 : W.drew.cell? ⟨w.heap.size, 0, none⟩ = some (.int .i64 (n : Int)) := k0
  replace hseen := Lib.hid hseen
  replace hsn := Lib.hid hsn
  replace hdk := Lib.hid hdk
  replace hdl := Lib.hid hdl
  replace hsec := Lib.hid hsec
  replace hs2 := Lib.hid hs2
  replace h0 := Lib.hid h0
  replace hw := Lib.hid hw
  go_region_held3 (fun w' => w'.cell? ⟨F.g, 5, none⟩ = some (.map (some F.gm)) ∧ w'.cell? ⟨w.heap.size, 0, none⟩ = some (.int .i64 (n : Int)) ∧ (Instr.lookup 66 (.map (some F.gm)) (.agg #[.int .i64 (d : Int), .int .i64 (n : Int)]) false).run Try.prog w' = .ok (.int .i64 0) w')
    ((refine ⟨?_, ?_, ?_⟩ <;> assumption)) (fail)
  go_wp2_with fail
  clear hlook
  have hS3 : ShAtM W.drew.drew F s.tick (seenF s) := hS2.drew.drew
  have hdt : d < s.tick.disks.length := by rw [hdl.out]; exact hd'
  have hsl := (hS.okd hd').1
  have hc2 := hS3.c2
  rw [hdl.out] at hc2
  have he0 := hS3.e0 hdt
  rw [hdk.out, hsl] at he0
  have hsu := hS3.esure (n := n) hdt (by rw [hdk.out, hsl]; omega)
  rw [hdk.out, hbs] at hsu
  have hlen : bs.length ≤ 9223372036854775807 := by
    have hx := (hS.okd hd').2.1
    have : bs.length = 128 := by
      rw [← hbs, List.getD_eq_getElem?_getD, List.getElem?_eq_getElem (by rw [hsl]; omega), Option.getD_some]
      exact hx _ (List.getElem_mem _)
    omega
  unfold strV at hsu
  obtain ⟨cb, w2, hcv, hrm, hb2, hs2', hcap⟩ := ex_bytes (P := Try.prog) W.drew.drew 9 28 5 Try.underlying9 Try.underlying28 Try.underlying5 bs
  have hgn := hS3.gs_ne hdt
  have hgm := F.mem_gs (hS3.fd hdt)
  generalize (F.at_ d).gs = gs at *
  generalize (F.at_ d).cs = cs at *
  have hgslt := hlt1 _ hgm
  have hgdlt := hlt1 _ F.mem_gd
  have hT3 : Turns F.blocks w W.drew.drew := hT2.drew.drew
  have e0 : W.drew.drew.cell? ⟨w.heap.size, 0, none⟩ = some (.int .i64 (n : Int)) := k0
  have e1 : W.drew.drew.cell? ⟨w.heap.size + 1, 0, none⟩ = some (.slice none 0 0) := k1
  have e2 : W.drew.drew.cell? ⟨w.heap.size + 1 + 1, 0, none⟩ = some (.int .i64 0) := k2
  have f1' : W.drew.drew.frozen? ⟨w.heap.size + 1, 0, none⟩ = false := f1
  have f2' : W.drew.drew.frozen? ⟨w.heap.size + 1 + 1, 0, none⟩ = false := f2
  have hszX : w.heap.size + 3 ≤ W.drew.drew.heap.size := hsz2
  have hkeep : ∀ W', Turns [w.heap.size + 1, w.heap.size + 1 + 1] W.drew.drew W' → W'.cell? ⟨F.g, 2, none⟩ = some (.slice (some ⟨F.gd, 0, none⟩) s.disks.length F.cd) ∧ W'.cell? ⟨F.gd, d * 3, none⟩ = some (.slice (some ⟨gs, 0, none⟩) s.sectors cs) ∧ W'.cell? ⟨w.heap.size, 0, none⟩ = some (.int .i64 (n : Int)) ∧ W'.cell? ⟨gs, n, none⟩ = some (.string ⟨bs.toArray⟩) := by
    intro W' hT
    have hb : ∀ c, c ≤ w.heap.size → W'.heap[c]? = W.drew.drew.heap[c]? := fun c hc => hT.block c (by omega) (by simp; omega)
    exact ⟨(World.cell?_of_block (hb _ (by show F.g ≤ _; omega))).trans hc2, (World.cell?_of_block (hb _ (by show F.gd ≤ _; omega))).trans he0, (World.cell?_of_block (hb _ (Nat.le_refl _))).trans e0, (World.cell?_of_block (hb _ (by show gs ≤ _; omega))).trans hsu⟩
  have hT2b : Turns [w.heap.size + 1, w.heap.size + 1 + 1] W.drew.drew w2 := Turns.of_below hb2
  have c1 := (World.cell?_of_block (hb2.block (w.heap.size + 1) (by omega)) (a := ⟨w.heap.size + 1, 0, none⟩)).trans e1
  have c2 := (World.cell?_of_block (hb2.block (w.heap.size + 1 + 1) (by omega)) (a := ⟨w.heap.size + 1 + 1, 0, none⟩)).trans e2
  have g1 := (World.frozen?_of_block (hb2.block (w.heap.size + 1) (by omega)) (a := ⟨w.heap.size + 1, 0, none⟩)).trans f1'
  have g2 := (World.frozen?_of_block (hb2.block (w.heap.size + 1 + 1) (by omega)) (a := ⟨w.heap.size + 1 + 1, 0, none⟩)).trans f2'
  have hS4 := hS3.below hb2
  have hT4 : Turns F.blocks w w2 := hT3.trans (Turns.of_below hb2)
  have hnlt : (n : Int) < (s.sectors : Int) := hn1
  have hXs : W.drew.drew.heap.size = W.heap.size := rfl
  rw [hXs] at hcv hrm hs2' hszX
  clear e0 e1 e2 f1' f2' k0 k1 k2 f1 f2 hsu he0 hc2 hS3 hT3
  obtain ⟨y1, y2, y3, y4⟩ := hkeep W.drew.drew (Turns.refl _ _)
  replace y1 : W.cell? ⟨F.g, 2, none⟩ = some (.slice (some ⟨F.gd, 0, none⟩) s.disks.length F.cd) := y1
  replace y2 : W.cell? ⟨F.gd, d * 3, none⟩ = some (.slice (some ⟨gs, 0, none⟩) s.sectors cs) := y2
  replace y3 : W.cell? ⟨w.heap.size, 0, none⟩ = some (.int .i64 (n : Int)) := y3
  replace y4 : W.cell? ⟨gs, n, none⟩ = some (.string ⟨bs.toArray⟩) := y4
  clear hkeep
  go_region
  obtain ⟨z1, z2, z3, z4, z5⟩ := read_end hlt1 (.slice (some ⟨W.heap.size, 0, none⟩) bs.length cb) c1 c2 hrm (by omega) hS4 hT4
  clear hcv
  go_wp2_with fail
  refine bodyPost_ret (read_results _ _ (w.heap.size + 1) (w.heap.size + 1 + 1) (.slice (some ⟨W.heap.size, 0, none⟩) bs.length cb) (.int .i64 0) (by rfl) (by rfl) z1 z2) rfl ?_
  refine ⟨_, rfl, ⟨_, _, rfl, ⟨by omega, hcap⟩, z3⟩, ?_, z5⟩
  unfold ShAt
  rw [hsn.out]
  exact z4
end
end Go.Proofs.Ytikfbhepnnbdoaa

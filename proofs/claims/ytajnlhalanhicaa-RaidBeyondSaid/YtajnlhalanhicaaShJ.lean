/-
 Several texts of this work in one (merge.py): ShR, ShT, ShU, ShV, ShW, ShS, ShX, ShTwo, ShLen, ShSureM.
-/
import Derived.Test.YtajnlhalanhicaaShI
import Derived.Test.YtajnlhalanhicaaBase
import Derived.Deep.RegionHeld3
import Derived.Laws.ResultCell
import Derived.RangeFuncNested
import Derived.RangeFuncBound
import Derived.RangeFuncCalls
import Derived.RangeFuncLeaves
import Derived.Shelf.Abstract
import Derived.Shelf.RegionOpen
import Derived.WalkKit
import Derived.OwnWalkIn
import Derived.TacticsInMore
import Derived.LoopNIn
import Derived.LoopIn
namespace Go.Proofs.Ytajnlhalanhicaa
set_option linter.all false
set_option maxRecDepth 20000
section
open Go.RowKit
theorem three_blocks (w : World) (a b c : Obj) : (((w.alloc a).alloc b).alloc c).heap[w.heap.size]? = some a ∧ (((w.alloc a).alloc b).alloc c).heap[w.heap.size + 1]? = some b ∧
  (((w.alloc a).alloc b).alloc c).heap[w.heap.size + 1 + 1]? = some c ∧ (((w.alloc a).alloc b).alloc c).heap.size = w.heap.size + 3 ∧ Below w.heap.size w (((w.alloc a).alloc b).alloc c) := by
 have s1 : (w.alloc a).heap.size = w.heap.size + 1 := by simp
 have s2 : ((w.alloc a).alloc b).heap.size = w.heap.size + 2 := by simp
 have n1 := heap_alloc_new w a
 have n2 := heap_alloc_new (w.alloc a) b
 have n3 := heap_alloc_new ((w.alloc a).alloc b) c
 rw [s1] at n2
 rw [s2] at n3
 refine ⟨?_, ?_, n3, by simp, ?_⟩
 ·exact (heap_alloc_old _ _ (by omega)).trans ((heap_alloc_old _ _ (by omega)).trans n1)
 ·exact (heap_alloc_old _ _ (by omega)).trans n2
 ·exact (((Below.refl _ _).alloc (Nat.le_refl _) _).alloc (by omega) _).alloc (by omega) _
theorem read_results (tmps : Array Value) (w : World) (g1 g2 : Nat) (v1 v2 : Value) (h6 : tmps.getD 6 undef = .pointer (some ⟨g1, 0, none⟩)) (h7 : tmps.getD 7 undef = .pointer (some ⟨g2, 0, none⟩))
  (c1 : w.cell? ⟨g1, 0, none⟩ = some v1) (c2 : w.cell? ⟨g2, 0, none⟩ = some v2) : (results Try.f85 tmps).run Try.prog w = .ok (.tuple #[v1, v2]) w := by
 have e6 : tmps[6]?.getD undef = .pointer (some ⟨g1, 0, none⟩) := by simpa using h6
 have e7 : tmps[7]?.getD undef = .pointer (some ⟨g2, 0, none⟩) := by simpa using h7
 simp [results, Try.f85, go_sem, c1, c2, e6, e7]
section
variable {w : World} {F : ShF} {s : ShM}
theorem has_false_of {s : ShM} {d n : Int} (h : ¬ s.has d n = true) : s.has d n = false := by simpa using h
set_option maxRecDepth 3000 in
theorem sh_read_has (hS : ShAt w F s) (d n : Int) (hh : ¬ s.has d n = true) : Calls Try.prog 85 #[.pointer (some ⟨F.g, 0, none⟩), .int .i64 d, .int .i64 n] w fun e w' =>
  e = .returned (.tuple #[.slice none 0 0, .int .i64 1]) ∧ Below w.heap.size w w' := by
 have hB : Below w.heap.size w (((w.alloc (.cells #[.int .i64 n] 3)).alloc (.cells #[.slice none 0 0] 32)).alloc (.cells #[.int .i64 0] 39)) := (three_blocks w _ _ _).2.2.2.2
 have hhas := sh_has (hS.below hB) d n
 rw [has_false_of hh] at hhas
 have hlt := hS.lt _ F.mem_g
 go_enter Try.func85, Try.ntmps85
 go_wp2_with fail
 refine hhas.mono ?_
 rintro e w' ⟨rfl, rfl⟩
 go_wp2
 refine bodyPost_ret (read_results _ _ (w.heap.size + 1) (w.heap.size + 1 + 1) (.slice none 0 0) (.int .i64 1) (by rfl) (by rfl) ?_ ?_) rfl ?_
 ·exact cell_of_row _ (w.heap.size + 1) 0 _ _ _ (three_blocks w _ _ _).2.1
 ·exact cell_of_row _ (w.heap.size + 1 + 1) 0 _ _ _ (three_blocks w _ _ _).2.2.1
 exact ⟨rfl, (three_blocks w _ _ _).2.2.2.2⟩
set_option maxRecDepth 3000 in
theorem sh_read_why (hS : ShAt w F s) (d n : Nat) (hh : s.has d n = true) (hw : s.why d ≠ 0) : Calls Try.prog 85 #[.pointer (some ⟨F.g, 0, none⟩), .int .i64 d, .int .i64 n] w fun e w' =>
  e = .returned (.tuple #[.slice none 0 0, .int .i64 (s.why d)]) ∧ ShAt w' F s ∧ Turns F.blocks w w' := by
 have hB : Below w.heap.size w (((w.alloc (.cells #[.int .i64 (n : Int)] 3)).alloc (.cells #[.slice none 0 0] 32)).alloc (.cells #[.int .i64 0] 39)) := (three_blocks w _ _ _).2.2.2.2
 have hSB := hS.below hB
 have hhas := sh_has hSB d n
 rw [hh] at hhas
 obtain ⟨⟨hd0, hd1⟩, hn0, hn1⟩ := has_of hh
 have hd' : d < s.disks.length := by omega
 have hready := sh_ready hSB d hd' false
 simp only [Bool.false_eq_true, and_false, if_false] at hready
 have hlt := hS.lt _ F.mem_g
 obtain ⟨hA0, hA1, hA2, hA3, _⟩ := three_blocks w (.cells #[.int .i64 (n : Int)] 3) (.cells #[.slice none 0 0] 32) (.cells #[.int .i64 0] 39)
 have hb : (s.why d != 0) = true := by simpa using hw
 go_enter Try.func85, Try.ntmps85
 go_wp2_with fail
 refine hhas.mono ?_
 rintro e w' ⟨rfl, rfl⟩
 go_wp2_with fail
 refine hready.mono ?_
 rintro e w1 ⟨rfl, hS1, hT1⟩
 clear hhas hready
 generalize hy : s.why d = y at *
 replace hy := Lib.hid hy
 have hw1 : ∀ k, w.heap.size ≤ k → k < w.heap.size + 3 → w1.heap[k]? = (((w.alloc (.cells #[.int .i64 (n : Int)] 3)).alloc (.cells #[.slice none 0 0] 32)).alloc (.cells #[.int .i64 0] 39)).heap[k]? := fun k h1 h2 =>
  hT1.block k (by omega) (fun hm => by have := hS.lt _ hm; omega)
 have g1 := (hw1 (w.heap.size + 1) (by omega) (by omega)).trans hA1
 have g2 := (hw1 (w.heap.size + 1 + 1) (by omega) (by omega)).trans hA2
 have c1 := cell_of_row _ _ 0 _ _ _ g1
 have c2 := cell_of_row _ _ 0 _ _ _ g2
 have f1 := frozen_of_row _ _ 0 _ _ g1
 have f2 := frozen_of_row _ _ 0 _ _ g2
 have hb1 : w.heap.size + 1 ∉ F.blocks := fun hm => by have := hS.lt _ hm; omega
 have hb2 : w.heap.size + 1 + 1 ∉ F.blocks := fun hm => by have := hS.lt _ hm; omega
 have hT1' : Turns F.blocks w w1 := (Turns.of_below hB).trans hT1
 have hfin : ShAt ((w1.setCell ⟨w.heap.size + 1, 0, none⟩ (.slice none 0 0)).setCell ⟨w.heap.size + 1 + 1, 0, none⟩ (.int .i64 y)) F s := (hS1.far (a := ⟨w.heap.size + 1, 0, none⟩) hb1 _).far (a := ⟨w.heap.size + 1 + 1, 0, none⟩) hb2 _
 have hfT : Turns F.blocks w ((w1.setCell ⟨w.heap.size + 1, 0, none⟩ (.slice none 0 0)).setCell ⟨w.heap.size + 1 + 1, 0, none⟩ (.int .i64 y)) :=
  ⟨hT1'.os, hT1'.tape, hT1'.output, by simpa using hT1'.size, fun k hk hn => (heap_setCell_other _ _ _ _ (by show k ≠ w.heap.size + 1 + 1; omega)).trans ((heap_setCell_other _ _ _ _ (by show k ≠ w.heap.size + 1; omega)).trans (hT1'.block k hk hn))⟩
 clear hA0 hA1 hA2 hw1 g1 g2 hT1
 go_wp2_with fail
 refine bodyPost_ret (read_results _ _ (w.heap.size + 1) (w.heap.size + 1 + 1) (.slice none 0 0) (.int .i64 y) (by rfl) (by rfl) ?_ ?_) rfl ?_
 ·rw [World.cell?_setCell_far _ _ _ _ (by show w.heap.size + 1 + 1 ≠ w.heap.size + 1; omega)]
  exact World.cell?_setCell_same' _ _ _ (by rw [c1]; rfl)
 ·exact World.cell?_setCell_same' _ _ _ (by rw [World.cell?_setCell_far _ _ _ _ (by show w.heap.size + 1 ≠ w.heap.size + 1 + 1; omega), c2]; rfl)
 exact ⟨by rw [hy.out], hfin, hfT⟩
theorem readR_of {s : ShM} {d n : Nat} (hh : s.has d n = true) (hw : s.why d = 0) : s.readR d n = ((s.disk d).read n, 0, s.tick) := by
 simp [ShM.readR, hh, hw]
theorem read_end {w w2 : World} {F : ShF} {s : ShM} {f : Nat → Nat → Nat} {g : Nat} {bs : Bytes} (hlt : ∀ b ∈ F.blocks, b < w.heap.size) (v : Value) {u1 u2 : Value}
  (c1 : w2.cell? ⟨w.heap.size + 1, 0, none⟩ = some u1) (c2 : w2.cell? ⟨w.heap.size + 1 + 1, 0, none⟩ = some u2) (hr : RowM w2 g bs) (hg : w.heap.size + 3 ≤ g) (hS : ShAtM w2 F s f) (hT : Turns F.blocks w w2) :
  ((w2.setCell ⟨w.heap.size + 1, 0, none⟩ v).setCell ⟨w.heap.size + 1 + 1, 0, none⟩ (.int .i64 0)).cell? ⟨w.heap.size + 1, 0, none⟩ = some v ∧
  ((w2.setCell ⟨w.heap.size + 1, 0, none⟩ v).setCell ⟨w.heap.size + 1 + 1, 0, none⟩ (.int .i64 0)).cell? ⟨w.heap.size + 1 + 1, 0, none⟩ = some (.int .i64 0) ∧
  RowM ((w2.setCell ⟨w.heap.size + 1, 0, none⟩ v).setCell ⟨w.heap.size + 1 + 1, 0, none⟩ (.int .i64 0)) g bs ∧
  ShAtM ((w2.setCell ⟨w.heap.size + 1, 0, none⟩ v).setCell ⟨w.heap.size + 1 + 1, 0, none⟩ (.int .i64 0)) F s f ∧
  Turns F.blocks w ((w2.setCell ⟨w.heap.size + 1, 0, none⟩ v).setCell ⟨w.heap.size + 1 + 1, 0, none⟩ (.int .i64 0)) := by
 have hb1 : w.heap.size + 1 ∉ F.blocks := fun hm => by have := hlt _ hm; omega
 have hb2 : w.heap.size + 1 + 1 ∉ F.blocks := fun hm => by have := hlt _ hm; omega
 refine ⟨?_, ?_, ?_, (hS.far (a := ⟨w.heap.size + 1, 0, none⟩) hb1 _).far (a := ⟨w.heap.size + 1 + 1, 0, none⟩) hb2 _, ?_⟩
 ·rw [World.cell?_setCell_far _ _ _ _ (by show w.heap.size + 1 + 1 ≠ w.heap.size + 1; omega)]
  exact World.cell?_setCell_same' _ _ _ (by rw [c1]; rfl)
 ·exact World.cell?_setCell_same' _ _ _ (by rw [World.cell?_setCell_far _ _ _ _ (by show w.heap.size + 1 ≠ w.heap.size + 1 + 1; omega), c2]; rfl)
 ·exact hr.of_block ((heap_setCell_other _ _ _ _ (by show g ≠ w.heap.size + 1 + 1; omega)).trans (heap_setCell_other _ _ _ _ (by show g ≠ w.heap.size + 1; omega)))
 ·exact ⟨hT.os, hT.tape, hT.output, by simpa using hT.size, fun k hk hn => (heap_setCell_other _ _ _ _ (by show k ≠ w.heap.size + 1 + 1; omega)).trans ((heap_setCell_other _ _ _ _ (by show k ≠ w.heap.size + 1; omega)).trans (hT.block k hk hn))⟩
def ReadRow (w w' : World) (v : Value) (bs : Bytes) : Prop := ∃ g c, v = .slice (some ⟨g, 0, none⟩) bs.length c ∧ (w.heap.size ≤ g ∧ bs.length ≤ c) ∧ RowM w' g bs
set_option maxRecDepth 3000 in
set_option maxHeartbeats 400000 in
theorem sh_read_sure (hS : ShAt w F s) (d n : Nat) (hh : s.has d n = true) (hw : s.why d = 0) (h0 : waitsOf (s.disk d).waits n = 0) (bs : Bytes) (hbs : (s.disk d).sure.getD n [] = bs) :
  Calls Try.prog 85 #[.pointer (some ⟨F.g, 0, none⟩), .int .i64 d, .int .i64 n] w fun e w' =>
  ∃ v, e = .returned (.tuple #[v, .int .i64 0]) ∧ ReadRow w w' v bs ∧ ShAt w' F s.tick ∧ Turns F.blocks w w' := by
 obtain ⟨hA0, hA1, hA2, hA3, hB⟩ := three_blocks w (.cells #[.int .i64 (n : Int)] 3) (.cells #[.slice none 0 0] 32) (.cells #[.int .i64 0] 39)
 have hSB := hS.below hB
 have hhas := sh_has hSB d n
 rw [hh] at hhas
 obtain ⟨⟨hd0, hd1⟩, hn0, hn1⟩ := has_of hh
 have hd' : d < s.disks.length := by omega
 have hready := sh_ready hSB d hd' false
 simp only [Bool.false_eq_true, and_false, if_false, hw] at hready
 have hlt := hS.lt _ F.mem_g
 have hlt1 : ∀ b ∈ F.blocks, b < w.heap.size := hS.lt
 go_enter Try.func85, Try.ntmps85
 go_wp2_with fail
 refine hhas.mono ?_
 rintro e w' ⟨rfl, rfl⟩
 go_wp2_with fail
 refine hready.mono ?_
 rintro e w1 ⟨rfl, hS1, hT1⟩
 clear hhas hready
 have hT1' : Turns F.blocks w w1 := (Turns.of_below hB).trans hT1
 have hw1 : ∀ k, w.heap.size ≤ k → k < w.heap.size + 3 → w1.heap[k]? = (((w.alloc (.cells #[.int .i64 (n : Int)] 3)).alloc (.cells #[.slice none 0 0] 32)).alloc (.cells #[.int .i64 0] 39)).heap[k]? := fun k h1 h2 =>
  hT1.block k (by omega) (fun hm => by have := hlt1 _ hm; omega)
 have g0 := (hw1 (w.heap.size) (by omega) (by omega)).trans hA0
 have g1 := (hw1 (w.heap.size + 1) (by omega) (by omega)).trans hA1
 have g2 := (hw1 (w.heap.size + 1 + 1) (by omega) (by omega)).trans hA2
 have hsz1 : w.heap.size + 3 ≤ w1.heap.size := by rw [← hA3]; exact hT1.size
 clear hA0 hA1 hA2 hA3 hw1 hT1 hB hSB
 have hc4 := hS1.c4
 have hf4 := hS1.frozen 4
 have hS2 := hS1.setCount (wrap64 (s.count + 1))
 have hT2 := hT1'.setCell (a := ⟨F.g, 4, none⟩) F.mem_g (.int .i64 (wrap64 (s.count + 1)))
 have hne : ∀ k, w.heap.size ≤ k → (w1.setCell ⟨F.g, 4, none⟩ (.int .i64 (wrap64 (s.count + 1)))).heap[k]? = w1.heap[k]? := fun k hk => heap_setCell_other _ _ _ _ (by show k ≠ F.g; omega)
 have g0 := (hne _ (by omega)).trans g0
 have g1 := (hne _ (by omega)).trans g1
 have g2 := (hne _ (by omega)).trans g2
 have hsz2 : w.heap.size + 3 ≤ (w1.setCell ⟨F.g, 4, none⟩ (.int .i64 (wrap64 (s.count + 1)))).heap.size := by simpa using hsz1
 have hlt2 := hS1.lt _ F.mem_g
 clear hne
 go_wp2_with fail
 have hs2 : { s with count := wrap64 (s.count + 1) } = s.tick := rfl
 rw [hs2] at hS2
 have hdk : s.tick.disk d = s.disk d := rfl
 have hdl : s.tick.disks = s.disks := rfl
 have hsec : s.tick.sectors = s.sectors := rfl
 have hsn : seenF s.tick = seenF s := rfl
 generalize w1.setCell ⟨F.g, 4, none⟩ (.int .i64 (wrap64 (s.count + 1))) = W at *
 have h4096 := hS.ok.sectors4096
 have h17 := hS.ok.disks17
 have hd7 : smallN d := by unfold smallN; omega
 have hn7 : smallN n := by unfold smallN; omega
 have hlook := hS2.drew.seen.look Try.pairMap d n hd7 hn7
 have hseen : seenF s d n = waitsOf (s.disk d).waits n := by simp only [seenF, if_pos hd']
 rw [hseen, h0] at hlook
 unfold pairV at hlook
 simp only [Int.natCast_zero] at hlook
 have hc5 := hS2.c5
 have k0 := cell_of_row _ _ 0 _ _ _ g0
 have k1 := cell_of_row _ _ 0 _ _ _ g1
 have k2 := cell_of_row _ _ 0 _ _ _ g2
 have f1 := frozen_of_row _ _ 0 _ _ g1
 have f2 := frozen_of_row _ _ 0 _ _ g2
 simp only [List.getElem?_toArray, List.getElem?_cons_zero] at k0 k1 k2
 clear g0 g1 g2
 have q5 : W.drew.cell? ⟨F.g, 5, none⟩ = some (.map (some F.gm)) := hc5
 have q0 : W.drew.cell? ⟨w.heap.size, 0, none⟩ = some (.int .i64 (n : Int)) := k0
 replace hseen := Lib.hid hseen
 replace hsn := Lib.hid hsn
 replace hdk := Lib.hid hdk
 replace hdl := Lib.hid hdl
 replace hsec := Lib.hid hsec
 replace hs2 := Lib.hid hs2
 replace h0 := Lib.hid h0
 replace hw := Lib.hid hw
 go_region_held3 (fun w' => w'.cell? ⟨F.g, 5, none⟩ = some (.map (some F.gm)) ∧ w'.cell? ⟨w.heap.size, 0, none⟩ = some (.int .i64 (n : Int)) ∧ (Instr.lookup 76 (.map (some F.gm)) (.agg #[.int .i64 (d : Int), .int .i64 (n : Int)]) false).run Try.prog w' = .ok (.int .i64 0) w')
  ((refine ⟨?_, ?_, ?_⟩ <;> assumption)) (fail)
 go_wp2_with fail
 clear hlook
 have hS3 : ShAtM W.drew.drew F s.tick (seenF s) := hS2.drew.drew
 have hdt : d < s.tick.disks.length := by rw [hdl.out]; exact hd'
 have hsl := (hS.okd hd').1
 have hc2 := hS3.c2
 rw [hdl.out] at hc2
 have he0 := hS3.e0 hdt
 rw [hdk.out, hsl] at he0
 have hsu := hS3.esure (n := n) hdt (by rw [hdk.out, hsl]; omega)
 rw [hdk.out, hbs] at hsu
 have hlen : bs.length ≤ 9223372036854775807 := by
  have hx := (hS.okd hd').2.1
  have : bs.length = 128 := by
   rw [← hbs, List.getD_eq_getElem?_getD, List.getElem?_eq_getElem (by rw [hsl]; omega), Option.getD_some]
   exact hx _ (List.getElem_mem _)
  omega
 unfold strV at hsu
 obtain ⟨cb, w2, hcv, hrm, hb2, hs2', hcap⟩ := ex_bytes (P := Try.prog) W.drew.drew 9 32 5 Try.underlying9 Try.underlying32 Try.underlying5 bs
 have hgn := hS3.gs_ne hdt
 have hgm := F.mem_gs (hS3.fd hdt)
 generalize (F.at_ d).gs = gs at *
 generalize (F.at_ d).cs = cs at *
 have hgslt := hlt1 _ hgm
 have hgdlt := hlt1 _ F.mem_gd
 have hT3 : Turns F.blocks w W.drew.drew := hT2.drew.drew
 have e0 : W.drew.drew.cell? ⟨w.heap.size, 0, none⟩ = some (.int .i64 (n : Int)) := k0
 have e1 : W.drew.drew.cell? ⟨w.heap.size + 1, 0, none⟩ = some (.slice none 0 0) := k1
 have e2 : W.drew.drew.cell? ⟨w.heap.size + 1 + 1, 0, none⟩ = some (.int .i64 0) := k2
 have f1' : W.drew.drew.frozen? ⟨w.heap.size + 1, 0, none⟩ = false := f1
 have f2' : W.drew.drew.frozen? ⟨w.heap.size + 1 + 1, 0, none⟩ = false := f2
 have hszX : w.heap.size + 3 ≤ W.drew.drew.heap.size := hsz2
 have hkeep : ∀ W', Turns [w.heap.size + 1, w.heap.size + 1 + 1] W.drew.drew W' → W'.cell? ⟨F.g, 2, none⟩ = some (.slice (some ⟨F.gd, 0, none⟩) s.disks.length F.cd) ∧ W'.cell? ⟨F.gd, d * 3, none⟩ = some (.slice (some ⟨gs, 0, none⟩) s.sectors cs) ∧ W'.cell? ⟨w.heap.size, 0, none⟩ = some (.int .i64 (n : Int)) ∧ W'.cell? ⟨gs, n, none⟩ = some (.string ⟨bs.toArray⟩) := by
  intro W' hT
  have hb : ∀ c, c ≤ w.heap.size → W'.heap[c]? = W.drew.drew.heap[c]? := fun c hc => hT.block c (by omega) (by simp; omega)
  exact ⟨(World.cell?_of_block (hb _ (by show F.g ≤ _; omega))).trans hc2, (World.cell?_of_block (hb _ (by show F.gd ≤ _; omega))).trans he0, (World.cell?_of_block (hb _ (Nat.le_refl _))).trans e0, (World.cell?_of_block (hb _ (by show gs ≤ _; omega))).trans hsu⟩
 have hT2b : Turns [w.heap.size + 1, w.heap.size + 1 + 1] W.drew.drew w2 := Turns.of_below hb2
 have c1 := (World.cell?_of_block (hb2.block (w.heap.size + 1) (by omega)) (a := ⟨w.heap.size + 1, 0, none⟩)).trans e1
 have c2 := (World.cell?_of_block (hb2.block (w.heap.size + 1 + 1) (by omega)) (a := ⟨w.heap.size + 1 + 1, 0, none⟩)).trans e2
 have g1 := (World.frozen?_of_block (hb2.block (w.heap.size + 1) (by omega)) (a := ⟨w.heap.size + 1, 0, none⟩)).trans f1'
 have g2 := (World.frozen?_of_block (hb2.block (w.heap.size + 1 + 1) (by omega)) (a := ⟨w.heap.size + 1 + 1, 0, none⟩)).trans f2'
 have hS4 := hS3.below hb2
 have hT4 : Turns F.blocks w w2 := hT3.trans (Turns.of_below hb2)
 have hnlt : (n : Int) < (s.sectors : Int) := hn1
 have hXs : W.drew.drew.heap.size = W.heap.size := rfl
 rw [hXs] at hcv hrm hs2' hszX
 clear e0 e1 e2 f1' f2' k0 k1 k2 f1 f2 hsu he0 hc2 hS3 hT3
 obtain ⟨y1, y2, y3, y4⟩ := hkeep W.drew.drew (Turns.refl _ _)
 replace y1 : W.cell? ⟨F.g, 2, none⟩ = some (.slice (some ⟨F.gd, 0, none⟩) s.disks.length F.cd) := y1
 replace y2 : W.cell? ⟨F.gd, d * 3, none⟩ = some (.slice (some ⟨gs, 0, none⟩) s.sectors cs) := y2
 replace y3 : W.cell? ⟨w.heap.size, 0, none⟩ = some (.int .i64 (n : Int)) := y3
 replace y4 : W.cell? ⟨gs, n, none⟩ = some (.string ⟨bs.toArray⟩) := y4
 clear hkeep
 go_region
 obtain ⟨z1, z2, z3, z4, z5⟩ := read_end hlt1 (.slice (some ⟨W.heap.size, 0, none⟩) bs.length cb) c1 c2 hrm (by omega) hS4 hT4
 clear hcv
 go_wp2_with fail
 refine bodyPost_ret (read_results _ _ (w.heap.size + 1) (w.heap.size + 1 + 1) (.slice (some ⟨W.heap.size, 0, none⟩) bs.length cb) (.int .i64 0) (by rfl) (by rfl) z1 z2) rfl ?_
 refine ⟨_, rfl, ⟨_, _, rfl, ⟨by omega, hcap⟩, z3⟩, ?_, z5⟩
 unfold ShAt
 rw [hsn.out]
 exact z4
end
end
section
open Go.RowKit Go.Shelf
attribute [local go_sem] Oper.semAt_some
def upto {α : Type} (f : Nat → α) (k : Nat) : List α := (List.range k).map f
theorem upto_succ {α : Type} (f : Nat → α) (k : Nat) : upto f (k + 1) = upto f k ++ [f k] := by simp [upto, List.range_succ]
theorem upto_length {α : Type} (f : Nat → α) (k : Nat) : (upto f k).length = k := by simp [upto]
abbrev Back := Nat × (Nat × Bytes)
def backF (ws : List (Nat × Bytes)) (k : Nat) : Back := (ws.length - 1 - k, ws.getD (ws.length - 1 - k) (0, []))
def backE (x : Back) : Array Value := #[.int .i64 (x.1 : Int), .agg #[.int .i64 (x.2.1 : Int), .string ⟨x.2.2.toArray⟩]]
def KB (n₀ Bs : Nat) (A B : World) : Prop := Below n₀ A B ∧ B.heap[Bs]? = A.heap[Bs]?
theorem KB.refl (n₀ Bs : Nat) (A : World) : KB n₀ Bs A A := ⟨Below.refl _ _, rfl⟩
theorem KB.trans {n₀ Bs : Nat} {A B C : World} (h : KB n₀ Bs A B) (k : KB n₀ Bs B C) : KB n₀ Bs A C := ⟨h.1.trans k.1, k.2.trans h.2⟩
set_option maxRecDepth 100000 in
set_option maxHeartbeats 2000000 in
theorem back1_in (F : Fence) (n : Nat) (hF : F.fn 104) (hro : F.round = none) (hn : 1 ≤ n) (l Bs n₀ b cap : Nat) (ws : List (Nat × Bytes)) (len : Nat) (hlen0 : ws.length = len) (hreach : len ≤ 1000000000000) (hb : b < n₀) (J Jx : List Back → World → Prop)
  (hY : ∀ pre x W, J pre W → pre.length < len → YieldAt F (n - 1) Try.prog l (backE x) W fun e W' =>
   (e = .returned (.bool true) ∧ J (pre ++ [x]) W' ∧ KB n₀ Bs W W') ∨ (e = .returned (.bool false) ∧ Jx (pre ++ [x]) W'))
  (W : World) (hBs : W.cell? ⟨Bs, 0, none⟩ = some (.slice (some ⟨b, 0, none⟩) len cap)) (hc : ∀ j, j < len → W.cell? ⟨b, j * 2, none⟩ = some (.int .i64 ((ws.getD j (0, [])).1 : Int)) ∧ W.cell? ⟨b, j * 2 + 1, none⟩ = some (.string ⟨(ws.getD j (0, [])).2.toArray⟩)) (h0 : J [] W) :
  CallsIn F n Try.prog 104 #[.func (.yield l) #[] #[], .pointer (some ⟨Bs, 0, none⟩)] W fun e W' => (∃ v, e = .returned v) ∧
   ((∃ ys, ys = upto (backF ws) len ∧ J ys W') ∨ (∃ pre, (∃ k, k ≤ len ∧ pre = upto (backF ws) k) ∧ Jx pre W')) := by
 refine callsIn_of_wp Try.func104 rfl hF ?_ hro
 simp only [Try.ntmps104, List.size_toArray, List.length_cons, List.length_nil, Nat.reduceAdd, Nat.reduceSub, Array.replicate_succ, Array.replicate_zero, List.push_toArray, List.append_toArray, List.nil_append, List.cons_append]
 have hlen := Lib.hid hlen0
 clear hlen0
 gi_wp2
 gi_loopw [3] (fun i wr => ∃ k : Nat, k ≤ len ∧ i = .int .i64 ((len : Int) - 1 - k) ∧ J (upto (backF ws) k) wr ∧ KB n₀ Bs W wr)
  (fun i _ => (intOf i + 1).toNat)
 case atStart => exact ⟨0, Nat.zero_le _, by simp, h0, KB.refl _ _ _⟩
 case round =>
  obtain ⟨k, hk, rfl, hJs, hnx⟩ := hrel
  have hBs2 := (World.cell?_of_block hnx.2 (a := ⟨Bs, 0, none⟩)).trans hBs
  by_cases hlt : k < len
  ·obtain ⟨m, hm⟩ : ∃ m, len = m + 1 + k := ⟨len - 1 - k, by omega⟩
   have hml : m < len := by omega
   have hmi : (len : Int) - 1 - k = (m : Int) := by omega
   have hx0 := (hnx.1.cell (p := ⟨b, m * 2, none⟩) hb).trans (hc m hml).1
   have hx1 := (hnx.1.cell (p := ⟨b, m * 2 + 1, none⟩) hb).trans (hc m hml).2
   have hbf : backF ws k = (m, ((ws.getD m (0, [])).1, (ws.getD m (0, [])).2)) := by
    have e : ws.length - 1 - k = m := by rw [hlen.out]; omega
    simp only [backF, e]
   rw [hmi]
   obtain ⟨fn, tmps, assign, body, hy, hR⟩ := hY _ (m, ((ws.getD m (0, [])).1, (ws.getD m (0, [])).2)) wr hJs (by rw [upto_length]; exact hlt)
   replace hbf := Lib.hid hbf
   simp only [backE] at hy
   generalize (ws.getD m (0, [])).1 = n1 at *
   generalize (ws.getD m (0, [])).2 = b1 at *
   have hmlt : (m : Int) < (len : Int) := by omega
   have hlb := World.block_lt_of_cell? wr _ hx0
   have hm2 : (m : Int) - 1 = (len : Int) - 1 - ((k + 1 : Nat) : Int) := by omega
   have hm3 : ((m : Int) - 1 + 1).toNat < ((m : Int) + 1).toNat := by omega
   replace hm2 := Lib.hid hm2
   replace hm3 := Lib.hid hm3
   replace hm := Lib.hid hm
   replace hmi := Lib.hid hmi
   gi_wp2
   refine hR.mono ?_
   rintro e W3 (⟨rfl, hJ3, hk3⟩ | ⟨rfl, hJx3⟩)
   ·gi_wp2
    go_roundw
    case rel => exact ⟨k + 1, by omega, by rw [← hm2.out], by rw [upto_succ, hbf.out]; exact hJ3, hnx.trans hk3⟩
    case measure => simpa [intOf] using hm3.out
   ·gi_wp2
    refine bodyPost_ret (results_none rfl _ _ _) rfl ?_
    exact ⟨⟨_, rfl⟩, .inr ⟨_, ⟨k + 1, by omega, by rw [upto_succ, hbf.out]⟩, hJx3⟩⟩
  ·obtain rfl : k = len := by omega
   have hmi : (k : Int) - 1 - k = -1 := by omega
   rw [hmi]
   replace hmi := Lib.hid hmi
   gi_wp2
   go_end0
   exact ⟨⟨_, rfl⟩, .inl ⟨_, rfl, hJs⟩⟩
def Waits (n₀ : Nat) (W : World) (b cap : Nat) (ws : List (Nat × Bytes)) : Prop :=
 b < n₀ ∧ ∀ j, j < ws.length → W.cell? ⟨b, j * 2, none⟩ = some (.int .i64 ((ws.getD j (0, [])).1 : Int)) ∧ W.cell? ⟨b, j * 2 + 1, none⟩ = some (.string ⟨(ws.getD j (0, [])).2.toArray⟩)
theorem Waits.below {n₀ : Nat} {A B : World} (h : Below n₀ A B) {b cap : Nat} {ws : List (Nat × Bytes)} (hw : Waits n₀ A b cap ws) : Waits n₀ B b cap ws :=
 ⟨hw.1, fun j hj => ⟨(h.cell (p := ⟨b, j * 2, none⟩) hw.1).trans (hw.2 j hj).1, (h.cell (p := ⟨b, j * 2 + 1, none⟩) hw.1).trans (hw.2 j hj).2⟩⟩
set_option maxHeartbeats 1000000 in
theorem back_in (F : Fence) (n : Nat) (h5 : F.fn 100) (hro : F.round = none) (a : Option Addr) (len cap : Nat) (w : World) :
  CallsIn F n Try.prog 100 #[.slice a len cap] w fun e w' => e = .returned (.func (.func 104) #[] #[.pointer (some ⟨w.heap.size, 0, none⟩)]) ∧ w' = w.alloc (.cells #[.slice a len cap] 102) := by
 refine callsIn_of_wp Try.func100 rfl h5 ?_ hro
 simp only [Try.ntmps100, List.size_toArray, List.length_cons, List.length_nil, Nat.reduceAdd, Nat.reduceSub, Array.replicate_succ, Array.replicate_zero, List.push_toArray, List.append_toArray, List.nil_append, List.cons_append]
 gi_wp2
 go_ret
 exact ⟨rfl, rfl⟩
theorem back_stops (F : Fence) (n : Nat) (hF : F.fn 104) (hro : F.round = none) (hn : 1 ≤ n) (Bs n₀ b cap : Nat) (ws : List (Nat × Bytes)) (hreach : ws.length ≤ 1000000000000) (w : World) (hBs : Bs < w.heap.size) (hn₀ : n₀ ≤ w.heap.size)
  (hc : w.cell? ⟨Bs, 0, none⟩ = some (.slice (some ⟨b, 0, none⟩) ws.length cap)) (hI : Waits n₀ w b cap ws) :
  SeqStopsK F n Try.prog 104 #[.pointer (some ⟨Bs, 0, none⟩)] backE (KB n₀ Bs) (fun ys => ys = upto (backF ws) ws.length) (fun pre => ∃ k, k ≤ ws.length ∧ pre = upto (backF ws) k) ws.length w := fun l J Jx W hW _ _ hY h0 => by
 have hc' := (hW.cell (p := ⟨Bs, 0, none⟩) hBs).trans hc
 have hI' := hI.below (hW.mono hn₀)
 exact back1_in F n hF hro hn l Bs n₀ b cap ws ws.length rfl hreach hI.1 J Jx hY W hc' hI'.2 h0
end
section
open Go.RowKit Go.Shelf
attribute [local go_sem] Oper.semAt_some
theorem with_act {C : Code} {Q : Exit → Act → World → Prop} {F : Fence} {n : Nat} {P : Program} {a : Act} {w : World} (h : ∀ a0 : Act, a0 = a → C.wpIn F n P Q a0 w) : C.wpIn F n P Q a w := h a rfl
theorem block_kept {W W' : World} {row : Option Nat} {g : Nat} {o : Obj} (h : W.heap[g]? = some o) (ho : o.isCells = true) (hg : W.grownBy W' row) (hr : ∀ r, row = some r → ∃ o : Obj, W.heap[r]? = some o ∧ o.isCells = false) : W'.heap[g]? = W.heap[g]? := by
 refine hg.block g (Array.getElem?_eq_some_iff.1 h).1 fun e => ?_
 obtain ⟨o', h1, h2⟩ := hr g e.symm
 rw [h] at h1
 injection h1 with h1
 rw [h1, h2] at ho
 cases ho
theorem RowM.kept {W W' : World} {row : Option Nat} {g : Nat} {bs : Bytes} (h : RowM W g bs) (hg : W.grownBy W' row) (hr : ∀ r, row = some r → ∃ o : Obj, W.heap[r]? = some o ∧ o.isCells = false) : RowM W' g bs := by
 obtain ⟨z, e, m, h1, h2⟩ := id h
 exact h.of_block (block_kept h1 rfl hg hr)
theorem KeepsFrom.of_below {B : Nat} {W W' : World} (h : Below W.heap.size W W') : KeepsFrom B W W' :=
 ⟨h.size, fun k _ _ hk _ => (h.block k (Array.getElem?_eq_some_iff.1 hk).1).trans hk⟩
theorem setCell_blk {Y : World} {b : Nat} {v : Value} {t : TypeId} (u : Value) (h : Y.heap[b]? = some (.cells #[v] t)) : (Y.setCell ⟨b, 0, none⟩ u).heap[b]? = some (.cells #[u] t) := heap_setCell_same Y b 0 _ _ u h
structure RBox (W : World) (B Bs : Nat) (n : Int) (r1 r2 : Value) (sl : Value) : Prop where
 num : W.heap[B]? = some (.cells #[.int .i64 n] 3)
 res1 : W.heap[B + 1]? = some (.cells #[r1] 32)
 res2 : W.heap[B + 1 + 1]? = some (.cells #[r2] 39)
 box : W.heap[Bs]? = some (.cells #[sl] 102)
theorem RBox.kept {W W' : World} {row : Option Nat} {B Bs : Nat} {n : Int} {r1 r2 sl : Value} (h : RBox W B Bs n r1 r2 sl) (hg : W.grownBy W' row) (hr : ∀ r, row = some r → ∃ o : Obj, W.heap[r]? = some o ∧ o.isCells = false) : RBox W' B Bs n r1 r2 sl :=
 ⟨(block_kept h.num rfl hg hr).trans h.num, (block_kept h.res1 rfl hg hr).trans h.res1, (block_kept h.res2 rfl hg hr).trans h.res2, (block_kept h.box rfl hg hr).trans h.box⟩
theorem RBox.below {W W' : World} {B Bs : Nat} {n : Int} {r1 r2 sl : Value} (h : RBox W B Bs n r1 r2 sl) (hb : Below W.heap.size W W') : RBox W' B Bs n r1 r2 sl :=
 ⟨(hb.block _ (lt_of_blk h.num)).trans h.num, (hb.block _ (lt_of_blk h.res1)).trans h.res1, (hb.block _ (lt_of_blk h.res2)).trans h.res2, (hb.block _ (lt_of_blk h.box)).trans h.box⟩
theorem RBox.stored {Y : World} {B Bs : Nat} {n : Int} {r1 r2 sl : Value} (h : RBox Y B Bs n r1 r2 sl) (h1 : Bs ≠ B + 1) (h2 : Bs ≠ B + 1 + 1) (v1 v2 : Value) : RBox ((Y.setCell ⟨B + 1, 0, none⟩ v1).setCell ⟨B + 1 + 1, 0, none⟩ v2) B Bs n v1 v2 sl := by
 refine ⟨?_, ?_, ?_, ?_⟩
 ·exact (heap_setCell_other _ _ _ _ (by show B ≠ B + 1 + 1; omega)).trans ((heap_setCell_other _ _ _ _ (by show B ≠ B + 1; omega)).trans h.num)
 ·exact (heap_setCell_other _ _ _ _ (by show B + 1 ≠ B + 1 + 1; omega)).trans (setCell_blk v1 h.res1)
 ·exact setCell_blk v2 ((heap_setCell_other _ _ _ _ (by show B + 1 + 1 ≠ B + 1; omega)).trans h.res2)
 ·exact (heap_setCell_other _ _ _ _ h2).trans ((heap_setCell_other _ _ _ _ h1).trans h.box)
theorem lastOf_back (ws : List (Nat × Bytes)) (n k : Nat) (hk : k < ws.length) (h1 : ∀ j, j < k → (backF ws j).2.1 ≠ n) (h2 : (backF ws k).2.1 = n) : lastOf ws n = some (backF ws k).2.2 := by
 have hget : ∀ j (h : j < ws.length), ws.reverse[j]'(by simpa using h) = (backF ws j).2 := by
  intro j h
  rw [List.getElem_reverse]
  simp only [backF, List.getD_eq_getElem?_getD]
  rw [List.getElem?_eq_getElem (by omega)]
  rfl
 have : ws.reverse.find? (fun w => w.1 == n) = some (backF ws k).2 := by
  rw [List.find?_eq_some_iff_getElem]
  refine ⟨by simpa using h2, k, by simpa using hk, hget k hk, fun j hj => ?_⟩
  rw [hget j (by omega)]
  simpa using h1 j hj
 rw [lastOf, this]
 rfl
structure LoopI (X : World) (B Bs n : Nat) (sl : Value) (pre : List Back) (Y : World) : Prop where
 box : RBox Y B Bs n (.slice none 0 0) (.int .i64 0) sl
 none_ : ∀ x ∈ pre, x.2.1 ≠ n
 below : Below B X Y
structure LoopX (X : World) (B Bs n : Nat) (sl : Value) (c : Code) (pre : List Back) (Y : World) : Prop where
 ret : c = .ret
 found : ∃ (ini : List Back) (last : Back) (g cb : Nat), pre = ini ++ [last] ∧ (∀ x ∈ ini, x.2.1 ≠ n) ∧ last.2.1 = n ∧ (B + 3 ≤ g ∧ last.2.2.length ≤ cb) ∧ RowM Y g last.2.2 ∧ RBox Y B Bs n (.slice (some ⟨g, 0, none⟩) last.2.2.length cb) (.int .i64 0) sl
 below : Below B X Y
section
variable {w : World} {F : ShF} {s : ShM}
set_option maxRecDepth 100000 in
set_option maxHeartbeats 2000000 in
theorem sh_read_wait (hS : ShAt w F s) (d n : Nat) (hh : s.has d n = true) (hw : s.why d = 0) (h0 : waitsOf (s.disk d).waits n ≠ 0) (hroom : (s.disk d).waits.length ≤ 1000000000000) (bs : Bytes) (hbs : lastOf (s.disk d).waits n = some bs) :
  Calls Try.prog 85 #[.pointer (some ⟨F.g, 0, none⟩), .int .i64 d, .int .i64 n] w fun e w' =>
  ∃ v, e = .returned (.tuple #[v, .int .i64 0]) ∧ ReadRow w w' v bs ∧ ShAt w' F s.tick ∧ Turns F.blocks w w' := by
 obtain ⟨hA0, hA1, hA2, hA3, hB⟩ := three_blocks w (.cells #[.int .i64 (n : Int)] 3) (.cells #[.slice none 0 0] 32) (.cells #[.int .i64 0] 39)
 have hSB := hS.below hB
 have hhas := sh_has hSB d n
 rw [hh] at hhas
 obtain ⟨⟨hd0, hd1⟩, hn0, hn1⟩ := has_of hh
 have hd' : d < s.disks.length := by omega
 have hready := sh_ready hSB d hd' false
 simp only [Bool.false_eq_true, and_false, if_false, hw] at hready
 have hlt := hS.lt _ F.mem_g
 have hlt1 : ∀ b ∈ F.blocks, b < w.heap.size := hS.lt
 refine (callsIn_wide (n := 6)).1 ?_
 refine callsIn_of_wp_marks Try.func85 rfl trivial ?_ rfl
 simp only [Try.ntmps85, List.size_toArray, List.length_cons, List.length_nil, Nat.reduceAdd, Nat.reduceSub, Array.replicate_succ, Array.replicate_zero, List.push_toArray, List.append_toArray, List.nil_append, List.cons_append]
 refine wpIn_wide.2 ?_
 go_wp2_with fail
 refine hhas.mono ?_
 rintro e w' ⟨rfl, rfl⟩
 go_wp2_with fail
 refine hready.mono ?_
 rintro e w1 ⟨rfl, hS1, hT1⟩
 clear hhas hready
 have hT1' : Turns F.blocks w w1 := (Turns.of_below hB).trans hT1
 have hw1 : ∀ k, w.heap.size ≤ k → k < w.heap.size + 3 → w1.heap[k]? = (((w.alloc (.cells #[.int .i64 (n : Int)] 3)).alloc (.cells #[.slice none 0 0] 32)).alloc (.cells #[.int .i64 0] 39)).heap[k]? := fun k h1 h2 =>
  hT1.block k (by omega) (fun hm => by have := hlt1 _ hm; omega)
 have g0 := (hw1 (w.heap.size) (by omega) (by omega)).trans hA0
 have g1 := (hw1 (w.heap.size + 1) (by omega) (by omega)).trans hA1
 have g2 := (hw1 (w.heap.size + 1 + 1) (by omega) (by omega)).trans hA2
 have hsz1 : w.heap.size + 3 ≤ w1.heap.size := by rw [← hA3]; exact hT1.size
 clear hA0 hA1 hA2 hA3 hw1 hT1 hB hSB
 have hc4 := hS1.c4
 have hf4 := hS1.frozen 4
 have hS2 := hS1.setCount (wrap64 (s.count + 1))
 have hT2 := hT1'.setCell (a := ⟨F.g, 4, none⟩) F.mem_g (.int .i64 (wrap64 (s.count + 1)))
 have hne : ∀ k, w.heap.size ≤ k → (w1.setCell ⟨F.g, 4, none⟩ (.int .i64 (wrap64 (s.count + 1)))).heap[k]? = w1.heap[k]? := fun k hk => heap_setCell_other _ _ _ _ (by show k ≠ F.g; omega)
 replace g0 := (hne _ (by omega)).trans g0
 replace g1 := (hne _ (by omega)).trans g1
 replace g2 := (hne _ (by omega)).trans g2
 have hsz2 : w.heap.size + 3 ≤ (w1.setCell ⟨F.g, 4, none⟩ (.int .i64 (wrap64 (s.count + 1)))).heap.size := by simpa using hsz1
 have hlt2 := hS1.lt _ F.mem_g
 clear hne
 go_wp2_with fail
 have hs2 : { s with count := wrap64 (s.count + 1) } = s.tick := rfl
 rw [hs2] at hS2
 have hdk : s.tick.disk d = s.disk d := rfl
 have hdl : s.tick.disks = s.disks := rfl
 have hsn : seenF s.tick = seenF s := rfl
 generalize w1.setCell ⟨F.g, 4, none⟩ (.int .i64 (wrap64 (s.count + 1))) = W at *
 have h4096 := hS.ok.sectors4096
 have h17 := hS.ok.disks17
 have hd7 : smallN d := by unfold smallN; omega
 have hn7 : smallN n := by unfold smallN; omega
 have hlook := hS2.drew.seen.look Try.pairMap d n hd7 hn7
 have hseen : seenF s d n = waitsOf (s.disk d).waits n := by simp only [seenF, if_pos hd']
 rw [hseen] at hlook
 unfold pairV at hlook
 have hqp : (0 : Int) < ((waitsOf (s.disk d).waits n : Nat) : Int) := by omega
 generalize hq : waitsOf (s.disk d).waits n = q at *
 replace hq := Lib.hid hq
 have hc5 := hS2.c5
 have k0 := cell_of_row _ _ 0 _ _ _ g0
 have k1 := cell_of_row _ _ 0 _ _ _ g1
 have k2 := cell_of_row _ _ 0 _ _ _ g2
 have f0 := frozen_of_row _ _ 0 _ _ g0
 have f1 := frozen_of_row _ _ 0 _ _ g1
 have f2 := frozen_of_row _ _ 0 _ _ g2
 simp only [List.getElem?_toArray, List.getElem?_cons_zero] at k0 k1 k2
 have q5 : W.drew.cell? ⟨F.g, 5, none⟩ = some (.map (some F.gm)) := hc5
 have q0 : W.drew.cell? ⟨w.heap.size, 0, none⟩ = some (.int .i64 (n : Int)) := k0
 replace hseen := Lib.hid hseen
 replace hsn := Lib.hid hsn
 replace hdk := Lib.hid hdk
 replace hdl := Lib.hid hdl
 replace hs2 := Lib.hid hs2
 replace hw := Lib.hid hw
 replace hbs := Lib.hid hbs
 clear h0
 go_region_held3 (fun w' => w'.cell? ⟨F.g, 5, none⟩ = some (.map (some F.gm)) ∧ w'.cell? ⟨w.heap.size, 0, none⟩ = some (.int .i64 (n : Int)) ∧ (Instr.lookup 76 (.map (some F.gm)) (.agg #[.int .i64 (d : Int), .int .i64 (n : Int)]) false).run Try.prog w' = .ok (.int .i64 (q : Int)) w')
  ((refine ⟨?_, ?_, ?_⟩ <;> assumption)) (fail)
 clear hlook
 have hS3 : ShAtM W.drew F s.tick (seenF s) := hS2.drew
 have hdt : d < s.tick.disks.length := by rw [hdl.out]; exact hd'
 have hc2 := hS3.c2
 rw [hdl.out] at hc2
 have he1 := hS3.e1 hdt
 have hrow := hS3.ewaits hdt
 rw [hdk.out] at hrow
 generalize hws : (s.disk d).waits = ws at *
 replace hws := Lib.hid hws
 obtain ⟨A, cw, hv, hcap, hg⟩ := ownsRow_form hrow
 rw [hv] at he1 hrow
 have hpos : 0 < ws.length := by
  rcases Nat.eq_zero_or_pos ws.length with h | h
  ·have : ws = [] := List.eq_nil_of_length_eq_zero h
   rw [this] at hq
   have := hq.out
   simp [waitsOf] at this
   omega
  ·exact h
 obtain ⟨ad, rfl⟩ : ∃ ad, A = some ad := by
  rcases hrow.2 with ⟨_, h1⟩ | ⟨g, cap, cur, hv', _⟩
  ·omega
  ·injection hv' with e1
   exact ⟨_, e1⟩
 obtain ⟨gw, rfl, _, _⟩ := hg ad rfl
 have hgw : gw < w.heap.size := hlt1 _ (F.mem_wv (hS3.fd hdt) (by rw [hv]; rfl))
 have hcell : ∀ j, j < ws.length → W.drew.cell? ⟨gw, j * 2, none⟩ = some (.int .i64 ((ws.getD j (0, [])).1 : Int)) ∧ W.drew.cell? ⟨gw, j * 2 + 1, none⟩ = some (.string ⟨(ws.getD j (0, [])).2.toArray⟩) := by
  intro j hj
  have hx0 := World.ownsRow.cellAt hrow (j * 2) (by omega)
  have hx1 := World.ownsRow.cellAt hrow (j * 2 + 1) (by omega)
  have hy0 := waitsV_get ws j 0 hj (by omega)
  have hy1 := waitsV_get ws j 1 hj (by omega)
  rw [Nat.add_zero] at hy0
  rw [hy0] at hx0
  rw [hy1] at hx1
  simp only [waitV, List.getElem?_cons_zero, List.getElem?_cons_succ, strV] at hx0 hx1
  have e : ws.getD j (0, []) = ws[j] := by simp [List.getD_eq_getElem?_getD, hj]
  rw [e]
  exact ⟨hx0, hx1⟩
 clear hg hv hrow hcap
 replace hcell := Lib.hid hcell
 go_wp2_with fail
 refine (callsIn_wide.1 (back_in Fence.wide 5 trivial rfl _ _ _ _)).mono ?_
 rintro e w' ⟨rfl, rfl⟩
 go_wp2_with fail
 have hX : Below W.heap.size W ((W.alloc (.cells #[.slice (some ⟨gw, 0, none⟩) ws.length cw] 102)).drew) := ((Below.refl _ _).alloc (Nat.le_refl _) _).drew
 have hXs : ((W.alloc (.cells #[.slice (some ⟨gw, 0, none⟩) ws.length cw] 102)).drew).heap.size = W.heap.size + 1 := by simp
 have hXb : ((W.alloc (.cells #[.slice (some ⟨gw, 0, none⟩) ws.length cw] 102)).drew).heap[W.heap.size]? = some (.cells #[.slice (some ⟨gw, 0, none⟩) ws.length cw] 102) := heap_alloc_new W _
 have hR0 : RBox ((W.alloc (.cells #[.slice (some ⟨gw, 0, none⟩) ws.length cw] 102)).drew) w.heap.size W.heap.size n (.slice none 0 0) (.int .i64 0) (.slice (some ⟨gw, 0, none⟩) ws.length cw) :=
  ⟨(hX.block _ (by omega)).trans g0, (hX.block _ (by omega)).trans g1, (hX.block _ (by omega)).trans g2, hXb⟩
 have hWt : Waits w.heap.size ((W.alloc (.cells #[.slice (some ⟨gw, 0, none⟩) ws.length cw] 102)).drew) gw cw ws :=
  ⟨hgw, fun j hj => ⟨(hX.cell (p := ⟨gw, j * 2, none⟩) (by show gw < _; omega)).trans (hcell.out j hj).1, (hX.cell (p := ⟨gw, j * 2 + 1, none⟩) (by show gw < _; omega)).trans (hcell.out j hj).2⟩⟩
 refine (wpIn_wide (n := 6)).1 ?_
 generalize (W.alloc (.cells #[.slice (some ⟨gw, 0, none⟩) ws.length cw] 102)).drew = X at *
 have hXs1 : W.heap.size + 1 ≤ X.heap.size := by omega
 have hXs2 : X.heap.size ≤ W.heap.size + 1 := by omega
 clear hXs
 refine with_act ?_
 intro a0 ha0
 have hc0 : X.cell? ⟨W.heap.size, 0, none⟩ = some (.slice (some ⟨gw, 0, none⟩) ws.length cw) := cell_of_row X W.heap.size 0 _ _ _ hXb
 refine wpIn_rangeFunc_ownH (F := Fence.wide) (n := 6) (α := Back) rfl (by omega) (gf := 104) (lb := #[.pointer (some ⟨W.heap.size, 0, none⟩)]) (by rw [ha0]; rfl) trivial (enters_of Try.func104 (by kernel_rfl) rfl)
  (back_stops Fence.wide 5 trivial rfl (by omega) W.heap.size w.heap.size gw cw ws hroom X (by omega) (by omega) hc0 hWt) (fun h k => h.trans k)
  (fun Y l o o' hl ho hc hk => ⟨belowK_b (w := X) (by omega) Y l o o' hl ho hc hk, World.putObj_heap_other (by omega)⟩) (Below.refl _ _) (fun _ => rfl)
  (LoopI X w.heap.size W.heap.size n (.slice (some ⟨gw, 0, none⟩) ws.length cw))
  (LoopX X w.heap.size W.heap.size n (.slice (some ⟨gw, 0, none⟩) ws.length cw))
  (fun pre Y Z row hs hg hr => ⟨hs.box.kept hg (fun r e => (hr r e).2), hs.none_, ownFrom_below (B := X.heap.size) (by omega) (by omega) () Y Z row hs.below hg hr⟩)
  (fun c pre Y Z row hs hg hr => by
   obtain ⟨hc, ⟨ini, last, g, cb, e1, e2, e3, e4, e5, e6⟩, hb⟩ := hs
   exact ⟨hc, ⟨ini, last, g, cb, e1, e2, e3, e4, e5.kept hg (fun r e => (hr r e).2), e6.kept hg (fun r e => (hr r e).2)⟩, ownFrom_below (B := X.heap.size) (by omega) (by omega) () Y Z row hb hg hr⟩)
  ⟨hR0, by simp, Below.refl _ _⟩
  (fun x a' Y => ∃ Bx, w.heap.size + 3 ≤ Bx ∧ Bx ≠ W.heap.size ∧ Y.heap[Bx]? = some (.cells #[.int .i64 (x.2.1 : Int), .string ⟨x.2.2.toArray⟩] 132) ∧
   a' = { tmps := ((a0.tmps.setIfInBounds 49 (.int .i64 (x.1 : Int))).setIfInBounds 50 (.agg #[.int .i64 (x.2.1 : Int), .string ⟨x.2.2.toArray⟩])).setIfInBounds 10 (.pointer (some ⟨Bx, 0, none⟩)), defers := [] })
  (fun x a' _ Y Z row hs hg hr => by
   obtain ⟨Bx, e1, e2, e3, e4⟩ := hs
   exact ⟨Bx, e1, e2, (block_kept e3 rfl hg (fun r e => (hr r e).2)).trans e3, e4⟩)
  ?assign ?body ?done ?stop
 case assign =>
  rintro l pre x Y K ⟨hRb, hpre, hB⟩ hK
  subst ha0
  obtain ⟨i0, n1, b1⟩ := x
  have hAl : Below Y.heap.size Y (Y.alloc (.cells #[.int .i64 (n1 : Int), .string ⟨b1.toArray⟩] 132)) := (Below.refl _ _).alloc (Nat.le_refl _) _
  have hBY := hB.size
  simp only [backE]
  gi_wp2
  refine hK _ _ ((KeepsOthers.alloc _ _).from _) ⟨hAl.mono (by omega), hAl.block _ (lt_of_blk hRb.box)⟩ ⟨hRb.below hAl, hpre, hB.trans (hAl.mono (by omega))⟩ ⟨Y.heap.size, by omega, by omega, heap_alloc_new Y _, ?_⟩
  simp
 case body =>
  rintro l pre x a' Y hl ⟨r, hr⟩ ⟨hRb, hpre, hB⟩ ⟨Bx, hBx, hBx2, hbx, rfl⟩ hlt3
  subst ha0
  obtain ⟨i0, n1, b1⟩ := x
  have kb0 := cell_of_row Y Bx 0 _ _ _ hbx
  have kb1 := cell_of_row Y Bx 1 _ _ _ hbx
  have kn := cell_of_row Y w.heap.size 0 _ _ _ hRb.num
  have kr1 := cell_of_row Y (w.heap.size + 1) 0 _ _ _ hRb.res1
  have kr2 := cell_of_row Y (w.heap.size + 1 + 1) 0 _ _ _ hRb.res2
  simp only [List.getElem?_toArray, List.getElem?_cons_zero, List.getElem?_cons_succ] at kb0 kb1 kn kr1 kr2
  simp only [List.setIfInBounds_toArray, List.set_cons_succ, List.set_cons_zero]
  have hBY := hB.size
  have hfr : ∀ b, Y.heap[b]? = some (.cells #[.slice none 0 0] 32) → Y.frozen? ⟨b, 0, none⟩ = false := fun b hb => frozen_of_row Y b 0 _ _ hb
  by_cases hn : n1 = n
  ·obtain ⟨cb, Y2, hcv, hrm, hb2, hs2, hcap⟩ := ex_bytes (P := Try.prog) Y 9 32 5 Try.underlying9 Try.underlying32 Try.underlying5 b1
   have hRb2 := hRb.below hb2
   have kr1 := cell_of_row Y2 (w.heap.size + 1) 0 _ _ _ hRb2.res1
   have kr2 := cell_of_row Y2 (w.heap.size + 1 + 1) 0 _ _ _ hRb2.res2
   have kf1 := frozen_of_row Y2 (w.heap.size + 1) 0 _ _ hRb2.res1
   have kf2 := frozen_of_row Y2 (w.heap.size + 1 + 1) 0 _ _ hRb2.res2
   simp only [List.getElem?_toArray, List.getElem?_cons_zero] at kr1 kr2
   have hB2 : Below w.heap.size X Y2 := hB.trans (hb2.mono (by omega))
   have hkf : KeepsFrom X.heap.size Y Y2 := KeepsFrom.of_below hb2
   have hst := hRb2.stored (by omega) (by omega) (.slice (some ⟨Y.heap.size, 0, none⟩) b1.length cb) (.int .i64 0)
   have hrm3 : RowM ((Y2.setCell ⟨w.heap.size + 1, 0, none⟩ (.slice (some ⟨Y.heap.size, 0, none⟩) b1.length cb)).setCell ⟨w.heap.size + 1 + 1, 0, none⟩ (.int .i64 0)) Y.heap.size b1 :=
    hrm.of_block ((heap_setCell_other _ _ _ _ (by show Y.heap.size ≠ w.heap.size + 1 + 1; omega)).trans (heap_setCell_other _ _ _ _ (by show Y.heap.size ≠ w.heap.size + 1; omega)))
   have hBs2 := hB2.size
   have hB3 : Below w.heap.size X ((Y2.setCell ⟨w.heap.size + 1, 0, none⟩ (.slice (some ⟨Y.heap.size, 0, none⟩) b1.length cb)).setCell ⟨w.heap.size + 1 + 1, 0, none⟩ (.int .i64 0)) := (hB2.setCell (p := ⟨w.heap.size + 1, 0, none⟩) (by show w.heap.size ≤ w.heap.size + 1; omega) _).setCell (p := ⟨w.heap.size + 1 + 1, 0, none⟩) (by show w.heap.size ≤ w.heap.size + 1 + 1; omega) _
   have hkf3 : KeepsFrom X.heap.size Y ((Y2.setCell ⟨w.heap.size + 1, 0, none⟩ (.slice (some ⟨Y.heap.size, 0, none⟩) b1.length cb)).setCell ⟨w.heap.size + 1 + 1, 0, none⟩ (.int .i64 0)) := (hkf.trans ((KeepsOthers.setCell _ _ _).from _)).trans ((KeepsOthers.setCell _ _ _).from _)
   have heqn : (n1 : Int) = (n : Int) := by omega
   rw [heqn] at kb0
   replace heqn := Lib.hid heqn
   replace hn := Lib.hid hn
   replace hpre := Lib.hid hpre
   clear hRb2 hst hfr
   have hst := hRb.below hb2 |>.stored (by omega) (by omega) (.slice (some ⟨Y.heap.size, 0, none⟩) b1.length cb) (.int .i64 0)
   gi_wp2
   exact ⟨hkf3, ⟨rfl, ⟨pre, (i0, n1, b1), Y.heap.size, cb, rfl, hpre.out, hn.out, ⟨by omega, hcap⟩, hrm3, hst⟩, hB3⟩⟩
  ·have hb : ((n1 : Int) == (n : Int)) = false := beq_eq_false_iff_ne.2 (by omega)
   replace hn := Lib.hid hn
   replace hpre := Lib.hid hpre
   gi_wp2
   refine ⟨KeepsFrom.refl _ _, KB.refl _ _ _, ⟨hRb, fun x hx => ?_, hB⟩⟩
   rcases List.mem_append.1 hx with hx | hx
   ·exact hpre.out x hx
   ·simp only [List.mem_singleton] at hx
    rw [hx]
    exact hn.out
 case done =>
  rintro D ys Y hD rfl ⟨hRb, hpre, hB⟩ hK
  exfalso
  have hq' := hq.out
  have hne : waitsOf ws n ≠ 0 := by omega
  obtain ⟨x, hx, hxn⟩ := List.mem_map.1 (waitsOf_zero ws n hne)
  obtain ⟨j, hj, rfl⟩ := List.getElem_of_mem hx
  refine hpre (backF ws (ws.length - 1 - j)) ?_ ?_
  ·simp only [upto, List.mem_map, List.mem_range]
   exact ⟨_, by omega, rfl⟩
  ·have e : ws.length - 1 - (ws.length - 1 - j) = j := by omega
   simp only [backF, e, List.getD_eq_getElem?_getD, List.getElem?_eq_getElem hj, Option.getD_some]
   exact hxn
 case stop =>
  rintro D c pre Y hD ⟨k, hk, rfl⟩ ⟨rfl, ⟨ini, last, g, cb, e1, e2, e3, e4, e5, e6⟩, hB⟩ hK
  subst ha0
  have hgr := grownBy_putObj' Y D (.deferred none)
  have hrr : ∀ r, some D = some r → ∃ o : Obj, Y.heap[r]? = some o ∧ o.isCells = false := fun r e => by cases e; exact ⟨_, hK, rfl⟩
  have e5' := e5.kept hgr hrr
  have e6' := e6.kept hgr hrr
  have hBD : Below w.heap.size Y (Y.putObj D (.deferred none)) := belowK_b (w := X) (by omega) Y D _ _ hD hK rfl rfl
  have hBW : Below w.heap.size W (Y.putObj D (.deferred none)) := (hX.mono (by omega)).trans (hB.trans hBD)
  have hTf : Turns F.blocks w (Y.putObj D (.deferred none)) := ⟨hBW.os.trans hT2.os, hBW.tape.trans hT2.tape, hBW.output.trans hT2.output, Nat.le_trans hT2.size hBW.size, fun j hj hn => (hBW.block j hj).trans (hT2.block j hj hn)⟩
  have hSf : ShAtM (Y.putObj D (.deferred none)) F s.tick (seenF s) := hS2.of_blocks fun b hb => hBW.block b (hlt1 b hb)
  obtain ⟨k', rfl⟩ : ∃ k', k = k' + 1 := by
   cases k with
   | zero => simp [upto] at e1
   | succ k' => exact ⟨k', rfl⟩
  rw [upto_succ] at e1
  obtain ⟨rfl, e9⟩ := List.append_inj' e1 rfl
  obtain rfl : backF ws k' = last := by simpa using e9
  have hl := lastOf_back ws n k' (by omega) (fun j hj => e2 _ (by simp only [upto, List.mem_map, List.mem_range]; exact ⟨j, hj, rfl⟩)) e3
  rw [hbs.out] at hl
  injection hl with hl
  rw [← hl] at e4 e5' e6'
  replace hl := Lib.hid hl
  have c1 := cell_of_row _ _ 0 _ _ _ e6'.res1
  have c2 := cell_of_row _ _ 0 _ _ _ e6'.res2
  simp only [List.getElem?_toArray, List.getElem?_cons_zero] at c1 c2
  gi_wp2
  refine ⟨by simp, .inl ⟨_, _, rfl, run_takeDeferred hK, ?_⟩⟩
  refine ⟨.tuple #[.slice (some ⟨g, 0, none⟩) bs.length cb, .int .i64 0], read_results _ _ (w.heap.size + 1) (w.heap.size + 1 + 1) _ _ (by rfl) (by rfl) c1 c2, ?_⟩
  refine ⟨_, rfl, ⟨g, cb, rfl, ⟨by omega, e4.2⟩, e5'⟩, ?_, hTf⟩
  unfold ShAt
  rw [hsn.out]
  exact hSf
end
end
section
open Go.RowKit
def Fresh (w w' : World) (v : Value) (bs : Bytes) : Prop := ∃ A c, v = .slice A bs.length c ∧ ((A = none ∧ bs = []) ∨ ∃ g, A = some ⟨g, 0, none⟩ ∧ (w.heap.size ≤ g ∧ bs.length ≤ c) ∧ RowM w' g bs)
theorem Fresh.nil (w w' : World) : Fresh w w' (.slice none 0 0) [] := ⟨none, 0, rfl, .inl ⟨rfl, rfl⟩⟩
theorem Fresh.form {w w' : World} {v : Value} {bs : Bytes} (h : Fresh w w' v bs) (hl : bs.length ≤ 9223372036854775807) : ∃ A c, v = .slice A bs.length c ∧ Rd w' A bs ∧ ∀ ad, A = some ad → w.heap.size ≤ ad.block := by
 obtain ⟨A, c, rfl, h⟩ := h
 refine ⟨A, c, rfl, ?_⟩
 rcases h with ⟨rfl, rfl⟩ | ⟨g, rfl, hg, hr⟩
 ·exact ⟨Rd.nil _, fun ad e => by cases e⟩
 ·exact ⟨hr.rd hl, fun ad e => by injection e with e; subst e; exact hg.1⟩
theorem waitsOf_none {ws : List (Nat × Bytes)} {n : Nat} (h : waitsOf ws n = 0) : lastOf ws n = none := by
 have h0 : ws.filter (fun w => w.1 == n) = [] := List.eq_nil_of_length_eq_zero h
 rw [lastOf]
 have : ws.reverse.find? (fun w => w.1 == n) = none := by
  rw [List.find?_eq_none]
  intro x hx hxn
  have hm : x ∈ ws.filter (fun w => w.1 == n) := List.mem_filter.2 ⟨List.mem_reverse.1 hx, hxn⟩
  rw [h0] at hm
  simp at hm
 rw [this]
 rfl
theorem lastOf_some {ws : List (Nat × Bytes)} {n : Nat} (h : waitsOf ws n ≠ 0) : ∃ b, lastOf ws n = some b ∧ (n, b) ∈ ws := by
 obtain ⟨x, hx, hxn⟩ := List.mem_map.1 (waitsOf_zero ws n h)
 cases hf : ws.reverse.find? (fun w => w.1 == n) with
 | none =>
  rw [List.find?_eq_none] at hf
  exact absurd (by simpa using hxn) (hf x (List.mem_reverse.2 hx))
 | some y =>
  have hy := List.find?_some hf
  have hm := List.mem_reverse.1 (List.mem_of_find?_eq_some hf)
  refine ⟨y.2, by rw [lastOf, hf]; rfl, ?_⟩
  have : y.1 = n := by simpa using hy
  rw [← this]
  exact hm
section
variable {w : World} {F : ShF} {s : ShM}
theorem read_len (hok : s.Ok) {d n : Nat} (hd : d < s.disks.length) (hn : n < s.sectors) : ((s.disk d).read n).length = 128 := by
 have hm : s.disk d ∈ s.disks := by rw [← s.disk_eq hd]; exact List.getElem_mem hd
 simp only [DiskM.read]
 by_cases h0 : waitsOf (s.disk d).waits n = 0
 ·rw [waitsOf_none h0, Option.getD_none]
  have hl := hok.sure _ hm
  rw [List.getD_eq_getElem?_getD, List.getElem?_eq_getElem (by omega), Option.getD_some]
  exact hok.sec _ hm _ (List.getElem_mem _)
 ·obtain ⟨b, hb, hbm⟩ := lastOf_some h0
  rw [hb, Option.getD_some]
  exact (hok.waits _ hm _ hbm).2
theorem sh_read (hS : ShAt w F s) (d n : Int) (hroom : (s.disk d.toNat).waits.length ≤ 1000000000000) :
  Calls Try.prog 85 #[.pointer (some ⟨F.g, 0, none⟩), .int .i64 d, .int .i64 n] w fun e w' =>
   ∃ v, e = .returned (.tuple #[v, .int .i64 (s.readR d n).2.1]) ∧ Fresh w w' v (s.readR d n).1 ∧ ShAt w' F (s.readR d n).2.2 ∧ Turns F.blocks w w' := by
 by_cases hh : s.has d n = true
 ·obtain ⟨⟨hd0, hd1⟩, hn0, hn1⟩ := has_of hh
  obtain ⟨d, rfl⟩ := Int.eq_ofNat_of_zero_le hd0
  obtain ⟨n, rfl⟩ := Int.eq_ofNat_of_zero_le hn0
  have hd' : d < s.disks.length := by omega
  have hn' : n < s.sectors := by omega
  rw [Int.toNat_natCast] at hroom
  by_cases hw : s.why d = 0
  ·rw [readR_of hh hw]
   have hrow : ∀ {w' : World} {v : Value} {bs : Bytes}, ReadRow w w' v bs → Fresh w w' v bs := by
    rintro w' v bs ⟨g, c, rfl, h1, h2⟩
    exact ⟨_, c, rfl, .inr ⟨g, rfl, h1, h2⟩⟩
   by_cases h0 : waitsOf (s.disk d).waits n = 0
   ·have hrd : (s.disk d).read n = (s.disk d).sure.getD n [] := by simp only [DiskM.read, waitsOf_none h0, Option.getD_none]
    rw [hrd]
    refine (sh_read_sure hS d n hh hw h0 _ rfl).mono ?_
    rintro e w' ⟨v, h1, h2, h3, h4⟩
    exact ⟨v, h1, hrow h2, h3, h4⟩
   ·obtain ⟨b, hb, _⟩ := lastOf_some h0
    have hrd : (s.disk d).read n = b := by simp only [DiskM.read, hb, Option.getD_some]
    rw [hrd]
    refine (sh_read_wait hS d n hh hw h0 hroom b hb).mono ?_
    rintro e w' ⟨v, h1, h2, h3, h4⟩
    exact ⟨v, h1, hrow h2, h3, h4⟩
  ·have hr : s.readR (d : Int) (n : Int) = ([], s.why d, s) := by simp [ShM.readR, hh, hw]
   rw [hr]
   refine (sh_read_why hS d n hh hw).mono ?_
   rintro e w' ⟨h1, h2, h3⟩
   exact ⟨_, h1, Fresh.nil _ _, h2, h3⟩
 ·have hr : s.readR d n = ([], 1, s) := by simp [ShM.readR, hh]
  rw [hr]
  refine (sh_read_has hS d n hh).mono ?_
  rintro e w' ⟨h1, h2⟩
  exact ⟨_, h1, Fresh.nil _ _, hS.below h2, Turns.of_below h2⟩
def secOf (b : UInt8) : Bytes := ((List.replicate 128 0).set 0 b).set 127 (b ^^^ 85)
theorem secOf_len (b : UInt8) : (secOf b).length = 128 := by simp [secOf]
set_option maxRecDepth 3000 in
theorem sector_any (b : UInt8) (w : World) : Calls Try.prog 11 #[.int .u8 (b.toNat : Int)] w fun e w' =>
  ∃ A c, e = .returned (.slice A 128 c) ∧ Own w' 5 w.heap.size (.slice A 128 c) (secOf b) ∧ Below w.heap.size w w' := by
 have hmb := run_make_rd (P := Try.prog) 32 5 Try.underlying32 Try.infoByte .i64 .i64 128 (by omega)
 rw [show ((128 : Nat) : Int) = 128 from rfl] at hmb
 obtain ⟨zs, hzs⟩ : ∃ zs : List UInt8, zs = List.replicate 128 0 := ⟨_, rfl⟩
 have hzl : zs.length = 128 := by rw [hzs]; simp
 rw [← hzs] at hmb
 have hmw := hmb w
 clear hmb
 have ho := Own.lit w 5 zs 128 hzl (by omega)
 have hB : Below w.heap.size w (w.alloc (.cells (bVs zs).toArray 5)) := (Below.refl _ _).alloc (Nat.le_refl _) _
 obtain ⟨g, hg, _, hg2, hcs⟩ := Own.first ho (by omega)
 injection hg with hg
 injection hg with hg
 subst hg
 have hxb := xor_byte8 b 85
 rw [show ((85 : UInt8).toNat : Int) = 85 from rfl] at hxb
 have c0 := (hcs 0 (by omega)).1
 have f0 := (hcs 0 (by omega)).2
 have e128 : zs.length = 128 := hzl
 have ho1 := ho
 rw [show (128 : Nat) = zs.length from hzl.symm] at ho1
 have ho2 := ho1.set 0 b
 have c1 := ho2.cellG 127 (by simp; omega)
 have f1 := ho2.frozenG 127
 have ho3 := ho2.set 127 (b ^^^ 85)
 have hB3 := (hB.setCell (p := ⟨w.heap.size, 0, none⟩) (Nat.le_refl _) (.int .u8 (b.toNat : Int))).setCell (p := ⟨w.heap.size, 127, none⟩) (Nat.le_refl _) (.int .u8 ((b ^^^ 85).toNat : Int))
 have hl3 : ((zs.set 0 b).set 127 (b ^^^ 85)).length = 128 := by simp [hzl]
 have hsec : (zs.set 0 b).set 127 (b ^^^ 85) = secOf b := by rw [hzs]; rfl
 rw [hl3, hsec] at ho3
 have hw1 : w.heap.size < (w.alloc (.cells (bVs zs).toArray 5)).heap.size := by simp
 rw [UInt8.toNat_xor] at ho3 hB3
 generalize w.alloc (.cells (bVs zs).toArray 5) = w1 at *
 replace hsec := Lib.hid hsec
 replace hl3 := Lib.hid hl3
 replace hzs := Lib.hid hzs
 replace hzl := Lib.hid hzl
 replace e128 := Lib.hid e128
 replace ho := Lib.hid ho
 replace ho1 := Lib.hid ho1
 replace ho2 := Lib.hid ho2
 replace ho3 := Lib.hid ho3
 replace hcs := Lib.hid hcs
 go_enter Try.func11, Try.ntmps11
 go_wp2
 go_ret
 refine ⟨some ⟨w.heap.size, 0, none⟩, 128, rfl, ?_, hB3⟩
 have h := ho3.out
 rw [hzl.out] at h
 exact h
end
end
section
open Go.RowKit
def Sh (base g : Nat) (w : World) (s : ShM) : Prop := base ≤ w.heap.size ∧ ∃ F, ShAt w F s ∧ F.g = g ∧ ∀ b ∈ F.blocks, base ≤ b
theorem Sh.ok {base g : Nat} {w : World} {s : ShM} (h : Sh base g w s) : s.Ok := h.2.choose_spec.1.ok
theorem Sh.size {base g : Nat} {w : World} {s : ShM} (h : Sh base g w s) : base ≤ w.heap.size := h.1
theorem Sh.below {base g : Nat} {w w' : World} {s : ShM} (h : Sh base g w s) (hb : Below w.heap.size w w') : Sh base g w' s := by
 obtain ⟨h0, F, h1, h2, h3⟩ := h
 exact ⟨Nat.le_trans h0 hb.size, F, h1.below hb, h2, h3⟩
theorem Sh.alloc {base g : Nat} {w : World} {s : ShM} (h : Sh base g w s) (o : Obj) : Sh base g (w.alloc o) s := h.below ((Below.refl _ _).alloc (Nat.le_refl _) _)
def KeepL (w : World) (base : Nat) (A : Option Addr) (keep : List (List Int)) : Prop := ∀ B : List Nat, (∀ b ∈ B, base ≤ b) → KeepAt w B A keep
theorem KeepL.nil (w : World) (base : Nat) : KeepL w base none [] := fun _ _ => ⟨⟨[], RdV.nil w, rfl, fun i h => absurd h (by simp)⟩, fun _ _ _ e => by cases e⟩
theorem KeepL.below {w w' : World} {base : Nat} {A : Option Addr} {keep : List (List Int)} (h : KeepL w base A keep) (hb : Below base w w') (hs : base ≤ w.heap.size) : KeepL w' base A keep := by
 intro B hB
 obtain ⟨⟨vs, h1, h2, h3⟩, h4⟩ := h ((List.range (w'.heap.size + 1)).map (· + base) ++ B) (fun b hb => by
  rcases List.mem_append.1 hb with hb | hb
  ·obtain ⟨x, _, rfl⟩ := List.mem_map.1 hb
   exact Nat.le_add_left _ _
  ·exact hB b hb)
 have hlow : ∀ (A : Option Addr) (us : List Value), RdV w A us → (∀ ad, A = some ad → 0 < us.length → ad.block ∉ (List.range (w'.heap.size + 1)).map (· + base) ++ B) → RdV w' A us := by
  intro A us hr ho
  refine ⟨hr.1, hr.2.1, fun ad e i hi => ?_⟩
  have hc := hr.2.2 ad e i hi
  have hlt := World.block_lt_of_cell? w _ hc
  rw [add_block] at hlt
  have hn := ho ad e (Nat.lt_of_le_of_lt (Nat.zero_le _) hi)
  have hlb : ad.block < base := by
   rcases Nat.lt_or_ge ad.block base with h | h
   ·exact h
   ·exfalso
    apply hn
    refine List.mem_append.2 (.inl (List.mem_map.2 ⟨ad.block - base, List.mem_range.2 ?_, by omega⟩))
    have := hb.size
    omega
  exact (hb.cell (p := ad.add i) (by rw [add_block]; exact hlb)).trans hc
 refine ⟨⟨vs, hlow A vs h1 (h4 vs h2), h2, fun i hi => ?_⟩, fun us hu ad e h0 hm => h4 us hu ad e h0 (List.mem_append.2 (.inr hm))⟩
 obtain ⟨Ai, ci, g1, g2, g3⟩ := h3 i hi
 exact ⟨Ai, ci, g1, hlow Ai _ g2 g3, fun ad e h0 hm => g3 ad e h0 (List.mem_append.2 (.inr hm))⟩
section
variable {base g : Nat} {w w1 : World} {s s' : ShM}
theorem Sh.same {F : ShF} {w' : World} {s' : ShM} (h0 : base ≤ w.heap.size) (h3 : ∀ b ∈ F.blocks, base ≤ b) (h : ShAt w' F s') (hT : Turns F.blocks w w') : Sh base F.g w' s' ∧ Below base w w' :=
 ⟨⟨Nat.le_trans h0 hT.size, F, h, rfl, h3⟩, hT.below h3 h0⟩
theorem Fresh.turns {v0 w w' : World} {F : ShF} {u : Value} {bs : Bytes} (hu : Fresh v0 w u bs) (hlt : ∀ b ∈ F.blocks, b < v0.heap.size) (hT : Turns F.blocks w w') : Fresh v0 w' u bs := by
 obtain ⟨A, c, rfl, hA⟩ := hu
 refine ⟨A, c, rfl, ?_⟩
 rcases hA with hA | ⟨x, rfl, hx, hr⟩
 ·exact .inl hA
 ·refine .inr ⟨x, rfl, hx, hr.of_block (hT.block x hr.lt fun hm => ?_)⟩
  have := hlt x hm
  omega
end
end
section
def Room (N : Nat) (s : ShM) : Prop := ∀ e, (s.disk e).waits.length ≤ N
theorem Room.mono {N M : Nat} {s : ShM} (h : Room N s) (hm : N ≤ M) : Room M s := fun e => Nat.le_trans (h e) hm
theorem Room.at_ {N : Nat} {s : ShM} (h : Room N s) (e : Nat) : (s.disk e).waits.length ≤ N := h e
theorem disk_of_disks {s t : ShM} (h : s.disks = t.disks) (e : Nat) : s.disk e = t.disk e := by simp only [ShM.disk, h]
theorem Room.same {N : Nat} {s t : ShM} (h : Room N s) (ht : t.disks = s.disks) : Room N t := fun e => by rw [disk_of_disks ht]; exact h e
theorem Room.set {N : Nat} {s : ShM} (h : Room N s) (d : Nat) (k : DiskM) (hk : k.waits.length ≤ N) : Room N (s.setDisk d k) := by
 intro e
 by_cases hd : d < s.disks.length
 ·by_cases he : e = d
  ·subst he
   rw [s.disk_set hd]
   exact hk
  ·rw [s.disk_set_ne he]
   exact h e
 ·have : s.setDisk d k = s := by
   simp only [ShM.setDisk, List.set_eq_of_length_le (Nat.le_of_not_lt hd)]
  rw [this]
  exact h e
theorem spend_disks (s : ShM) : s.spend.tick.disks = s.disks := by simp only [ShM.tick, ShM.spend]; split <;> rfl
theorem room_fresh (d n : Nat) : Room 0 (freshSh d n) := by
 intro e
 simp only [freshSh, ShM.disk, List.getD_eq_getElem?_getD, List.getElem?_replicate]
 split <;> simp [freshDisk, noDisk]
theorem room_write {N : Nat} {s : ShM} (h : Room N s) (d n : Int) (b : Bytes) : Room (N + 1) (s.writeR d n b).2 := by
 simp only [ShM.writeR]
 split
 ·split
  ·refine Room.set ((h.mono (Nat.le_succ _)).same (spend_disks s)) _ _ ?_
   simp only [DiskM.write, List.length_append, List.length_singleton]
   have := h d.toNat
   omega
  ·exact h.mono (Nat.le_succ _)
 ·exact h.mono (Nat.le_succ _)
theorem room_flush {N : Nat} {s : ShM} (h : Room N s) (d : Int) : Room N (s.flushR d).2 := by
 simp only [ShM.flushR]
 split
 ·split
  ·exact Room.set (h.same (spend_disks s)) _ _ (by simp [DiskM.settle])
  ·exact h
 ·exact h
theorem room_read {N : Nat} {s : ShM} (h : Room N s) (d n : Int) : Room N (s.readR d n).2.2 := by
 simp only [ShM.readR]
 split
 ·split
  ·exact h.same rfl
  ·exact h
 ·exact h
theorem crash_disk (s : ShM) (keep : List (List Int)) {e : Nat} (he : e < s.disks.length) : (s.crash keep).disk e = (s.disk e).settle (keepsOf keep e) := by
 simp only [ShM.crash, ShM.disk, List.getD_eq_getElem?_getD, List.getElem?_mapIdx, List.getElem?_eq_getElem he, Option.map_some, Option.getD_some]
end
section
open Go.RowKit
structure Kept (X : Nat → Prop) (w w' : World) : Prop where
 os : w'.os = w.os
 tape : w'.tape = w.tape
 output : w'.output = w.output
 size : w.heap.size ≤ w'.heap.size
 block : ∀ k, X k → w'.heap[k]? = w.heap[k]?
theorem Kept.refl (X : Nat → Prop) (w : World) : Kept X w w := ⟨rfl, rfl, rfl, Nat.le_refl _, fun _ _ => rfl⟩
theorem Kept.trans {X : Nat → Prop} {a b c : World} (h : Kept X a b) (k : Kept X b c) : Kept X a c :=
 ⟨k.os.trans h.os, k.tape.trans h.tape, k.output.trans h.output, Nat.le_trans h.size k.size, fun i hi => (k.block i hi).trans (h.block i hi)⟩
theorem Kept.drew (X : Nat → Prop) (w : World) : Kept X w w.drew := ⟨rfl, rfl, rfl, Nat.le_refl _, fun _ _ => rfl⟩
theorem Kept.mono {X Y : Nat → Prop} {w w' : World} (h : Kept X w w') (hY : ∀ b, Y b → X b) : Kept Y w w' := ⟨h.os, h.tape, h.output, h.size, fun k hk => h.block k (hY k hk)⟩
theorem Kept.below {X : Nat → Prop} {w w' : World} (h : Kept X w w') {base : Nat} (hb : ∀ b, b < base → X b) : Below base w w' := ⟨h.os, h.tape, h.output, h.size, fun k hk => h.block k (hb k hk)⟩
theorem Kept.of_below {X : Nat → Prop} {w w' : World} (h : Below w.heap.size w w') (hX : ∀ b, X b → b < w.heap.size) : Kept X w w' := ⟨h.os, h.tape, h.output, h.size, fun k hk => h.block k (hX k hk)⟩
theorem Turns.kept {B : List Nat} {w w' : World} {X : Nat → Prop} (h : Turns B w w') (hX : ∀ b, X b → b < w.heap.size) (hB : ∀ b ∈ B, ¬ X b) : Kept X w w' :=
 ⟨h.os, h.tape, h.output, h.size, fun k hk => h.block k (hX k hk) fun hm => hB k hm hk⟩
theorem Kept.rd {X : Nat → Prop} {w w' : World} (h : Kept X w w') {A : Option Addr} {bs : List UInt8} (hr : Rd w A bs) (hX : ∀ ad, A = some ad → X ad.block) : Rd w' A bs :=
 ⟨hr.1, hr.2.1, fun ad e i hi => (World.cell?_of_block (h.block _ (by rw [add_block]; exact hX ad e))).trans (hr.2.2 ad e i hi)⟩
def ShX (X : Nat → Prop) (g : Nat) (w : World) (s : ShM) : Prop := (∀ b, X b → b < w.heap.size) ∧ ∃ F, ShAt w F s ∧ F.g = g ∧ ∀ b ∈ F.blocks, ¬ X b
section
variable {X Y : Nat → Prop} {base g : Nat} {w w1 w' : World} {s s' : ShM}
theorem ShX.lt (h : ShX X g w s) : ∀ b, X b → b < w.heap.size := h.1
theorem ShX.ok (h : ShX X g w s) : s.Ok := h.2.choose_spec.1.ok
theorem ShX.mono (h : ShX X g w s) (hY : ∀ b, Y b → X b) : ShX Y g w s := by
 obtain ⟨h0, F, h1, h2, h3⟩ := h
 exact ⟨fun b hb => h0 b (hY b hb), F, h1, h2, fun b hb hy => h3 b hb (hY b hy)⟩
theorem ShX.other (h : ShX X g w s) (hs : w.heap.size ≤ w'.heap.size) (hb : ∀ b, b < w.heap.size → ¬ X b → w'.heap[b]? = w.heap[b]?) : ShX X g w' s := by
 obtain ⟨h0, F, h1, h2, h3⟩ := h
 exact ⟨fun b hX => Nat.lt_of_lt_of_le (h0 b hX) hs, F, h1.of_blocks fun b hm => hb b (h1.lt b hm) (h3 b hm), h2, h3⟩
theorem ShX.more (h : ShX X g w s) (hs : w.heap.size ≤ w'.heap.size) (hb : ∀ b, b < w.heap.size → ¬ X b → w'.heap[b]? = w.heap[b]?) (hY : ∀ b, Y b → b < w'.heap.size ∧ (X b ∨ w.heap.size ≤ b)) : ShX Y g w' s := by
 obtain ⟨h0, F, h1, h2, h3⟩ := h
 refine ⟨fun b hy => (hY b hy).1, F, h1.of_blocks fun b hm => hb b (h1.lt b hm) (h3 b hm), h2, fun b hm hy => ?_⟩
 rcases (hY b hy).2 with hx | hx
 ·exact h3 b hm hx
 ·have := h1.lt b hm
  omega
theorem ShX.below (h : ShX X g w s) (hb : Below w.heap.size w w') : ShX X g w' s := h.other hb.size fun b hlt _ => hb.block b hlt
theorem ShX.drew (h : ShX X g w s) : ShX X g w.drew s := h.below (Below.refl _ _).drew
theorem ShX.alloc (h : ShX X g w s) (o : Obj) : ShX X g (w.alloc o) s := h.below ((Below.refl _ _).alloc (Nat.le_refl _) _)
theorem ShX.sh (h : ShX X g w s) (hX : ∀ b, b < base → X b) (h0 : base ≤ w.heap.size) : Sh base g w s := by
 obtain ⟨_, F, h1, h2, h3⟩ := h
 refine ⟨h0, F, h1, h2, fun b hb => ?_⟩
 rcases Nat.lt_or_ge b base with hl | hl
 ·exact absurd (hX b hl) (h3 b hb)
 ·exact hl
theorem ShX.to {F F' : ShF} (h0 : ∀ b, X b → b < w.heap.size) (h3 : ∀ b ∈ F.blocks, ¬ X b) (h : ShAt w' F' s') (hT : ShTo w F w' F') : ShX X F.g w' s' ∧ Kept X w w' := by
 refine ⟨⟨fun b hb => Nat.lt_of_lt_of_le (h0 b hb) hT.turns.size, F', h, hT.g, fun b hb hx => ?_⟩, hT.turns.kept h0 h3⟩
 rcases hT.news b hb with h1 | h1
 ·exact h3 b h1 hx
 ·have := h0 b hx
  omega
theorem lx_new (hX : ∀ b, X b → b < w.heap.size) (d n : Nat) (h1 : 1 ≤ d) (h17 : d ≤ 17) (n1 : 1 ≤ n) (n4 : n ≤ 4096) :
  Calls Try.prog 16 #[.int .i64 d, .int .i64 n] w fun e w' =>
   ∃ g, e = .returned (.tuple #[.pointer (some ⟨g, 0, none⟩), .int .i64 0]) ∧ ShX X g w' (freshSh d n) ∧ Below w.heap.size w w' := by
 refine (sh_new w d n h1 h17 n1 n4).mono ?_
 rintro e w' ⟨F, h1, h2, h3, h4⟩
 exact ⟨F.g, h1, ⟨fun b hb => Nat.lt_of_lt_of_le (hX b hb) h3.size, F, h2, rfl, fun b hb hx => by have := h4 b hb; have := hX b hx; omega⟩, h3⟩
theorem lx_write (hS : ShX X g w1 s) (hb : Below w1.heap.size w1 w) (d n : Int) (A : Option Addr) (m c : Nat) (bs : Bytes) (E : Nat) (ho : Own w E w1.heap.size (.slice A m c) bs) (hm : bs.length = m) (hroom : (s.disk d.toNat).waits.length ≤ 1000000000000) :
  Calls Try.prog 22 #[.pointer (some ⟨g, 0, none⟩), .int .i64 d, .int .i64 n, .slice A m c] w fun e w' =>
   e = .returned (.int .i64 (s.writeR d n bs).1) ∧ ShX X g w' (s.writeR d n bs).2 ∧ Kept X w1 w' := by
 obtain ⟨h0, F, h1, rfl, h3⟩ := hS
 have hout : ∀ ad, A = some ad → ad.block ∉ F.blocks := by
  intro ad e hm
  obtain ⟨A', c', hv, _, h2⟩ := ho.form
  injection hv with e1
  subst e1
  obtain ⟨x, rfl, h4, _⟩ := h2 ad e
  have h5 := h1.lt _ hm
  have h6 : w1.heap.size ≤ x := h4
  exact absurd h5 (Nat.not_lt_of_ge h6)
 refine (sh_write (h1.below hb) d n A m c bs ho.rd hm hout hroom).mono ?_
 rintro e w' ⟨F', r1, r2, r3, _⟩
 obtain ⟨r4, r5⟩ := ShX.to (fun b hx => Nat.lt_of_lt_of_le (h0 b hx) hb.size) h3 r2 r3
 exact ⟨r1, r4, (Kept.of_below hb h0).trans r5⟩
theorem lx_write_in (hS : ShX X g w s) (d n : Int) (A : Option Addr) (m c : Nat) (bs : Bytes) (hr : Rd w A bs) (hA : ∀ ad, A = some ad → X ad.block) (hm : bs.length = m) (hroom : (s.disk d.toNat).waits.length ≤ 1000000000000) :
  Calls Try.prog 22 #[.pointer (some ⟨g, 0, none⟩), .int .i64 d, .int .i64 n, .slice A m c] w fun e w' =>
   e = .returned (.int .i64 (s.writeR d n bs).1) ∧ ShX X g w' (s.writeR d n bs).2 ∧ Kept X w w' := by
 obtain ⟨h0, F, h1, rfl, h3⟩ := hS
 refine (sh_write h1 d n A m c bs hr hm (fun ad e hm => h3 _ hm (hA ad e)) hroom).mono ?_
 rintro e w' ⟨F', r1, r2, r3, _⟩
 obtain ⟨r4, r5⟩ := ShX.to h0 h3 r2 r3
 exact ⟨r1, r4, r5⟩
theorem lx_flush (hS : ShX X g w s) (d : Int) : Calls Try.prog 59 #[.pointer (some ⟨g, 0, none⟩), .int .i64 d] w fun e w' =>
   e = .returned (.int .i64 (s.flushR d).1) ∧ ShX X g w' (s.flushR d).2 ∧ Kept X w w' := by
 obtain ⟨h0, F, h1, rfl, h3⟩ := hS
 refine (sh_flush h1 d).mono ?_
 rintro e w' ⟨F', r1, r2, r3, _⟩
 obtain ⟨r4, r5⟩ := ShX.to h0 h3 r2 r3
 exact ⟨r1, r4, r5⟩
theorem ShX.same {F : ShF} (h0 : ∀ b, X b → b < w.heap.size) (h3 : ∀ b ∈ F.blocks, ¬ X b) (h : ShAt w' F s') (hT : Turns F.blocks w w') : ShX X F.g w' s' ∧ Kept X w w' := ShX.to h0 h3 h (ShTo.same hT)
theorem lx_read (hS : ShX X g w s) (d n : Int) (hroom : (s.disk d.toNat).waits.length ≤ 1000000000000) :
  Calls Try.prog 85 #[.pointer (some ⟨g, 0, none⟩), .int .i64 d, .int .i64 n] w fun e w' =>
   ∃ v, e = .returned (.tuple #[v, .int .i64 (s.readR d n).2.1]) ∧ Fresh w w' v (s.readR d n).1 ∧ ShX (fun b => X b ∨ v.ownBlock = some b) g w' (s.readR d n).2.2 ∧ Kept X w w' := by
 obtain ⟨h0, F, h1, rfl, h3⟩ := hS
 refine (sh_read h1 d n hroom).mono ?_
 rintro e w' ⟨v, r1, r2, r3, r4⟩
 refine ⟨v, r1, r2, ⟨fun b hb => ?_, F, r3, rfl, fun b hb hx => ?_⟩, r4.kept h0 h3⟩
 ·rcases hb with hb | hb
  ·exact Nat.lt_of_lt_of_le (h0 b hb) r4.size
  ·obtain ⟨A, c, rfl, hA⟩ := r2
   rcases hA with ⟨rfl, _⟩ | ⟨x, rfl, hx, hr⟩
   ·cases hb
   ·injection hb with hb
    subst hb
    exact hr.lt
 ·rcases hx with hx | hx
  ·exact h3 b hb hx
  ·obtain ⟨A, c, rfl, hA⟩ := r2
   rcases hA with ⟨rfl, _⟩ | ⟨x, rfl, hx', hr⟩
   ·cases hx
   ·injection hx with hx
    subst hx
    have := h1.lt _ hb
    simp only at this
    omega
theorem lx_kill (hS : ShX X g w s) (d : Int) : Calls Try.prog 15 #[.pointer (some ⟨g, 0, none⟩), .int .i64 d] w fun e w' =>
   e = .returned (.int .i64 (s.killR d).1) ∧ ShX X g w' (s.killR d).2 ∧ Kept X w w' := by
 obtain ⟨h0, F, h1, rfl, h3⟩ := hS
 refine (sh_kill h1 d).mono ?_
 rintro e w' ⟨r1, r3, r4⟩
 have hsn : seenF s = seenF (s.killR d).2 := by
  unfold ShM.killR
  split
  ·rename_i hh
   obtain ⟨⟨hd0, hd1⟩, _⟩ := has_of hh
   have hd : d.toNat < s.disks.length := by omega
   show seenF s = seenF (s.setDisk d.toNat { s.disk d.toNat with dead := true })
   exact (seenF_same hd { s.disk d.toNat with dead := true } rfl).symm
  ·rfl
 rw [hsn] at r3
 obtain ⟨r5, r6⟩ := ShX.same h0 h3 r3 r4
 exact ⟨r1, r5, r6⟩
theorem lx_stop (hS : ShX X g w s) (n : Int) : Calls Try.prog 14 #[.pointer (some ⟨g, 0, none⟩), .int .i64 n] w fun e w' =>
   e = .returned (.tuple #[]) ∧ ShX X g w' (s.stop n) ∧ Kept X w w' := by
 obtain ⟨h0, F, h1, rfl, h3⟩ := hS
 refine (sh_stop h1 n).mono ?_
 rintro e w' ⟨r1, r3, r4⟩
 have hsn : seenF s = seenF (s.stop n) := by
  simp only [ShM.stop]
  split <;> rfl
 rw [hsn] at r3
 obtain ⟨r5, r6⟩ := ShX.same h0 h3 r3 r4
 exact ⟨r1, r5, r6⟩
theorem lx_off (hS : ShX X g w s) : Calls Try.prog 36 #[.pointer (some ⟨g, 0, none⟩)] w fun e w' => e = .returned (.bool s.off) ∧ w = w' := by
 obtain ⟨h0, F, h1, rfl, h3⟩ := hS
 exact sh_off h1
theorem lx_count (hS : ShX X g w s) : Calls Try.prog 9 #[.pointer (some ⟨g, 0, none⟩)] w fun e w' => e = .returned (.int .i64 s.count) ∧ w = w' := by
 obtain ⟨h0, F, h1, rfl, h3⟩ := hS
 exact sh_count h1
theorem lx_dead (hS : ShX X g w s) (d : Int) : Calls Try.prog 96 #[.pointer (some ⟨g, 0, none⟩), .int .i64 d] w fun e w' => e = .returned (.bool (s.deadR d)) ∧ w = w' := by
 obtain ⟨h0, F, h1, rfl, h3⟩ := hS
 exact sh_dead h1 d
theorem lx_size (hS : ShX X g w s) : Calls Try.prog 51 #[.pointer (some ⟨g, 0, none⟩)] w fun e w' => e = .returned (.tuple #[.int .i64 (s.disks.length : Nat), .int .i64 (s.sectors : Nat)]) ∧ Below w.heap.size w w' := by
 obtain ⟨h0, F, h1, rfl, h3⟩ := hS
 exact sh_size h1
end
end
section
open Go.RowKit
def TwoX (X : Nat → Prop) (g1 g2 : Nat) (w : World) (s t : ShM) : Prop :=
 (∀ b, X b → b < w.heap.size) ∧ ∃ F G, ShAt w F s ∧ ShAt w G t ∧ F.g = g1 ∧ G.g = g2 ∧ (∀ b ∈ F.blocks, ¬ X b) ∧ (∀ b ∈ G.blocks, ¬ X b) ∧ ∀ b ∈ F.blocks, b ∉ G.blocks
section
variable {X : Nat → Prop} {g1 g2 : Nat} {w w' : World} {s t : ShM}
theorem TwoX.lt (h : TwoX X g1 g2 w s t) : ∀ b, X b → b < w.heap.size := h.1
theorem TwoX.ok (h : TwoX X g1 g2 w s t) : s.Ok ∧ t.Ok := by
 obtain ⟨h0, F, G, h1, h2, h3⟩ := h
 exact ⟨h1.ok, h2.ok⟩
theorem TwoX.mono (h : TwoX X g1 g2 w s t) {Y : Nat → Prop} (hY : ∀ b, Y b → X b) : TwoX Y g1 g2 w s t := by
 obtain ⟨h0, F, G, h1, h2, h3, h4, h5, h6, h7⟩ := h
 exact ⟨fun b hb => h0 b (hY b hb), F, G, h1, h2, h3, h4, fun b hb hx => h5 b hb (hY b hx), fun b hb hx => h6 b hb (hY b hx), h7⟩
theorem TwoX.below (h : TwoX X g1 g2 w s t) (hb : Below w.heap.size w w') : TwoX X g1 g2 w' s t := by
 obtain ⟨h0, F, G, h1, h2, h3, h4, h5, h6, h7⟩ := h
 exact ⟨fun b hx => Nat.lt_of_lt_of_le (h0 b hx) hb.size, F, G, h1.below hb, h2.below hb, h3, h4, h5, h6, h7⟩
theorem TwoX.more (h : TwoX X g1 g2 w s t) (hb : Below w.heap.size w w') {Y : Nat → Prop} (hY : ∀ b, Y b → b < w'.heap.size ∧ (X b ∨ w.heap.size ≤ b)) : TwoX Y g1 g2 w' s t := by
 obtain ⟨h0, F, G, h1, h2, h3, h4, h5, h6, h7⟩ := h
 refine ⟨fun b hx => (hY b hx).1, F, G, h1.below hb, h2.below hb, h3, h4, fun b hm hx => ?_, fun b hm hx => ?_, h7⟩
 ·rcases (hY b hx).2 with hx | hx
  ·exact h5 b hm hx
  ·have := h1.lt b hm; omega
 ·rcases (hY b hx).2 with hx | hx
  ·exact h6 b hm hx
  ·have := h2.lt b hm; omega
theorem Fresh.form2 {v : Value} {bs : Bytes} (h : Fresh w w' v bs) (hl : bs.length ≤ 9223372036854775807) :
  ∃ A c, v = .slice A bs.length c ∧ Rd w' A bs ∧ (∀ ad, A = some ad → v.ownBlock = some ad.block) ∧ ∀ b, v.ownBlock = some b → w.heap.size ≤ b := by
 obtain ⟨A, c, rfl, h2, h3⟩ := h.form hl
 obtain ⟨A', c', e, hA⟩ := h
 injection e with e1 e2 e3
 subst e1
 rcases hA with ⟨rfl, _⟩ | ⟨x, rfl, hx, hr⟩
 ·exact ⟨none, c, rfl, h2, (fun _ e => by cases e), (fun _ e => by cases e)⟩
 ·refine ⟨_, c, rfl, h2, fun ad e => ?_, fun b e => ?_⟩
  ·injection e with e
   subst e
   rfl
  ·injection e with e
   subst e
   exact hx.1
end
end
section
theorem readR_len {s : ShM} (hok : s.Ok) (d n : Int) : (s.readR d n).1.length ≤ 128 := by
 simp only [ShM.readR]
 split
 ·rename_i h
  obtain ⟨⟨h1, h2⟩, h3, h4⟩ := has_of h
  split
  ·exact Nat.le_of_eq (read_len hok (by omega) (by omega))
  ·simp
 ·simp
end
section
open Go.RowKit
theorem settleL_not (keeps : Nat → Bool) (n : Nat) : ∀ (l : List (Nat × Bytes)) (j : Nat) (sure : List Bytes), (∀ x ∈ l, x.1 ≠ n) → (settleL keeps j l sure).getD n [] = sure.getD n []
 | [], _, _, _ => rfl
 | x :: l, j, sure, h => by
  rw [settleL, settleL_not keeps n l _ _ (fun y hy => h y (List.mem_cons_of_mem _ hy))]
  split
  ·have hx := h x List.mem_cons_self
   simp only [List.getD_eq_getElem?_getD, List.getElem?_set_ne hx]
  ·rfl
structure SureInv (n : Nat) (b : UInt8) (s : ShM) : Prop where
 disks : s.disks.length = 3
 sectors : s.sectors = 8
 alive : (s.disk 2).dead = false
 sure : (s.disk 2).sure.getD n [] = secOf b
 none_ : ∀ x ∈ (s.disk 2).waits, x.1 ≠ n
section
variable {n : Nat} {b : UInt8} {s t : ShM}
theorem SureInv.same (h : SureInv n b s) (hd : t.disks = s.disks) (hs : t.sectors = s.sectors) : SureInv n b t :=
 ⟨by rw [hd]; exact h.disks, hs.trans h.sectors, by rw [disk_of_disks hd]; exact h.alive, by rw [disk_of_disks hd]; exact h.sure, by rw [disk_of_disks hd]; exact h.none_⟩
theorem SureInv.set (h : SureInv n b s) (d : Nat) (k : DiskM) (hk : d = 2 → k.dead = false ∧ k.sure.getD n [] = secOf b ∧ ∀ x ∈ k.waits, x.1 ≠ n) : SureInv n b (s.setDisk d k) := by
 by_cases e : d = 2
 ·subst e
  have h2 := s.disk_set (d := 2) (by rw [h.disks]; omega) k
  obtain ⟨k1, k2, k3⟩ := hk rfl
  exact ⟨by rw [s.set_len]; exact h.disks, h.sectors, by rw [h2]; exact k1, by rw [h2]; exact k2, by rw [h2]; exact k3⟩
 ·have h2 := s.disk_set_ne (d := d) (e := 2) (fun x => e x.symm) k
  exact ⟨by rw [s.set_len]; exact h.disks, h.sectors, by rw [h2]; exact h.alive, by rw [h2]; exact h.sure, by rw [h2]; exact h.none_⟩
theorem spend_sectors (s : ShM) : s.spend.tick.sectors = s.sectors := by simp only [ShM.tick, ShM.spend]; split <;> rfl
theorem has_nonneg {d m : Int} (h : s.has d m = true) : 0 ≤ d ∧ 0 ≤ m := by
 simp only [ShM.has, decide_eq_true_eq] at h
 exact ⟨h.1, h.2.2.1⟩
theorem SureInv.write (h : SureInv n b s) (d m : Int) (bs : Bytes) (hx : ¬ (d = 2 ∧ m = n)) : SureInv n b (s.writeR d m bs).2 := by
 simp only [ShM.writeR]
 split
 ·rename_i hh
  split
  ·refine (h.same (spend_disks s) (spend_sectors s)).set _ _ fun e => ?_
   obtain ⟨h0, h1⟩ := has_nonneg hh.1
   have hm : m.toNat ≠ n := fun e' => hx ⟨by omega, by omega⟩
   rw [e]
   refine ⟨h.alive, h.sure, fun x hx => ?_⟩
   rcases List.mem_append.1 hx with hx | hx
   ·exact h.none_ x hx
   ·rw [List.mem_singleton.1 hx]
    exact hm
  ·exact h
 ·exact h
theorem SureInv.flush (h : SureInv n b s) (d : Int) : SureInv n b (s.flushR d).2 := by
 simp only [ShM.flushR]
 split
 ·split
  ·refine (h.same (spend_disks s) (spend_sectors s)).set _ _ fun e => ?_
   rw [e]
   exact ⟨h.alive, (settleL_not _ n _ _ _ h.none_).trans h.sure, fun x hx => by cases hx⟩
  ·exact h
 ·exact h
theorem SureInv.crash (h : SureInv n b s) (keep : List (List Int)) : SureInv n b (s.crash keep) := by
 have hd := crash_disk s keep (e := 2) (by rw [h.disks]; omega)
 exact ⟨by simp [ShM.crash, h.disks], h.sectors, by rw [hd]; exact h.alive, by rw [hd]; exact (settleL_not _ n _ _ _ h.none_).trans h.sure, by rw [hd]; exact fun x hx => by cases hx⟩
theorem SureInv.stop (h : SureInv n b s) (m : Int) : SureInv n b (s.stop m) := by
 simp only [ShM.stop]
 split
 ·exact h
 ·exact h.same rfl rfl
def ss1 (n : Nat) (b : UInt8) : ShM := ((freshSh 3 8).writeR 2 n (secOf b)).2
end
end
end Go.Proofs.Ytajnlhalanhicaa

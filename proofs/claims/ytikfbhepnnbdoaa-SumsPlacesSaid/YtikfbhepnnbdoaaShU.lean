/-
  THE WALK over the shelf's Read, where a write of the sector waits: the range over slices.Backward.
-/
import Derived.Test.YtikfbhepnnbdoaaShT
namespace Go.Proofs.Ytikfbhepnnbdoaa
set_option linter.all false
open Go.RowKit Go.Shelf

attribute [local go_sem] Oper.semAt_some

theorem with_act {C : Code} {Q : Exit → Act → World → Prop} {F : Fence} {n : Nat} {P : Program} {a : Act} {w : World} (h : ∀ a0 : Act, a0 = a → C.wpIn F n P Q a0 w) : C.wpIn F n P Q a w := h a rfl
theorem block_kept {W W' : World} {row : Option Nat} {g : Nat} {o : Obj} (h : W.heap[g]? = some o) (ho : o.isCells = true) (hg : W.grownBy W' row) (hr : ∀ r, row = some r → ∃ o : Obj, W.heap[r]? = some o ∧ o.isCells = false) : W'.heap[g]? = W.heap[g]? := by
  refine hg.block g (Array.getElem?_eq_some_iff.1 h).1 fun e => ?_
  obtain ⟨o', h1, h2⟩ := hr g e.symm
  rw [h] at h1
  injection h1 with h1
  rw [h1, h2] at ho
  cases ho
theorem RowM.kept {W W' : World} {row : Option Nat} {g : Nat} {bs : Bytes} (h : RowM W g bs) (hg : W.grownBy W' row) (hr : ∀ r, row = some r → ∃ o : Obj, W.heap[r]? = some o ∧ o.isCells = false) : RowM W' g bs := by
  obtain ⟨z, e, m, h1, h2⟩ := id h
  exact h.of_block (block_kept h1 rfl hg hr)
theorem KeepsFrom.of_below {B : Nat} {W W' : World} (h : Below W.heap.size W W') : KeepsFrom B W W' :=
  ⟨h.size, fun k _ _ hk _ => (h.block k (Array.getElem?_eq_some_iff.1 hk).1).trans hk⟩

theorem setCell_blk {Y : World} {b : Nat} {v : Value} {t : TypeId} (u : Value) (h : Y.heap[b]? = some (.cells #[v] t)) : (Y.setCell ⟨b, 0, none⟩ u).heap[b]? = some (.cells #[u] t) := heap_setCell_same Y b 0 _ _ u h
/-- the loop's boxes: the sector's number, the two results; the box of the slice -/
structure RBox (W : World) (B Bs : Nat) (n : Int) (r1 r2 : Value) (sl : Value) : Prop where
  num : W.heap[B]? = some (.cells #[.int .i64 n] 3)
  res1 : W.heap[B + 1]? = some (.cells #[r1] 28)
  res2 : W.heap[B + 1 + 1]? = some (.cells #[r2] 22)
  box : W.heap[Bs]? = some (.cells #[sl] 72)
theorem RBox.kept {W W' : World} {row : Option Nat} {B Bs : Nat} {n : Int} {r1 r2 sl : Value} (h : RBox W B Bs n r1 r2 sl) (hg : W.grownBy W' row) (hr : ∀ r, row = some r → ∃ o : Obj, W.heap[r]? = some o ∧ o.isCells = false) : RBox W' B Bs n r1 r2 sl :=
  ⟨(block_kept h.num rfl hg hr).trans h.num, (block_kept h.res1 rfl hg hr).trans h.res1, (block_kept h.res2 rfl hg hr).trans h.res2, (block_kept h.box rfl hg hr).trans h.box⟩
theorem RBox.below {W W' : World} {B Bs : Nat} {n : Int} {r1 r2 sl : Value} (h : RBox W B Bs n r1 r2 sl) (hb : Below W.heap.size W W') : RBox W' B Bs n r1 r2 sl :=
  ⟨(hb.block _ (lt_of_blk h.num)).trans h.num, (hb.block _ (lt_of_blk h.res1)).trans h.res1, (hb.block _ (lt_of_blk h.res2)).trans h.res2, (hb.block _ (lt_of_blk h.box)).trans h.box⟩

theorem RBox.stored {Y : World} {B Bs : Nat} {n : Int} {r1 r2 sl : Value} (h : RBox Y B Bs n r1 r2 sl) (h1 : Bs ≠ B + 1) (h2 : Bs ≠ B + 1 + 1) (v1 v2 : Value) : RBox ((Y.setCell ⟨B + 1, 0, none⟩ v1).setCell ⟨B + 1 + 1, 0, none⟩ v2) B Bs n v1 v2 sl := by
  refine ⟨?_, ?_, ?_, ?_⟩
  · exact (heap_setCell_other _ _ _ _ (by show B ≠ B + 1 + 1; omega)).trans ((heap_setCell_other _ _ _ _ (by show B ≠ B + 1; omega)).trans h.num)
  · exact (heap_setCell_other _ _ _ _ (by show B + 1 ≠ B + 1 + 1; omega)).trans (setCell_blk v1 h.res1)
  · exact setCell_blk v2 ((heap_setCell_other _ _ _ _ (by show B + 1 + 1 ≠ B + 1; omega)).trans h.res2)
  · exact (heap_setCell_other _ _ _ _ h2).trans ((heap_setCell_other _ _ _ _ h1).trans h.box)

theorem lastOf_back (ws : List (Nat × Bytes)) (n k : Nat) (hk : k < ws.length) (h1 : ∀ j, j < k → (backF ws j).2.1 ≠ n) (h2 : (backF ws k).2.1 = n) : lastOf ws n = some (backF ws k).2.2 := by
  have hget : ∀ j (h : j < ws.length), ws.reverse[j]'(by simpa using h) = (backF ws j).2 := by
    intro j h
    rw [List.getElem_reverse]
    simp only [backF, List.getD_eq_getElem?_getD]
    rw [List.getElem?_eq_getElem (by omega)]
    rfl
  have : ws.reverse.find? (fun w => w.1 == n) = some (backF ws k).2 := by
    rw [List.find?_eq_some_iff_getElem]
    refine ⟨by simpa using h2, k, by simpa using hk, hget k hk, fun j hj => ?_⟩
    rw [hget j (by omega)]
    simpa using h1 j hj
  rw [lastOf, this]
  rfl

/-- between two rounds -/
structure LoopI (X : World) (B Bs n : Nat) (sl : Value) (pre : List Back) (Y : World) : Prop where
  box : RBox Y B Bs n (.slice none 0 0) (.int .i64 0) sl
  none_ : ∀ x ∈ pre, x.2.1 ≠ n
  below : Below B X Y
/-- a round has left the function -/
structure LoopX (X : World) (B Bs n : Nat) (sl : Value) (c : Code) (pre : List Back) (Y : World) : Prop where
  ret : c = .ret
  found : ∃ (ini : List Back) (last : Back) (g cb : Nat), pre = ini ++ [last] ∧ (∀ x ∈ ini, x.2.1 ≠ n) ∧ last.2.1 = n ∧ (B + 3 ≤ g ∧ last.2.2.length ≤ cb) ∧ RowM Y g last.2.2 ∧ RBox Y B Bs n (.slice (some ⟨g, 0, none⟩) last.2.2.length cb) (.int .i64 0) sl
  below : Below B X Y

section
variable {w : World} {F : ShF} {s : ShM}

set_option maxRecDepth 100000 in
set_option maxHeartbeats 2000000 in
theorem sh_read_wait (hS : ShAt w F s) (d n : Nat) (hh : s.has d n = true) (hw : s.why d = 0) (h0 : waitsOf (s.disk d).waits n ≠ 0) (hroom : (s.disk d).waits.length ≤ 1000000000000) (bs : Bytes) (hbs : lastOf (s.disk d).waits n = some bs) :
    Calls Try.prog 24 #[.pointer (some ⟨F.g, 0, none⟩), .int .i64 d, .int .i64 n] w fun e w' =>
    ∃ v, e = .returned (.tuple #[v, .int .i64 0]) ∧ ReadRow w w' v bs ∧ ShAt w' F s.tick ∧ Turns F.blocks w w' := by
  obtain ⟨hA0, hA1, hA2, hA3, hB⟩ := three_blocks w (.cells #[.int .i64 (n : Int)] 3) (.cells #[.slice none 0 0] 28) (.cells #[.int .i64 0] 22)
  have hSB := hS.below hB
  have hhas := sh_has hSB d n
  rw [hh] at hhas
  obtain ⟨⟨hd0, hd1⟩, hn0, hn1⟩ := has_of hh
  have hd' : d < s.disks.length := by omega
  have hready := sh_ready hSB d hd' false
  simp only [Bool.false_eq_true, and_false, if_false, hw] at hready
  have hlt := hS.lt _ F.mem_g
  have hlt1 : ∀ b ∈ F.blocks, b < w.heap.size := hS.lt
  refine (callsIn_wide (n := 6)).1 ?_
  refine callsIn_of_wp_marks Try.func24 rfl trivial ?_ rfl
  simp only [Try.ntmps24, List.size_toArray, List.length_cons, List.length_nil, Nat.reduceAdd, Nat.reduceSub, Array.replicate_succ, Array.replicate_zero, List.push_toArray, List.append_toArray, List.nil_append, List.cons_append]
  refine wpIn_wide.2 ?_
  go_wp2_with fail
  refine hhas.mono ?_
  rintro e w' ⟨rfl, rfl⟩
  go_wp2_with fail
  refine hready.mono ?_
  rintro e w1 ⟨rfl, hS1, hT1⟩
  clear hhas hready
  have hT1' : Turns F.blocks w w1 := (Turns.of_below hB).trans hT1
  have hw1 : ∀ k, w.heap.size ≤ k → k < w.heap.size + 3 → w1.heap[k]? = (((w.alloc (.cells #[.int .i64 (n : Int)] 3)).alloc (.cells #[.slice none 0 0] 28)).alloc (.cells #[.int .i64 0] 22)).heap[k]? := fun k h1 h2 =>
    hT1.block k (by omega) (fun hm => by have := hlt1 _ hm; omega)
  have g0 := (hw1 (w.heap.size) (by omega) (by omega)).trans hA0
  have g1 := (hw1 (w.heap.size + 1) (by omega) (by omega)).trans hA1
  have g2 := (hw1 (w.heap.size + 1 + 1) (by omega) (by omega)).trans hA2
  have hsz1 : w.heap.size + 3 ≤ w1.heap.size := by rw [← hA3]; exact hT1.size
  clear hA0 hA1 hA2 hA3 hw1 hT1 hB hSB
  have hc4 := hS1.c4
  have hf4 := hS1.frozen 4
  have hS2 := hS1.setCount (wrap64 (s.count + 1))
  have hT2 := hT1'.setCell (a := ⟨F.g, 4, none⟩) F.mem_g (.int .i64 (wrap64 (s.count + 1)))
  have hne : ∀ k, w.heap.size ≤ k → (w1.setCell ⟨F.g, 4, none⟩ (.int .i64 (wrap64 (s.count + 1)))).heap[k]? = w1.heap[k]? := fun k hk => heap_setCell_other _ _ _ _ (by show k ≠ F.g; omega)
  replace g0 := (hne _ (by omega)).trans g0
  replace g1 := (hne _ (by omega)).trans g1
  replace g2 := (hne _ (by omega)).trans g2
  have hsz2 : w.heap.size + 3 ≤ (w1.setCell ⟨F.g, 4, none⟩ (.int .i64 (wrap64 (s.count + 1)))).heap.size := by simpa using hsz1
  have hlt2 := hS1.lt _ F.mem_g
  clear hne
  go_wp2_with fail
  have hs2 : { s with count := wrap64 (s.count + 1) } = s.tick := rfl
  rw [hs2] at hS2
  have hdk : s.tick.disk d = s.disk d := rfl
  have hdl : s.tick.disks = s.disks := rfl
  have hsn : seenF s.tick = seenF s := rfl
  generalize w1.setCell ⟨F.g, 4, none⟩ (.int .i64 (wrap64 (s.count + 1))) = W at *
  have h4096 := hS.ok.sectors4096
  have h17 := hS.ok.disks17
  have hd7 : smallN d := by unfold smallN; omega
  have hn7 : smallN n := by unfold smallN; omega
  have hlook := hS2.drew.seen.look Try.pairMap d n hd7 hn7
  have hseen : seenF s d n = waitsOf (s.disk d).waits n := by simp only [seenF, if_pos hd']
  rw [hseen] at hlook
  unfold pairV at hlook
  have hqp : (0 : Int) < ((waitsOf (s.disk d).waits n : Nat) : Int) := by omega
  generalize hq : waitsOf (s.disk d).waits n = q at *
  replace hq := Lib.hid hq
  have hc5 := hS2.c5
  have k0 := cell_of_row _ _ 0 _ _ _ g0
  have k1 := cell_of_row _ _ 0 _ _ _ g1
  have k2 := cell_of_row _ _ 0 _ _ _ g2
  have f0 := frozen_of_row _ _ 0 _ _ g0
  have f1 := frozen_of_row _ _ 0 _ _ g1
  have f2 := frozen_of_row _ _ 0 _ _ g2
  simp only [List.getElem?_toArray, List.getElem?_cons_zero] at k0 k1 k2
  have q5 : W.drew.cell? ⟨F.g, 5, none⟩ = some (.map (some F.gm)) := hc5
  have q0 : W.drew.cell? ⟨w.heap.size, 0, none⟩ = some (.int .i64 (n : Int)) := k0
  replace hseen := Lib.hid hseen
  replace hsn := Lib.hid hsn
  replace hdk := Lib.hid hdk
  replace hdl := Lib.hid hdl
  replace hs2 := Lib.hid hs2
  replace hw := Lib.hid hw
  replace hbs := Lib.hid hbs
  clear h0
  go_region_held3 (fun w' => w'.cell? ⟨F.g, 5, none⟩ = some (.map (some F.gm)) ∧ w'.cell? ⟨w.heap.size, 0, none⟩ = some (.int .i64 (n : Int)) ∧ (Instr.lookup 66 (.map (some F.gm)) (.agg #[.int .i64 (d : Int), .int .i64 (n : Int)]) false).run Try.prog w' = .ok (.int .i64 (q : Int)) w')
    ((refine ⟨?_, ?_, ?_⟩ <;> assumption)) (fail)
  clear hlook
  have hS3 : ShAtM W.drew F s.tick (seenF s) := hS2.drew
  have hdt : d < s.tick.disks.length := by rw [hdl.out]; exact hd'
  have hc2 := hS3.c2
  rw [hdl.out] at hc2
  have he1 := hS3.e1 hdt
  have hrow := hS3.ewaits hdt
  rw [hdk.out] at hrow
  generalize hws : (s.disk d).waits = ws at *
  replace hws := Lib.hid hws
  obtain ⟨A, cw, hv, hcap, hg⟩ := ownsRow_form hrow
  rw [hv] at he1 hrow
  have hpos : 0 < ws.length := by
    rcases Nat.eq_zero_or_pos ws.length with h | h
    · have : ws = [] := List.eq_nil_of_length_eq_zero h
      rw [this] at hq
      have := hq.out
      simp [waitsOf] at this
      omega
    · exact h
  obtain ⟨ad, rfl⟩ : ∃ ad, A = some ad := by
    rcases hrow.2 with ⟨_, h1⟩ | ⟨g, cap, cur, hv', _⟩
    · omega
    · injection hv' with e1
      exact ⟨_, e1⟩
  obtain ⟨gw, rfl, _, _⟩ := hg ad rfl
  have hgw : gw < w.heap.size := hlt1 _ (F.mem_wv (hS3.fd hdt) (by rw [hv]; rfl))
  have hcell : ∀ j, j < ws.length → W.drew.cell? ⟨gw, j * 2, none⟩ = some (.int .i64 ((ws.getD j (0, [])).1 : Int)) ∧ W.drew.cell? ⟨gw, j * 2 + 1, none⟩ = some (.string ⟨(ws.getD j (0, [])).2.toArray⟩) := by
    intro j hj
    have hx0 := World.ownsRow.cellAt hrow (j * 2) (by omega)
    have hx1 := World.ownsRow.cellAt hrow (j * 2 + 1) (by omega)
    have hy0 := waitsV_get ws j 0 hj (by omega)
    have hy1 := waitsV_get ws j 1 hj (by omega)
    rw [Nat.add_zero] at hy0
    rw [hy0] at hx0
    rw [hy1] at hx1
    simp only [waitV, List.getElem?_cons_zero, List.getElem?_cons_succ, strV] at hx0 hx1
    have e : ws.getD j (0, []) = ws[j] := by simp [List.getD_eq_getElem?_getD, hj]
    rw [e]
    exact ⟨hx0, hx1⟩
  clear hg hv hrow hcap
  replace hcell := Lib.hid hcell
  go_wp2_with fail
  refine (callsIn_wide.1 (back_in Fence.wide 5 trivial rfl _ _ _ _)).mono ?_
  rintro e w' ⟨rfl, rfl⟩
  go_wp2_with fail
  have hX : Below W.heap.size W ((W.alloc (.cells #[.slice (some ⟨gw, 0, none⟩) ws.length cw] 72)).drew) := ((Below.refl _ _).alloc (Nat.le_refl _) _).drew
  have hXs : ((W.alloc (.cells #[.slice (some ⟨gw, 0, none⟩) ws.length cw] 72)).drew).heap.size = W.heap.size + 1 := by simp
  have hXb : ((W.alloc (.cells #[.slice (some ⟨gw, 0, none⟩) ws.length cw] 72)).drew).heap[W.heap.size]? = some (.cells #[.slice (some ⟨gw, 0, none⟩) ws.length cw] 72) := heap_alloc_new W _
  have hR0 : RBox ((W.alloc (.cells #[.slice (some ⟨gw, 0, none⟩) ws.length cw] 72)).drew) w.heap.size W.heap.size n (.slice none 0 0) (.int .i64 0) (.slice (some ⟨gw, 0, none⟩) ws.length cw) :=
    ⟨(hX.block _ (by omega)).trans g0, (hX.block _ (by omega)).trans g1, (hX.block _ (by omega)).trans g2, hXb⟩
  have hWt : Waits w.heap.size ((W.alloc (.cells #[.slice (some ⟨gw, 0, none⟩) ws.length cw] 72)).drew) gw cw ws :=
    ⟨hgw, fun j hj => ⟨(hX.cell (p := ⟨gw, j * 2, none⟩) (by show gw < _; omega)).trans (hcell.out j hj).1, (hX.cell (p := ⟨gw, j * 2 + 1, none⟩) (by show gw < _; omega)).trans (hcell.out j hj).2⟩⟩
  refine (wpIn_wide (n := 6)).1 ?_
  generalize (W.alloc (.cells #[.slice (some ⟨gw, 0, none⟩) ws.length cw] 72)).drew = X at *
  have hXs1 : W.heap.size + 1 ≤ X.heap.size := by omega
  have hXs2 : X.heap.size ≤ W.heap.size + 1 := by omega
  clear hXs
  refine with_act ?_
  intro a0 ha0
  have hc0 : X.cell? ⟨W.heap.size, 0, none⟩ = some (.slice (some ⟨gw, 0, none⟩) ws.length cw) := cell_of_row X W.heap.size 0 _ _ _ hXb
  refine wpIn_rangeFunc_ownH (F := Fence.wide) (n := 6) (α := Back) rfl (by omega) (gf := 56) (lb := #[.pointer (some ⟨W.heap.size, 0, none⟩)]) (by rw [ha0]; rfl) trivial (enters_of Try.func56 (by kernel_rfl) rfl)
    (back_stops Fence.wide 5 trivial rfl (by omega) W.heap.size w.heap.size gw cw ws hroom X (by omega) (by omega) hc0 hWt) (fun h k => h.trans k)
    (fun Y l o o' hl ho hc hk => ⟨belowK_b (w := X) (by omega) Y l o o' hl ho hc hk, World.putObj_heap_other (by omega)⟩) (Below.refl _ _) (fun _ => rfl)
    (LoopI X w.heap.size W.heap.size n (.slice (some ⟨gw, 0, none⟩) ws.length cw))
    (LoopX X w.heap.size W.heap.size n (.slice (some ⟨gw, 0, none⟩) ws.length cw))
    (fun pre Y Z row hs hg hr => ⟨hs.box.kept hg (fun r e => (hr r e).2), hs.none_, ownFrom_below (B := X.heap.size) (by omega) (by omega) () Y Z row hs.below hg hr⟩)
    (fun c pre Y Z row hs hg hr => by
      obtain ⟨hc, ⟨ini, last, g, cb, e1, e2, e3, e4, e5, e6⟩, hb⟩ := hs
      exact ⟨hc, ⟨ini, last, g, cb, e1, e2, e3, e4, e5.kept hg (fun r e => (hr r e).2), e6.kept hg (fun r e => (hr r e).2)⟩, ownFrom_below (B := X.heap.size) (by omega) (by omega) () Y Z row hb hg hr⟩)
    ⟨hR0, by simp, Below.refl _ _⟩
    (fun x a' Y => ∃ Bx, w.heap.size + 3 ≤ Bx ∧ Bx ≠ W.heap.size ∧ Y.heap[Bx]? = some (.cells #[.int .i64 (x.2.1 : Int), .string ⟨x.2.2.toArray⟩] 92) ∧
      a' = { tmps := ((a0.tmps.setIfInBounds 49 (.int .i64 (x.1 : Int))).setIfInBounds 50 (.agg #[.int .i64 (x.2.1 : Int), .string ⟨x.2.2.toArray⟩])).setIfInBounds 10 (.pointer (some ⟨Bx, 0, none⟩)), defers := [] })
    (fun x a' _ Y Z row hs hg hr => by
      obtain ⟨Bx, e1, e2, e3, e4⟩ := hs
      exact ⟨Bx, e1, e2, (block_kept e3 rfl hg (fun r e => (hr r e).2)).trans e3, e4⟩)
    ?assign ?body ?done ?stop
  case assign =>
    rintro l pre x Y K ⟨hRb, hpre, hB⟩ hK
    subst ha0
    obtain ⟨i0, n1, b1⟩ := x
    have hAl : Below Y.heap.size Y (Y.alloc (.cells #[.int .i64 (n1 : Int), .string ⟨b1.toArray⟩] 92)) := (Below.refl _ _).alloc (Nat.le_refl _) _
    have hBY := hB.size
    simp only [backE]
    gi_wp2
    refine hK _ _ ((KeepsOthers.alloc _ _).from _) ⟨hAl.mono (by omega), hAl.block _ (lt_of_blk hRb.box)⟩ ⟨hRb.below hAl, hpre, hB.trans (hAl.mono (by omega))⟩ ⟨Y.heap.size, by omega, by omega, heap_alloc_new Y _, ?_⟩
    simp
  case body =>
    rintro l pre x a' Y hl ⟨r, hr⟩ ⟨hRb, hpre, hB⟩ ⟨Bx, hBx, hBx2, hbx, rfl⟩ hlt3
    subst ha0
    obtain ⟨i0, n1, b1⟩ := x
    have kb0 := cell_of_row Y Bx 0 _ _ _ hbx
    have kb1 := cell_of_row Y Bx 1 _ _ _ hbx
    have kn := cell_of_row Y w.heap.size 0 _ _ _ hRb.num
    have kr1 := cell_of_row Y (w.heap.size + 1) 0 _ _ _ hRb.res1
    have kr2 := cell_of_row Y (w.heap.size + 1 + 1) 0 _ _ _ hRb.res2
    simp only [List.getElem?_toArray, List.getElem?_cons_zero, List.getElem?_cons_succ] at kb0 kb1 kn kr1 kr2
    simp only [List.setIfInBounds_toArray, List.set_cons_succ, List.set_cons_zero]
    have hBY := hB.size
    have hfr : ∀ b, Y.heap[b]? = some (.cells #[.slice none 0 0] 28) → Y.frozen? ⟨b, 0, none⟩ = false := fun b hb => frozen_of_row Y b 0 _ _ hb
    by_cases hn : n1 = n
    · obtain ⟨cb, Y2, hcv, hrm, hb2, hs2, hcap⟩ := ex_bytes (P := Try.prog) Y 9 28 5 Try.underlying9 Try.underlying28 Try.underlying5 b1
      have hRb2 := hRb.below hb2
      have kr1 := cell_of_row Y2 (w.heap.size + 1) 0 _ _ _ hRb2.res1
      have kr2 := cell_of_row Y2 (w.heap.size + 1 + 1) 0 _ _ _ hRb2.res2
      have kf1 := frozen_of_row Y2 (w.heap.size + 1) 0 _ _ hRb2.res1
      have kf2 := frozen_of_row Y2 (w.heap.size + 1 + 1) 0 _ _ hRb2.res2
      simp only [List.getElem?_toArray, List.getElem?_cons_zero] at kr1 kr2
      have hB2 : Below w.heap.size X Y2 := hB.trans (hb2.mono (by omega))
      have hkf : KeepsFrom X.heap.size Y Y2 := KeepsFrom.of_below hb2
      have hst := hRb2.stored (by omega) (by omega) (.slice (some ⟨Y.heap.size, 0, none⟩) b1.length cb) (.int .i64 0)
      have hrm3 : RowM ((Y2.setCell ⟨w.heap.size + 1, 0, none⟩ (.slice (some ⟨Y.heap.size, 0, none⟩) b1.length cb)).setCell ⟨w.heap.size + 1 + 1, 0, none⟩ (.int .i64 0)) Y.heap.size b1 :=
        hrm.of_block ((heap_setCell_other _ _ _ _ (by show Y.heap.size ≠ w.heap.size + 1 + 1; omega)).trans (heap_setCell_other _ _ _ _ (by show Y.heap.size ≠ w.heap.size + 1; omega)))
      have hBs2 := hB2.size
      have hB3 : Below w.heap.size X ((Y2.setCell ⟨w.heap.size + 1, 0, none⟩ (.slice (some ⟨Y.heap.size, 0, none⟩) b1.length cb)).setCell ⟨w.heap.size + 1 + 1, 0, none⟩ (.int .i64 0)) := (hB2.setCell (p := ⟨w.heap.size + 1, 0, none⟩) (by show w.heap.size ≤ w.heap.size + 1; omega) _).setCell (p := ⟨w.heap.size + 1 + 1, 0, none⟩) (by show w.heap.size ≤ w.heap.size + 1 + 1; omega) _
      have hkf3 : KeepsFrom X.heap.size Y ((Y2.setCell ⟨w.heap.size + 1, 0, none⟩ (.slice (some ⟨Y.heap.size, 0, none⟩) b1.length cb)).setCell ⟨w.heap.size + 1 + 1, 0, none⟩ (.int .i64 0)) := (hkf.trans ((KeepsOthers.setCell _ _ _).from _)).trans ((KeepsOthers.setCell _ _ _).from _)
      have heqn : (n1 : Int) = (n : Int) := by omega
      rw [heqn] at kb0
      replace heqn := Lib.hid heqn
      replace hn := Lib.hid hn
      replace hpre := Lib.hid hpre
      clear hRb2 hst hfr
      have hst := hRb.below hb2 |>.stored (by omega) (by omega) (.slice (some ⟨Y.heap.size, 0, none⟩) b1.length cb) (.int .i64 0)
      gi_wp2
      exact ⟨hkf3, ⟨rfl, ⟨pre, (i0, n1, b1), Y.heap.size, cb, rfl, hpre.out, hn.out, ⟨by omega, hcap⟩, hrm3, hst⟩, hB3⟩⟩
    · have hb : ((n1 : Int) == (n : Int)) = false := beq_eq_false_iff_ne.2 (by omega)
      replace hn := Lib.hid hn
      replace hpre := Lib.hid hpre
      gi_wp2
      refine ⟨KeepsFrom.refl _ _, KB.refl _ _ _, ⟨hRb, fun x hx => ?_, hB⟩⟩
      rcases List.mem_append.1 hx with hx | hx
      · exact hpre.out x hx
      · simp only [List.mem_singleton] at hx
        rw [hx]
        exact hn.out
  case done =>
    rintro D ys Y hD rfl ⟨hRb, hpre, hB⟩ hK
    exfalso
    have hq' := hq.out
    have hne : waitsOf ws n ≠ 0 := by omega
    obtain ⟨x, hx, hxn⟩ := List.mem_map.1 (waitsOf_zero ws n hne)
    obtain ⟨j, hj, rfl⟩ := List.getElem_of_mem hx
    refine hpre (backF ws (ws.length - 1 - j)) ?_ ?_
    · simp only [upto, List.mem_map, List.mem_range]
      exact ⟨_, by omega, rfl⟩
    · have e : ws.length - 1 - (ws.length - 1 - j) = j := by omega
      simp only [backF, e, List.getD_eq_getElem?_getD, List.getElem?_eq_getElem hj, Option.getD_some]
      exact hxn
  case stop =>
    rintro D c pre Y hD ⟨k, hk, rfl⟩ ⟨rfl, ⟨ini, last, g, cb, e1, e2, e3, e4, e5, e6⟩, hB⟩ hK
    subst ha0
    have hgr := grownBy_putObj' Y D (.deferred none)
    have hrr : ∀ r, some D = some r → ∃ o : Obj, Y.heap[r]? = some o ∧ o.isCells = false := fun r e => by cases e; exact ⟨_, hK, rfl⟩
    have e5' := e5.kept hgr hrr
    have e6' := e6.kept hgr hrr
    have hBD : Below w.heap.size Y (Y.putObj D (.deferred none)) := belowK_b (w := X) (by omega) Y D _ _ hD hK rfl rfl
    have hBW : Below w.heap.size W (Y.putObj D (.deferred none)) := (hX.mono (by omega)).trans (hB.trans hBD)
    have hTf : Turns F.blocks w (Y.putObj D (.deferred none)) := ⟨hBW.os.trans hT2.os, hBW.tape.trans hT2.tape, hBW.output.trans hT2.output, Nat.le_trans hT2.size hBW.size, fun j hj hn => (hBW.block j hj).trans (hT2.block j hj hn)⟩
    have hSf : ShAtM (Y.putObj D (.deferred none)) F s.tick (seenF s) := hS2.of_blocks fun b hb => hBW.block b (hlt1 b hb)
    obtain ⟨k', rfl⟩ : ∃ k', k = k' + 1 := by
      cases k with
      | zero => simp [upto] at e1
      | succ k' => exact ⟨k', rfl⟩
    rw [upto_succ] at e1
    obtain ⟨rfl, e9⟩ := List.append_inj' e1 rfl
    obtain rfl : backF ws k' = last := by simpa using e9
    have hl := lastOf_back ws n k' (by omega) (fun j hj => e2 _ (by simp only [upto, List.mem_map, List.mem_range]; exact ⟨j, hj, rfl⟩)) e3
    rw [hbs.out] at hl
    injection hl with hl
    rw [← hl] at e4 e5' e6'
    replace hl := Lib.hid hl
    have c1 := cell_of_row _ _ 0 _ _ _ e6'.res1
    have c2 := cell_of_row _ _ 0 _ _ _ e6'.res2
    simp only [List.getElem?_toArray, List.getElem?_cons_zero] at c1 c2
    gi_wp2
    refine ⟨by simp, .inl ⟨_, _, rfl, run_takeDeferred hK, ?_⟩⟩
    refine ⟨.tuple #[.slice (some ⟨g, 0, none⟩) bs.length cb, .int .i64 0], read_results _ _ (w.heap.size + 1) (w.heap.size + 1 + 1) _ _ (by rfl) (by rfl) c1 c2, ?_⟩
    refine ⟨_, rfl, ⟨g, cb, rfl, ⟨by omega, e4.2⟩, e5'⟩, ?_, hTf⟩
    unfold ShAt
    rw [hsn.out]
    exact hSf
end
end Go.Proofs.Ytikfbhepnnbdoaa

/-
  THE WALK of PplCodes.
-/
import Derived.Test.YtibpmiapcihkfaaPpQ
namespace Go.Proofs.Ytibpmiapcihkfaa
set_option linter.all false
open Go.RowKit

theorem Own.set3_other {w : World} {E base q : Nat} {v : Value} {bs : List UInt8} (h : Own w E base v bs) (hq : q < base) (o : Nat) (u : Value) : Own (w.setCell ⟨q, o, none⟩ u) E base v bs :=
  h.blk fun b hb => heap_setCell_other w ⟨q, o, none⟩ b u (fun e => by
    have := (World.ownsRow.lt h b hb).1
    have e' : b = q := e
    omega)
set_option maxRecDepth 100000 in
set_option maxHeartbeats 8000000 in
theorem pplCodes_walk (r : Rec) (A : Option Addr) (n c : Nat) (B : Option Addr) (m d : Nat) (hb : List UInt8) (C : Option Addr) (k f : Nat) (pb : List UInt8) (w : World)
    (hr : Rd w A r.part) (hn : r.part.length = n) (_ : ∀ ad, A = some ad → 0 < n → ad.block < w.heap.size) (hn47 : n ≤ 140737488351232)
    (hB : Rd w B hb) (hm : hb.length = m) (hm47 : m ≤ 140737488351232) (hC : Rd w C pb) (hk : pb.length = k) (hk47 : k ≤ 140737488351232) :
    Calls Try.prog 3 #[.agg #[.int .i64 r.stripe, .int .i64 r.place, .slice A n c], .slice B m d, .slice C k f] w fun e w' => e = .returned (.bool true) ∧ Below w.heap.size w w' := by
  obtain ⟨st, pl, part⟩ := r
  dsimp only at *
  have henc : Hid (∀ W A c, Rd W A part → _) := Lib.hid fun W A c hW => pp_enc ⟨st, pl, part⟩ A n c W hn hW
  have hrenc : Hid (∀ W A c, Rd W A part → _) := Lib.hid fun W A c hW => rpp_enc ⟨st, pl, part⟩ A n c W hn hW
  have hdec : Hid (∀ W B d C f, Rd W B hb → Rd W C pb → _) := Lib.hid fun W B d C f h1 h2 => pp_dec B C m d k f hb pb W hm h1 hk h2 (by omega)
  have hrdec : Hid (∀ W B d C f, Rd W B hb → Rd W C pb → _) := Lib.hid fun W B d C f h1 h2 => rpp_dec B C m d k f hb pb W hm h1 hk h2 (by omega)
  unfold HeadPost at henc hrenc
  unfold DecRPost at hdec hrdec
  dsimp only at henc hrenc
  obtain ⟨hl, hhl⟩ : ∃ hl, hl = hdL ⟨st, pl, part⟩ := ⟨_, rfl⟩
  rw [← hhl] at henc hrenc
  generalize hdE ⟨st, pl, part⟩ = he at *
  clear hhl
  generalize decR hb pb = dr at *
  generalize decEP hb pb = de at *
  obtain ⟨dst, dpl, dpart⟩ := dr
  dsimp only at hdec hrdec
  replace hn := Lib.hid hn
  replace hm := Lib.hid hm
  replace hk := Lib.hid hk
  -- the two boxes
  obtain ⟨W1, hW1⟩ : ∃ W1, W1 = (w.alloc (.cells #[.int .i64 st, .int .i64 pl, .slice A n c] 24)).alloc (.cells #[.int .i64 st, .int .i64 pl, .slice A n c] 24) := ⟨_, rfl⟩
  have hb1 : Below w.heap.size w W1 := by rw [hW1]; exact below_to (below_made' _ _) (below_made' _ _)
  have hx1 : Box3 W1 w.heap.size ⟨st, pl, part⟩ A n c := by rw [hW1]; exact hrow_keep (heap_alloc_new _ _) (below_made' _ _)
  have hy1 : Box3 W1 (w.heap.size + 1) ⟨st, pl, part⟩ A n c := by
    rw [hW1]
    have h := heap_alloc_new (w.alloc (.cells #[.int .i64 st, .int .i64 pl, .slice A n c] 24)) (.cells #[.int .i64 st, .int .i64 pl, .slice A n c] 24)
    rw [World.size_alloc] at h
    exact h
  have hs1 : W1.heap.size = w.heap.size + 2 := by rw [hW1]; simp
  have hr1 := hr.below hb1
  have hB1 := hB.below hb1
  have hC1 := hC.below hb1
  have hr1e : Rd (W1.alloc (.cells #[] 5)) A part := hr1.alloc _
  go_enter Try.func3, Try.ntmps3
  go_wp2_with (at_builtin; rw [← hW1]; refine wpList_append_rd rfl _ _ 22 rfl W1.heap.size 5 Try.underlying22 Try.infoU8 (.slice (some ⟨w.heap.size + 2, 0, none⟩) 0 0) [] part A n c rfl rfl (by rw [← hs1]; exact made_empty W1) hr1e hn.out (by simp; omega) (by simp) ?_; intro v2 w2 ho2 hg2; rw [List.nil_append] at ho2; have hb2 := copy_grow (v := v2) (bs := part) (by rw [← hs1] at hg2; exact hg2); clear hg2; obtain ⟨A2, c2, rfl, _, _⟩ := ho2.form; rw [hn.out] at ho2 ⊢; refine Halted.out ?_)
  refine ⟨?_⟩
  have hs2 := hb2.size
  have hx2 : Box3 w2 w.heap.size ⟨st, pl, part⟩ A n c := hx1.below hb2 (by omega)
  have hy2 : Box3 w2 (w.heap.size + 1) ⟨st, pl, part⟩ A n c := hy1.below hb2 (by omega)
  have hr2 := hr1.below hb2
  have hB2 := hB1.below hb2
  have hC2 := hC1.below hb2
  have hb02 := hb1.trans (hb2.mono hb1.size)
  obtain ⟨y0, y1, y2, yf⟩ := row3_cells w2 _ _ _ _ _ hy2
  obtain ⟨x0, x1, x2, xf⟩ := row3_cells w2 _ _ _ _ _ hx2
  have ylt := lt_of_row hy2
  dsimp only at y0 y1 y2 x0 x1 x2
  obtain ⟨W3, hW3⟩ : ∃ W3, W3 = w2.setCell ⟨w.heap.size + 1, 2, none⟩ (.slice A2 n c2) := ⟨_, rfl⟩
  have hoth : ∀ b, b ≠ w.heap.size + 1 → W3.heap[b]? = w2.heap[b]? := fun b hb => by rw [hW3]; exact heap_setCell_other _ ⟨w.heap.size + 1, 2, none⟩ b _ hb
  have hy3 : Box3 W3 (w.heap.size + 1) ⟨st, pl, part⟩ A2 n c2 := by rw [hW3]; exact (heap_setCell_same w2 _ 2 _ _ _ hy2).trans (by rfl)
  have hx3 : Box3 W3 w.heap.size ⟨st, pl, part⟩ A n c := (hoth _ (by omega)).trans hx2
  have ho3 : Own W3 5 W1.heap.size (.slice A2 n c2) part := by rw [hW3]; exact ho2.set3_other (by omega) 2 _
  have hb03 : Below w.heap.size w W3 := by rw [hW3]; exact hb02.setCell (p := ⟨w.heap.size + 1, 2, none⟩) (by show w.heap.size ≤ w.heap.size + 1; omega) _
  have hs3 : W3.heap.size = w2.heap.size := by rw [hW3]; simp [World.setCell]
  clear hr1 hB1 hC1 hr1e hx1 hy1 hb1 hb2 hW1 ho2 hb02 hx2 hy2 hr2 hB2 hC2
  replace hr := Lib.hid hr
  replace hB := Lib.hid hB
  replace hC := Lib.hid hC
  go_wp2_with fail
  rw [← hW3]
  refine (henc.out W3 A2 c2 ho3.rd).mono ?_
  rintro e w4 ⟨A4, c4, rfl, ho4, hb4⟩
  have hx4 := hx3.below hb4 (by omega)
  have hy4 := hy3.below hb4 (by omega)
  have ho34 := ho3.below hb4
  have hb04 := hb03.trans (hb4.mono hb03.size)
  have hs4 := hb4.size
  clear henc y0 y1 y2 yf x0 x1 x2 xf hW3 hoth hx3 hy3 ho3 hb03 ylt
  obtain ⟨x0, x1, x2, xlt⟩ := hx4.cells
  dsimp only at x0 x1 x2
  go_wp2_with fail
  refine (hrenc.out w4 A c (hr.out.below hb04)).mono ?_
  rintro e w5 ⟨A5, c5, rfl, ho5, hb5⟩
  have hb05 := hb04.trans (hb5.mono hb04.size)
  have hx5 := hx4.below hb5 xlt
  have hy5 := hy4.below hb5 (by omega)
  have ho25 := ho34.below hb5
  have ho45 := ho4.below hb5
  have hs5 := hb5.size
  clear hrenc x0 x1 x2 xlt hx4 hy4 ho34 ho4 hb04 hb5 hb4
  have hBe : Rd (w5.alloc (.cells #[] 5)) B hb := (hB.out.below hb05).alloc _
  go_wp2_with (at_builtin; refine wpList_append_rd rfl _ _ 22 rfl w5.heap.size 5 Try.underlying22 Try.infoU8 _ [] hb B m d rfl rfl (made_empty w5) hBe hm.out (by simp; omega) (by simp) ?_; intro v6 w6 ho6 hg6; rw [List.nil_append] at ho6; have hb6 := copy_grow (v := v6) (bs := hb) hg6; clear hg6; obtain ⟨A6, c6, rfl, _, _⟩ := ho6.form; rw [hm.out] at ho6 ⊢; refine Halted.out ?_)
  refine ⟨?_⟩
  have hb06 := hb05.trans (hb6.mono hb05.size)
  have hCe : Rd (w6.alloc (.cells #[] 5)) C pb := (hC.out.below hb06).alloc _
  clear hBe
  go_wp2_with (at_builtin; refine wpList_append_rd rfl _ _ 22 rfl w6.heap.size 5 Try.underlying22 Try.infoU8 _ [] pb C k f rfl rfl (made_empty w6) hCe hk.out (by simp; omega) (by simp) ?_; intro v7 w7 ho7 hg7; rw [List.nil_append] at ho7; have hb7 := copy_grow (v := v7) (bs := pb) hg7; clear hg7; obtain ⟨A7, c7, rfl, _, _⟩ := ho7.form; rw [hk.out] at ho7 ⊢; refine Halted.out ?_)
  refine ⟨?_⟩
  have hb57 := below_to hb6 hb7
  have hb07 := hb06.trans (hb7.mono hb06.size)
  go_wp2_with fail
  refine (hdec.out w7 A6 c6 A7 c7 (ho6.below hb7).rd ho7.rd).mono ?_
  rintro e w8 ⟨A8, c8, rfl, ho8, hb8⟩
  obtain ⟨W9, hW9⟩ : ∃ W9, W9 = w8.alloc (.cells #[.int .i64 dst, .int .i64 dpl, .slice A8 dpart.length c8] 24) := ⟨_, rfl⟩
  have hb89 : Below w8.heap.size w8 W9 := by rw [hW9]; exact below_made' _ _
  have hz9 : Box3 W9 w8.heap.size ⟨dst, dpl, dpart⟩ A8 dpart.length c8 := by rw [hW9]; exact heap_alloc_new _ _
  have hb59 := below_to hb57 (below_to hb8 hb89)
  have hx9 := hx5.below hb59 (lt_of_row hx5)
  have hy9 := hy5.below hb59 (lt_of_row hy5)
  have ho29 := ho25.below hb59
  have ho49 := ho45.below hb59
  have ho59 := ho5.below hb59
  have ho89 := ho8.below hb89
  have hb09 := hb05.trans (hb59.mono hb05.size)
  clear hdec hCe hb6 hb7 hb06 hb07 ho6 ho7 ho8 hb8 hb89 hb57 hx5 hy5 ho25 ho45 ho5 hb05 hb59
  go_wp2_with fail
  rw [← hW9]
  refine (hrdec.out W9 B d C f (hB.out.below hb09) (hC.out.below hb09)).mono ?_
  rintro e w10 ⟨A10, c10, rfl, ho10, hb10⟩
  obtain ⟨W11, hW11⟩ : ∃ W11, W11 = w10.alloc (.cells #[.int .i64 dst, .int .i64 dpl, .slice A10 dpart.length c10] 24) := ⟨_, rfl⟩
  have hb1011 : Below w10.heap.size w10 W11 := by rw [hW11]; exact below_made' _ _
  have hu11 : Box3 W11 w10.heap.size ⟨dst, dpl, dpart⟩ A10 dpart.length c10 := by rw [hW11]; exact heap_alloc_new _ _
  have hb911 := below_to hb10 hb1011
  have ho1011 := ho10.below hb1011
  clear hrdec hW9
  go_wp2_with fail
  rw [← hW11]
  refine (lives07 W11).mono ?_
  rintro e w12 ⟨rfl, hb12⟩
  have hb912 := below_to hb911 hb12
  have hx12 := hx9.below hb912 (lt_of_row hx9)
  have hy12 := hy9.below hb912 (lt_of_row hy9)
  have hz12 := hz9.below hb912 (lt_of_row hz9)
  have hu12 := hu11.below hb12 (lt_of_row hu11)
  have hb012 := hb09.trans (hb912.mono hb09.size)
  have r2 := (ho29.below hb912).rd
  have r8 := (ho89.below hb912).rd
  have r10 := (ho1011.below hb12).rd
  have cv4 := run_string_rd (P := Try.prog) w12 22 9 5 Try.underlying22 Try.underlying5 Try.underlying9 A4 hl.length c4 hl (ho49.below hb912).rd rfl
  have cv5 := run_string_rd (P := Try.prog) w12 22 9 5 Try.underlying22 Try.underlying5 Try.underlying9 A5 hl.length c5 hl (ho59.below hb912).rd rfl
  have hs1' := rpp_same ⟨dst, dpl, dpart⟩ ⟨dst, dpl, dpart⟩ A8 A10 dpart.length c8 dpart.length c10 w12 rfl r8 rfl r10
  have hs2' : Hid (∀ W, Below w12.heap.size w12 W → _) := Lib.hid fun W hW => rpp_same ⟨st, pl, part⟩ ⟨st, pl, part⟩ A2 A n c2 n c W hn.out (r2.below hW) hn.out ((hr.out.below hb012).below hW)
  rw [sameB_self] at hs1' hs2'
  obtain ⟨z0, z1, z2, zlt⟩ := hz12.cells
  obtain ⟨u0, u1, u2, ult⟩ := hu12.cells
  dsimp only at z0 z1 z2 u0 u1 u2 hs1' hs2'
  clear r2 r8 r10 ho29 ho49 ho59 ho89 ho10 ho1011 hx9 hy9 hz9 hu11 hz12 hu12 hb10 hb12 hb1011 hb911 hb912 hb09
  have hee : (he == he) = true := by simp
  have hde : (de == de) = true := by simp
  have hll : (hl == hl) = true := by simp
  go_wp2_with fail
  refine hs1'.mono ?_
  rintro e w13 ⟨rfl, hb13⟩
  obtain ⟨x0, x1, x2, xlt⟩ := (hx12.below hb13 (lt_of_row hx12)).cells
  obtain ⟨y0, y1, y2, ylt⟩ := (hy12.below hb13 (lt_of_row hy12)).cells
  dsimp only at x0 x1 x2 y0 y1 y2
  clear hs1' z0 z1 z2 zlt u0 u1 u2 ult cv4 cv5
  go_wp2_with fail
  refine (hs2'.out w13 hb13).mono ?_
  rintro e w14 ⟨rfl, hb14⟩
  have hfin := hb012.trans ((below_to hb13 hb14).mono hb012.size)
  go_wp2
  go_ret
  exact ⟨by simp, hfin⟩
end Go.Proofs.Ytibpmiapcihkfaa

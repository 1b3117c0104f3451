/-
  THE WALK over the sums' spoil.
-/
import Derived.Test.YtikfbhepnnbdoaaSuS
namespace Go.Proofs.Ytikfbhepnnbdoaa
set_option linter.all false
open Go.RowKit

theorem bad_cases {x sum p1 p2 : Nat} : (((x : Int) == (sum : Int)) = true ∧ (x = sum ∨ x = p1 ∨ x = p2)) ∨ (((x : Int) == (sum : Int)) = false ∧ ((x : Int) == (p1 : Int)) = true ∧ (x = sum ∨ x = p1 ∨ x = p2)) ∨
    (((x : Int) == (sum : Int)) = false ∧ ((x : Int) == (p1 : Int)) = false ∧ ((x : Int) == (p2 : Int)) = true ∧ (x = sum ∨ x = p1 ∨ x = p2)) ∨ (((x : Int) == (sum : Int)) = false ∧ ((x : Int) == (p1 : Int)) = false ∧ ((x : Int) == (p2 : Int)) = false ∧ ¬ (x = sum ∨ x = p1 ∨ x = p2)) := by
  by_cases h1 : x = sum
  · exact .inl ⟨by rw [h1]; simp, .inl h1⟩
  · have e1 : ((x : Int) == (sum : Int)) = false := beq_eq_false_iff_ne.2 (by omega)
    by_cases h2 : x = p1
    · exact .inr (.inl ⟨e1, by rw [h2]; simp, .inr (.inl h2)⟩)
    · have e2 : ((x : Int) == (p1 : Int)) = false := beq_eq_false_iff_ne.2 (by omega)
      by_cases h3 : x = p2
      · exact .inr (.inr (.inl ⟨e1, e2, by rw [h3]; simp, .inr (.inr h3)⟩))
      · exact .inr (.inr (.inr ⟨e1, e2, beq_eq_false_iff_ne.2 (by omega), by omega⟩))
theorem inc_byte (b : UInt8) : ((b.toNat : Int) + 1) % 256 = ((b + 1).toNat : Int) := by
  rw [UInt8.toNat_add]
  simp
section
variable {X : Nat → Prop} {a g : Nat} {w w' : World} {s s' : ShM} {D : DevM}
/-- the shelf's write of a block's bytes that lie in X -/
theorem RowM.below {w w' : World} {b : Nat} {bs : Bytes} (h : RowM w b bs) (hb : Below w.heap.size w w') : RowM w' b bs := h.of_block (hb.block b h.lt)
theorem DvX.setX (h : DvX X a g w s D) {b : Addr} (hb : X b.block) (u : Value) : DvX X a g (w.setCell b u) s D := by
  have hne : a ≠ b.block := fun e => h.out (e ▸ hb)
  refine ⟨?_, (heap_setCell_other w b a u hne).trans h.row, h.out, h.disk, h.size⟩
  obtain ⟨h0, F, h1, h2, h3⟩ := h.sh
  exact ⟨fun k hk => by simpa [World.setCell] using h0 k hk, F, h1.of_blocks fun k hk => heap_setCell_other w b k u (fun e => h3 k hk (.inl (e ▸ hb))), h2, h3⟩

set_option maxRecDepth 10000 in
set_option maxHeartbeats 4000000 in
theorem su_spoil (gb : Nat) (h : DvX (fun b => X b ∨ b = gb) a g w s D) (hX : ¬ X gb) (hroom : Room 1000000000000 s) (p1 p2 sum : Nat) (n : Nat) (hn : n < D.size) (c : Nat) (was : Bytes) (hr : RowM w gb was) (hl : was.length = 128) :
    Calls Try.prog 41 #[.pointer (some ⟨a, 0, none⟩), .agg #[.int .u32 (p1 : Int), .int .u32 (p2 : Int)], .int .i64 (n : Int), .slice (some ⟨gb, 0, none⟩) 128 c, .int .u32 (sum : Int)] w fun e w' =>
      e = .returned (.int .i64 (devSpoil s D n (p1, p2) was sum).1) ∧ DvX (fun b => X b ∨ b = gb) a g w' (devSpoil s D n (p1, p2) was sum).2.1 (devSpoil s D n (p1, p2) was sum).2.2 ∧ Kept X w w' := by
  have hpos : 0 < was.length := by omega
  have hsum : Hid (∀ W k, RowM W gb (wk was k) → Calls Try.prog 16 #[.int .i64 (D.disk : Int), .int .i64 (n : Int), .slice (some ⟨gb, 0, none⟩) 128 c] W fun e w' => e = .returned (.int .u32 (sumB D.disk n (wk was k) : Nat)) ∧ Below W.heap.size W w') := Lib.hid fun W k h => su_sum D.disk n _ 128 c _ W (h.rd (by rw [wk_len]; omega)) (by rw [wk_len]; exact hl)
  have hpl : Hid (∀ W, _) := Lib.hid fun W => su_place n W (by have := h.size; omega)
  have hsz := h.size
  have hgX : Hid (¬ X gb) := Lib.hid hX
  have hal : Below w.heap.size w (w.alloc (.cells #[.int .u32 (p1 : Int), .int .u32 (p2 : Int)] 82)) := (Below.refl w.heap.size w).alloc (Nat.le_refl _) _
  have h1 := h.below hal
  have hr1 : RowM (w.alloc (.cells #[.int .u32 (p1 : Int), .int .u32 (p2 : Int)] 82)) gb (wk was 0) := by rw [wk_zero was hpos]; exact hr.below hal
  have hbox : (w.alloc (.cells #[.int .u32 (p1 : Int), .int .u32 (p2 : Int)] 82)).heap[w.heap.size]? = some (.cells #[.int .u32 (p1 : Int), .int .u32 (p2 : Int)] 82) := heap_alloc_new w _
  have hgb := hr.lt
  have hK0 : Kept X w (w.alloc (.cells #[.int .u32 (p1 : Int), .int .u32 (p2 : Int)] 82)) := Kept.of_below hal (fun b hb => h.lt b (.inl hb))
  have c1 := h1.c1
  have ha1 := h1.alt
  have hct := hsum.out _ 0 hr1
  replace hr1 := Lib.hid hr1
  replace hbox := Lib.hid hbox
  replace hl := Lib.hid hl
  go_enter Try.func41, Try.ntmps41
  go_wp2_with fail
  refine hct.mono ?_
  rintro e w1 ⟨rfl, hb1⟩
  have h2 := h1.below hb1
  have hr2 := Lib.hid (hr1.out.below hb1)
  have hbox2 := Lib.hid ((hb1.block _ (by simp)).trans hbox.out)
  have hK2 := hK0.trans (Kept.of_below hb1 (fun b hb => h1.lt b (.inl hb)))
  clear h1 c1 ha1 hct hb1 hK0 hal
  go_wp2_with fail
  go_loopw [11] (fun x wr => ∃ k : Nat, k ≤ 3 ∧ x = .int .u32 (sumB D.disk n (wk was k) : Nat) ∧ Hid (∀ j, j < k → badS D.disk n sum p1 p2 (wk was j)) ∧ Hid (RowM wr gb (wk was k)) ∧ DvX (fun b => X b ∨ b = gb) a g wr s D ∧ Kept X w wr ∧ Hid (wr.heap[w.heap.size]? = some (.cells #[.int .u32 (p1 : Int), .int .u32 (p2 : Int)] 82)))
    (fun _ wr => 3 - farOf wr gb (was.getD 0 0))
  case atStart => exact ⟨0, by omega, rfl, Lib.hid (fun j hj => by omega), hr2, h2, hK2, hbox2⟩
  case round =>
    obtain ⟨k, hk, rfl, hbad, hrow, hd, hK, hbx⟩ := hrel
    obtain ⟨x0, x1⟩ := two_cells wr w.heap.size _ _ _ hbx.out
    have hfar := Lib.hid (far_wk hrow.out hpos (by omega))
    have hbk : Hid (badS D.disk n sum p1 p2 (wk was k) ↔ (sumB D.disk n (wk was k) = sum ∨ sumB D.disk n (wk was k) = p1 ∨ sumB D.disk n (wk was k) = p2)) := Lib.hid Iff.rfl
    generalize hx : sumB D.disk n (wk was k) = x at *
    replace hx := Lib.hid hx
    rcases bad_cases (x := x) (sum := sum) (p1 := p1) (p2 := p2) with ⟨e1, hb⟩ | ⟨e1, e2, hb⟩ | ⟨e1, e2, e3, hb⟩ | ⟨e1, e2, e3, hb⟩
    iterate 3
      · replace hb := Lib.hid hb
        have hk3 : k < 3 := by
          rcases Nat.lt_or_ge k 3 with hlt | hge
          · exact hlt
          · exfalso
            obtain rfl : k = 3 := by omega
            refine spoil_four D.disk n was hpos sum p1 p2 fun j hj => ?_
            by_cases hj3 : j = 3
            · subst hj3; exact hbk.out.2 hb.out
            · exact hbad.out j (by omega)
        have hbad2 : Hid (∀ j, j < k + 1 → badS D.disk n sum p1 p2 (wk was j)) := Lib.hid fun j hj => by
          by_cases hjk : j = k
          · subst hjk; exact hbk.out.2 hb.out
          · exact hbad.out j (by omega)
        have c0 := hrow.out.cell 0 (by rw [wk_len]; omega)
        have f0 := hrow.out.frozen 0 (by rw [wk_len]; omega)
        have hgw := hrow.out.lt
        have hset := hrow.out.set 0 (by rw [wk_len]; omega) ((wk was k).getD 0 0 + 1)
        rw [wk_succ was k hpos] at hset
        have eg : (wk was k)[0]'(by rw [wk_len]; omega) = (wk was k).getD 0 0 := by
          rw [List.getD_eq_getElem?_getD, List.getElem?_eq_getElem (by rw [wk_len]; omega)]
          rfl
        rw [eg] at c0
        have hinc := inc_byte ((wk was k).getD 0 0)
        generalize (wk was k).getD 0 0 = b0 at *
        generalize hb01 : b0 + 1 = b1 at *
        replace hb01 := Lib.hid hb01
        have hd2 := hd.setX (b := ⟨gb, 0, none⟩) (.inr rfl) (.int .u8 (b1.toNat : Int))
        have hK3 := hK.trans (Kept.setCell (a := ⟨gb, 0, none⟩) hgX.out (.int .u8 (b1.toNat : Int)))
        have hbx2 := Lib.hid ((heap_setCell_other wr ⟨gb, 0, none⟩ w.heap.size (.int .u8 (b1.toNat : Int)) (by show w.heap.size ≠ gb; omega)).trans hbx.out)
        have c1 := hd2.c1
        have ha2 := hd2.alt
        have hct := hsum.out _ (k + 1) hset
        replace hset := Lib.hid hset
        go_wp2_with fail
        refine hct.mono ?_
        rintro e w5 ⟨rfl, hb5⟩
        have hd5 := hd2.below hb5
        have hr5 := Lib.hid (hset.out.below hb5)
        have hbx5 := Lib.hid ((hb5.block _ (lt_of_blk hbx2.out)).trans hbx2.out)
        have hK5 := hK3.trans (Kept.of_below hb5 (fun b hb => hd2.lt b (.inl hb)))
        have hfar5 := Lib.hid (far_wk hr5.out hpos (by omega))
        clear hct hd2 hK3 c1 ha2 hb5 c0 f0
        go_wp2
        go_roundw
        case rel => exact ⟨k + 1, by omega, rfl, hbad2, hr5, hd5, hK5, hbx5⟩
        case measure => rw [hfar.out, hfar5.out]; omega
    · have hw : Hid (spoilOf D n (p1, p2) sum was = wk was k) := Lib.hid (spoil_is D n (p1, p2) sum was hpos k hk hbad.out (fun hc => hb (hbk.out.1 hc)))
      have hdv : Hid (devSpoil s D n (p1, p2) was sum = let r := s.writeR D.disk (dataAt n) (spoilOf D n (p1, p2) sum was); if r.1 = 0 then devFlush r.2 D else (r.1, r.2, D)) := Lib.hid rfl
      rw [hw.out] at hdv
      have hln := Lib.hid (write_len s D.disk (dataAt n) (wk was k))
      have hrm := hroom
      have hwr : Hid (∀ W, DvX (fun b => X b ∨ b = gb) a g W s D → RowM W gb (wk was k) → _) := Lib.hid fun W hS hR => lx_write_in hS.sh D.disk (dataAt n) (some ⟨gb, 0, none⟩) 128 c (wk was k) (hR.rd (by rw [wk_len, hl.out]; omega)) (fun ad e => by injection e with e; subst e; exact .inl (.inr rfl)) (by rw [wk_len, hl.out]) (hroom _)
      generalize dataAt n = q at *
      generalize hwR : s.writeR D.disk q (wk was k) = r at *
      replace hwR := Lib.hid hwR
      obtain ⟨er, s1⟩ := r
      dsimp only at hdv hln hwr
      clear hb hbk
      go_wp2_with fail
      refine (hpl.out wr).mono ?_
      rintro e w' ⟨rfl, rfl⟩
      clear hpl x0 x1 hsum
      have c0 := hd.c0
      have c1 := hd.c1
      have ha := hd.alt
      have hct := hwr.out wr.drew hd.drew (hrow.out.of_block rfl)
      clear hwr
      go_wp2_with fail
      go_still_tail 10, (by kernel_rfl)
      change wpList _ _ _ _ _ wr.drew
      go_wp2_with fail
      refine hct.mono ?_
      rintro e w3 ⟨rfl, hS3, hK3⟩
      obtain ⟨h3, hK3⟩ := hd.drew.step hS3 hK3 hln.out
      have hK3 := hK.trans ((Kept.drew X wr).trans (hK3.mono fun b hb => .inl hb))
      clear hct hS3 c0 c1 ha
      by_cases he : er = 0
      · have heb : (er != 0) = false := by simp [he]
        have hz := hdv.out
        rw [if_pos he] at hz
        subst he
        have hct := su_flush h3
        generalize devFlush s1 D = f at *
        obtain ⟨ef, s2, D2⟩ := f
        dsimp only at hct
        replace hz := Lib.hid hz
        go_wp2_with fail
        refine hct.mono ?_
        rintro e w4 ⟨rfl, h4, hK4⟩
        have hK4 := hK3.trans (hK4.mono fun b hb => .inl hb)
        clear hct
        replace hK4 := Lib.hid hK4
        replace h4 := Lib.hid h4
        go_wp2
        go_ret
        rw [hz.out]
        exact ⟨rfl, h4.out, hK4.out⟩
      · have heb : (er != 0) = true := by simp [he]
        have hz := hdv.out
        rw [if_neg he] at hz
        replace he := Lib.hid he
        replace hz := Lib.hid hz
        replace h3 := Lib.hid h3
        go_wp2
        go_ret
        rw [hz.out]
        exact ⟨rfl, h3.out, hK3⟩
end
end Go.Proofs.Ytikfbhepnnbdoaa

/-
  THE WALK of ShelfApart.
-/
import Derived.Test.YtffdpipmfdkaoaaShL
import Derived.Test.YtffdpipmfdkaoaaShTwo
import Derived.Test.YtffdpipmfdkaoaaShApartM
namespace Go.Proofs.Ytffdpipmfdkaoaa
set_option linter.all false
open Go.RowKit

set_option maxRecDepth 10000 in
set_option maxHeartbeats 4000000 in
theorem shelfApart_walk (A : Option Addr) (m c : Nat) (ops : List OpM) (KA : Option Addr) (kn kc : Nat) (keep : List (List Int)) (w : World)
    (hops : OpsAt w w.heap.size A ops) (hm : ops.length = m) (hK : KeepL w w.heap.size KA keep) (hkn : keep.length = kn) :
    Calls Try.prog 7 #[.slice A m c, .slice KA kn kc] w fun e w' => e = .returned (.bool true) ∧ Below w.heap.size w w' := by
  have hnew := lx_new (X := fun b => b < w.heap.size) (w := w) (fun _ h => h) 4 8 (by omega) (by omega) (by omega) (by omega)
  rw [show ((4 : Nat) : Int) = 4 from rfl, show ((8 : Nat) : Int) = 8 from rfl] at hnew
  have hnew2 : Hid (∀ W : World, _) := Lib.hid fun W => lx_new (X := fun b => b < W.heap.size) (w := W) (fun _ h => h) 4 8 (by omega) (by omega) (by omega) (by omega)
  replace hops := Lib.hid hops
  replace hm := Lib.hid hm
  replace hK := Lib.hid hK
  replace hkn := Lib.hid hkn
  go_enter Try.func7, Try.ntmps7
  go_wp2_with fail
  refine hnew.mono ?_
  rintro e w1 ⟨g, rfl, hS1, hB1⟩
  clear hnew
  go_wp2_with fail
  have hn2 := hnew2.out w1
  rw [show ((4 : Nat) : Int) = 4 from rfl, show ((8 : Nat) : Int) = 8 from rfl] at hn2
  refine hn2.mono ?_
  rintro e w2 ⟨g', rfl, hS2, hB2⟩
  have hT2 := TwoX.made hS1 hS2 hB2
  have hBB := hB1.trans (hB2.mono hB1.size)
  clear hn2 hnew2 hS1 hS2 hB1 hB2
  go_wp2_with fail
  refine (lives05 w2).mono ?_
  rintro e w3 ⟨rfl, hb3⟩
  have hT3 := hT2.below hb3
  have hB3 := hBB.trans (hb3.mono hBB.size)
  clear hT2 hBB hb3
  go_wp2_with fail
  have hI0 := Lib.hid apart_start
  have hR0 := Lib.hid (room_fresh 4 8)
  generalize hs0 : freshSh 4 8 = s0 at *
  clear hs0
  go_loopw [9] (fun q wr => ∃ (k : Nat) (s t : ShM), q = .int .i64 k ∧ k ≤ m ∧ k ≤ 1000 ∧ Hid (ApartInv s t) ∧ Hid (Room k s) ∧ Hid (Room k t) ∧ TwoX (fun b => b < w.heap.size) g g' wr s t ∧ Below w.heap.size w wr)
    (fun q _ => (m - intOf q).toNat)
  case atStart => exact ⟨0, s0, s0, by go_num, by omega, by omega, hI0, hR0, hR0, hT3, hB3⟩
  case round =>
    obtain ⟨k, s, t, rfl, hkm, hk2, hI, hR, hR', hT, hB⟩ := hrel
    by_cases hlt : k < m ∧ k < 1000
    · obtain ⟨hlt1, hlt2⟩ := hlt
      have hkl : k < ops.length := by rw [hm.out]; exact hlt1
      have hget := hops.out.below hB (Nat.le_refl _)
      obtain ⟨b0, o0, rfl, hbl, c0, c1, c2, c3', c4, c5, cK⟩ := hget.get hkl
      have hblt := World.block_lt_of_cell? wr _ c0
      generalize ops[k] = op at *
      obtain ⟨kind, dd, nn, at_, bx, ky, ka, kc2⟩ := op
      dsimp only at c0 c1 c2 c3' c4 c5
      clear hget cK
      have hopD : (⟨kind, dd, nn, at_, bx, ky, ka, kc2⟩ : OpM).d = dd := rfl
      have hopC : (opCells ⟨kind, dd, nn, at_, bx, ky, ka, kc2⟩).toArray = #[.int .i64 kind, .int .i64 dd, .int .i64 nn, .int .i64 at_, .int .u8 (bx.toNat : Int), .slice ka ky.length kc2] := rfl
      generalize hop : (⟨kind, dd, nn, at_, bx, ky, ka, kc2⟩ : OpM) = o at *
      replace hop := Lib.hid hop
      by_cases hk : 1 ≤ kind ∧ kind ≤ 5
      · obtain ⟨hk1, hk2⟩ := hk
        have hal := (Below.refl wr.heap.size wr).alloc (Nat.le_refl _) (.cells #[.int .i64 kind, .int .i64 dd, .int .i64 nn, .int .i64 at_, .int .u8 (bx.toNat : Int), .slice ka ky.length kc2] 31)
        have hsz : (wr.alloc (.cells #[.int .i64 kind, .int .i64 dd, .int .i64 nn, .int .i64 at_, .int .u8 (bx.toNat : Int), .slice ka ky.length kc2] 31)).heap.size = wr.heap.size + 1 := by simp
        have hT1 : TwoX (fun b => b < w.heap.size ∨ b = wr.heap.size) g g' (wr.alloc (.cells #[.int .i64 kind, .int .i64 dd, .int .i64 nn, .int .i64 at_, .int .u8 (bx.toNat : Int), .slice ka ky.length kc2] 31)) s t := hT.more hal fun b hb => by
          have := hB.size
          rcases hb with hb | hb
          · exact ⟨by omega, .inl hb⟩
          · exact ⟨by omega, .inr (by omega)⟩
        have hal := hal
        obtain ⟨Y, hY, hXY, hback⟩ := hT1.left0
        have hct := one_lx hY (hR.out.mono (by omega)) o
        rw [hopC] at hct
        have hcA : ∀ W', Kept (fun b => b < w.heap.size ∨ b = wr.heap.size) (wr.alloc (.cells #[.int .i64 kind, .int .i64 dd, .int .i64 nn, .int .i64 at_, .int .u8 (bx.toNat : Int), .slice ka ky.length kc2] 31)) W' → W'.heap[wr.heap.size]? = some (.cells #[.int .i64 kind, .int .i64 dd, .int .i64 nn, .int .i64 at_, .int .u8 (bx.toNat : Int), .slice ka ky.length kc2] 31) := fun W' hW => (hW.block _ (.inr rfl)).trans (heap_alloc_new wr _)
        replace hcA := Lib.hid hcA
        have hB1 := Lib.hid (hB.trans (hal.mono hB.size))
        replace hback := Lib.hid hback
        replace hT1 := Lib.hid hT1
        replace hopC := Lib.hid hopC
        by_cases hd : dd = 1
        · have hI2 := Lib.hid (apart_both hI.out o (hopD.trans hd))
          have hR2 := Lib.hid (room_one hR.out o)
          have hR2' := Lib.hid (room_one hR'.out o)
          replace hopD := Lib.hid hopD
          subst hd
          go_wp2_with fail
          refine hct.mono ?_
          rintro e wa ⟨rfl, hSa, hKa⟩
          obtain ⟨hTa, hKa⟩ := hback.out wa _ hSa hKa
          have hoa := hcA.out wa hKa
          have hBa := hB1.out.trans (hKa.below fun b hb => .inl hb)
          obtain ⟨Y2, hY2, hXY2, hback2⟩ := hTa.swap.left0
          have hct2 := one_lx hY2 (hR'.out.mono (by omega)) o
          rw [hopC.out] at hct2
          have d0 : wa.cell? ⟨wr.heap.size, 0, none⟩ = some (.int .i64 kind) := (cell_of_row wa wr.heap.size 0 _ _ _ hoa).trans rfl
          have d1 : wa.cell? ⟨wr.heap.size, 1, none⟩ = some (.int .i64 1) := (cell_of_row wa wr.heap.size 1 _ _ _ hoa).trans rfl
          have d2 : wa.cell? ⟨wr.heap.size, 2, none⟩ = some (.int .i64 nn) := (cell_of_row wa wr.heap.size 2 _ _ _ hoa).trans rfl
          have d3 : wa.cell? ⟨wr.heap.size, 3, none⟩ = some (.int .i64 at_) := (cell_of_row wa wr.heap.size 3 _ _ _ hoa).trans rfl
          have d4 : wa.cell? ⟨wr.heap.size, 4, none⟩ = some (.int .u8 (bx.toNat : Int)) := (cell_of_row wa wr.heap.size 4 _ _ _ hoa).trans rfl
          have d5 : wa.cell? ⟨wr.heap.size, 5, none⟩ = some (.slice ka ky.length kc2) := (cell_of_row wa wr.heap.size 5 _ _ _ hoa).trans rfl
          replace hback2 := Lib.hid hback2
          clear hSa hct hTa hoa
          go_wp2_with fail
          refine hct2.mono ?_
          rintro e wb ⟨rfl, hSb, hKb⟩
          obtain ⟨hTb, hKb⟩ := hback2.out wb _ hSb hKb
          have hBb := hBa.trans (hKb.below fun b hb => .inl hb)
          have hTb := hTb.swap.mono (Y := fun b => b < w.heap.size) (fun b hb => .inl hb)
          clear hct2 hSb
          go_wp2
          go_roundw
          case rel => exact ⟨k + 1, _, _, by go_num, by omega, by omega, hI2, hR2, hR2', hTb, hBb⟩
          case measure => simp [intOf]; omega
        · have hI2 := Lib.hid (apart_other hI.out o (hopD.symm ▸ hd))
          have hR2 := Lib.hid (room_one hR.out o)
          have hR2' := Lib.hid (hR'.out.mono (Nat.le_succ _))
          have hd' : (dd == 1) = false := beq_eq_false_iff_ne.2 hd
          replace hopD := Lib.hid hopD
          replace hd := Lib.hid hd
          go_wp2_with fail
          refine hct.mono ?_
          rintro e wa ⟨rfl, hSa, hKa⟩
          obtain ⟨hTa, hKa⟩ := hback.out wa _ hSa hKa
          have hoa := hcA.out wa hKa
          have hBa := hB1.out.trans (hKa.below fun b hb => .inl hb)
          have d1 : wa.cell? ⟨wr.heap.size, 1, none⟩ = some (.int .i64 dd) := (cell_of_row wa wr.heap.size 1 _ _ _ hoa).trans rfl
          have hTb := hTa.mono (Y := fun b => b < w.heap.size) (fun b hb => .inl hb)
          clear hSa hct hoa hTa
          go_wp2
          go_roundw
          case rel => exact ⟨k + 1, _, _, by go_num, by omega, by omega, hI2, hR2, hR2', hTb, hBa⟩
          case measure => simp [intOf]; omega
      · have hal := (Below.refl wr.heap.size wr).alloc (Nat.le_refl _) (.cells #[.int .i64 kind, .int .i64 dd, .int .i64 nn, .int .i64 at_, .int .u8 (bx.toNat : Int), .slice ka ky.length kc2] 31)
        have hT1 := hT.below hal
        have hB1 := hB.trans (hal.mono hB.size)
        have hR2 := Lib.hid (hR.out.mono (Nat.le_succ _))
        have hR2' := Lib.hid (hR'.out.mono (Nat.le_succ _))
        have hx : kind < 1 ∨ (1 ≤ kind ∧ 5 < kind) := by omega
        clear hk
        rcases hx with hx | ⟨hx, hx'⟩
        all_goals
          go_wp2
          go_roundw
          case rel => exact ⟨k + 1, _, _, by go_num, by omega, by omega, hI, hR2, hR2', hT1, hB1⟩
          case measure => simp [intOf]; omega
    · have hx : (m : Int) ≤ (k : Int) ∨ ((k : Int) < (m : Int) ∧ 1000 ≤ (k : Int)) := by omega
      clear hlt
      have hKc := hK.out.below hB (Nat.le_refl _)
      obtain ⟨Y, hY, hXY, hback⟩ := hT.left0
      have hct := lx_crash hY KA kn kc keep hKc hXY hkn.out
      have hI2 := Lib.hid (apart_crash hI.out keep)
      have hr1 := Lib.hid (room_crash s keep 0)
      have hr2 := Lib.hid (room_crash t keep 0)
      replace hback := Lib.hid hback
      rcases hx with hx | ⟨hx, hx'⟩
      all_goals
        go_wp2_with fail
        refine hct.mono ?_
        rintro e w4 ⟨rfl, hS4, hK4⟩
        obtain ⟨hT4, hK4⟩ := hback.out w4 _ hS4 hK4
        have hB4 := hB.trans (hK4.below fun b hb => hb)
        obtain ⟨Y2, hY2, hXY2, hback2⟩ := hT4.swap.left0
        have hct2 := lx_crash hY2 KA kn kc keep (hKc.below (hK4.below fun b hb => hb) hB.size) hXY2 hkn.out
        clear hct hS4 hK4 hT4
        go_wp2_with fail
        refine hct2.mono ?_
        rintro e w5 ⟨rfl, hS5, hK5⟩
        obtain ⟨hT5, hK5⟩ := hback2 w5 _ hS5 hK5
        have hB5 := hB4.trans (hK5.below fun b hb => hb)
        replace hT5 := hT5.swap
        clear hct2 hback2 hY2 hS5 hK5 hB4
        generalize s.crash keep = s1 at *
        generalize t.crash keep = t1 at *
        clear hx
        try clear hx'
        clear hT3 hB3 hI0 hR0 hT hI hR hR' hY hXY hback hB hKc hXY2 hK4 hops hm hK hkn hkm hk2
        go_wp2_with fail
        go_loopw [11] (fun q wq => ∃ (n : Nat) (s t : ShM), q = .int .i64 n ∧ n ≤ 8 ∧ Hid (ApartInv s t) ∧ Hid (Room 0 s) ∧ Hid (Room 0 t) ∧ TwoX (fun b => b < w.heap.size) g g' wq s t ∧ Below w.heap.size w wq)
          (fun q _ => (8 - intOf q).toNat)
        case atStart => exact ⟨0, s1, t1, by go_num, by omega, hI2, hr1, hr2, hT5, hB5⟩
        case round =>
          rename_i wq
          obtain ⟨n, s2, t2, rfl, hn8, hI, hR, hR', hT, hB⟩ := hrel
          by_cases hlt : n < 8
          · obtain ⟨e1, e2, hI3⟩ := apart_read hI.out n
            have hlen := readR_len hT.ok.1 1 n
            have hR3 := Lib.hid (room_read hR.out 1 n)
            have hR3' := Lib.hid (room_read hR'.out 1 n)
            obtain ⟨Y, hY, hXY, hback⟩ := hT.left
            have hct := lx_read hY 1 n (hR.out.mono (by omega) _)
            have hct2 : Hid (∀ (W : World) (Y2 : Nat → Prop), ShX Y2 g' W t2 → _) := Lib.hid fun W Y2 h => lx_read h 1 n (hR'.out.mono (by omega) _)
            replace hI3 := Lib.hid hI3
            generalize (s2.readR 1 n).2.2 = s3 at *
            rw [← e1, ← e2] at hct2
            generalize (t2.readR 1 n).2.2 = t3 at *
            clear e1 e2
            generalize (s2.readR 1 n).1 = bs at *
            generalize (s2.readR 1 n).2.1 = er at *
            replace hback := Lib.hid hback
            go_wp2_with fail
            refine hct.mono ?_
            rintro e wa ⟨v, rfl, hf, hSa, hKa⟩
            obtain ⟨A8, c8, rfl, hr8, ho8, hn8'⟩ := hf.form2 (by omega)
            obtain ⟨hTa, hKa⟩ := hback.out wa _ _ hn8' hSa hKa
            have hBa := hB.trans (hKa.below fun b hb => hb)
            obtain ⟨Y2, hY2, hXY2, hback2⟩ := hTa.swap.left
            have hct3 := hct2.out wa Y2 hY2
            replace hback2 := Lib.hid hback2
            replace ho8 := Lib.hid ho8
            clear hct hct2 hf hSa hn8' hTa
            go_wp2_with fail
            refine hct3.mono ?_
            rintro e wb ⟨v, rfl, hf, hSb, hKb⟩
            obtain ⟨A9, c9, rfl, hr9, ho9, hn9'⟩ := hf.form2 (by omega)
            obtain ⟨hTb, hKb⟩ := hback2.out wb _ _ hn9' hSb hKb
            have hTb := hTb.swap.mono (Y := fun b => b < w.heap.size) (fun b hb => .inl (.inl hb))
            have hBb := hBa.trans (hKb.below fun b hb => .inl hb)
            have hr8b := hKb.rd hr8 (fun ad e => .inr (ho8.out ad e))
            have hcv8 := run_string_rd (P := Try.prog) wb 29 9 5 Try.underlying29 Try.underlying5 Try.underlying9 A8 bs.length c8 bs hr8b rfl
            have hcv9 := run_string_rd (P := Try.prog) wb 29 9 5 Try.underlying29 Try.underlying5 Try.underlying9 A9 bs.length c9 bs hr9 rfl
            clear hct3 hf hSb hn9' ho9 hr8 hr9 hr8b
            go_wp2
            go_roundw
            case rel => exact ⟨n + 1, _, _, by go_num, by omega, hI3, hR3, hR3', hTb, hBb⟩
            case measure => simp [intOf]; omega
          · obtain ⟨Y, hY, hXY, hback⟩ := hT.left0
            obtain ⟨Y2, hY2, hXY2, hback2⟩ := hT.swap.left0
            have h1 := lx_dead hY 1
            have h2 := lx_dead hY2 1
            rw [← apart_dead hI.out] at h2
            clear hback hback2
            go_wp2_with fail
            refine h1.mono ?_
            rintro e wx ⟨rfl, rfl⟩
            go_wp2_with fail
            refine h2.mono ?_
            rintro e wx ⟨rfl, rfl⟩
            go_wp2
            go_ret
            exact ⟨by simp, hB⟩
end Go.Proofs.Ytffdpipmfdkaoaa

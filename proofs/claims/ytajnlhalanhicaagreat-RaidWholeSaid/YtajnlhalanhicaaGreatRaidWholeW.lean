/-
 THE WALK of RaidWhole.
-/
import Derived.Test.YtajnlhalanhicaaGreatHeldTail
import Derived.Test.YtajnlhalanhicaaGreatRwB
namespace Go.Proofs.YtajnlhalanhicaaGreat
set_option linter.all false
set_option maxRecDepth 20000
open Go.RowKit
set_option maxRecDepth 100000 in
set_option maxHeartbeats 16000000 in
theorem raidWhole_walk (me stp lo : Int) (A : Option Addr) (l c : Nat) (ops : List OpS) (KA : Option Addr) (kn kc : Nat) (keep : List (List Int)) (w : World) (hm0 : -9223372036854775808 ≤ me) (hm1 : me ≤ 9223372036854775807) (hs0 : -9223372036854775808 ≤ stp) (hs1 : stp ≤ 9223372036854775807) (hl0 : -9223372036854775808 ≤ lo) (hl1 : lo ≤ 9223372036854775807)
  (hops : OpsS w w.heap.size A ops) (hl : ops.length = l) (hbd : ∀ o ∈ ops, -9223372036854775808 ≤ o.at_ ∧ o.at_ ≤ 9223372036854775807) (hKL : KeepL w w.heap.size KA keep) (hkn : keep.length = kn) :
  Calls Tryz.prog 8 #[.int .i64 me, .int .i64 stp, .int .i64 lo, .slice A l c, .slice KA kn kc] w fun e w' => e = .returned (.bool true) ∧ Below w.heap.size w w' := by
 have hbg := begin_any (w := w) me stp lo hm0 hm1 hs0 hs1 hl0 hl1
 replace hops := Lib.hid hops
 replace hl := Lib.hid hl
 replace hKL := Lib.hid hKL
 replace hkn := Lib.hid hkn
 clear hm0 hm1 hs0 hs1 hl0 hl1 hbd
 go_enter Tryz.func8, Tryz.ntmps8
 go_wp2_with fail
 with_reducible refine hbg.mono ?_
 rintro e w1 ⟨rb, mb, cap, G, F, tv, m, st, lg, N, s, V, rfl, hR, hok, hN, hm16, hB⟩
 have hlv := lives08 w1
 clear hbg
 go_wp2_with fail
 refine hlv.mono ?_
 rintro e w2 ⟨rfl, hb2⟩
 have hR0 := Lib.hid (hR.below hb2)
 have hB0 := Lib.hid (below_to hB hb2)
 have hok0 := Lib.hid hok
 clear hlv hR hok hB hb2
 go_wp2_with fail
 go_loopw [12] (fun p wr => ∃ (i : Nat) (G : Nat → Nat × Nat × Nat) (F : VolF) (s : ShM) (V : VolM) (L : Nat → List Bytes), p = .int .i64 i ∧ i ≤ l ∧ i ≤ 100 ∧ Hid (RigAt wr w.heap.size rb mb cap G F tv m st lg N s V L false) ∧ Hid (RigOk s V N L false (m, st)) ∧ Hid (∀ b, b < N → (L b).length ≤ i + 1) ∧ Hid (Below w.heap.size w wr))
  (fun p _ => l - (intOf p).toNat)
 case atStart => exact ⟨0, G, F, s, V, _, by go_num, by omega, by omega, hR0, hok0, Lib.hid (fun b _ => by simp), hB0⟩
 case round =>
  clear hR0 hok0 hB0
  obtain ⟨i, G, F, s, V, L, rfl, hil, hi100, hR, hok, hLl, hB⟩ := hrel
  by_cases hin : i < l ∧ i < 100
  ·obtain ⟨hin1, hin2⟩ := hin
   have hio : i < ops.length := by rw [hl.out]; exact hin1
   obtain ⟨ob, oo, rfl, hob, q0, q1, q2, q3, q4, hKo⟩ := hops.out.get hio
   generalize ops[i] = o at *
   obtain ⟨kind, n, d, x, keep', ka, kc4⟩ := o
   dsimp only at q0 q1 q2 q3 q4 hKo
   have hi1 : (i : Int) < (l : Int) := by omega
   have hi2 : (i : Int) < 100 := by omega
   have c0 := (hB.out.cell (p := ⟨ob, oo + i * 5, none⟩) hob).trans q0
   have c1 := (hB.out.cell (p := ⟨ob, oo + i * 5 + 1, none⟩) hob).trans q1
   have c2 := (hB.out.cell (p := ⟨ob, oo + i * 5 + 2, none⟩) hob).trans q2
   have c3 := (hB.out.cell (p := ⟨ob, oo + i * 5 + 3, none⟩) hob).trans q3
   have c4 := (hB.out.cell (p := ⟨ob, oo + i * 5 + 4, none⟩) hob).trans q4
   have hKq := hKo.below hB.out (Nat.le_refl _)
   by_cases hk2 : 2 ≤ kind
   ·by_cases hk5 : kind ≤ 5
    ·have hdo := rig_doW hR.out hok.out (K := i + 1) hLl.out (by omega) hN kind n d x ka keep'.length kc4 keep' hKq rfl ⟨hk2, hk5⟩
     have hBq := hB
     clear hKq q0 q1 q2 q3 q4 hKo hR hok hLl hB
     go_wp2_with fail
     with_reducible refine hdo.mono ?_
     rintro e w8 ⟨rfl, G8, F8, s8, V8, L8, hR8, hok8, hL8, hB8⟩
     have hB9 := Lib.hid (hBq.out.trans hB8)
     replace hR8 := Lib.hid hR8
     replace hok8 := Lib.hid hok8
     replace hL8 := Lib.hid hL8
     clear hdo hB8 hBq
     go_wp2_with fail
     go_roundw
     case rel =>
      first
      | exact ⟨i + 1, G8, F8, s8, V8, L8, by go_num, by omega, by omega, hR8, hok8, hL8, hB9⟩
      | ((repeat apply Exists.intro); exact ⟨⟨i + 1, G8, F8, s8, V8, L8, by go_num, by omega, by omega, hR8, hok8, hL8, hB9⟩, rfl⟩)
     case measure => simp [intOf]; omega
    ·have hLl2 : Hid (∀ b, b < N → (L b).length ≤ i + 1 + 1) := Lib.hid fun b hb => by have := hLl.out b hb; omega
     clear hKq q0 q1 q2 q3 q4 hKo hLl
     go_wp2_with fail
     go_roundw
     case rel =>
      first
      | exact ⟨i + 1, G, F, s, V, L, by go_num, by omega, by omega, hR, hok, hLl2, hB⟩
      | ((repeat apply Exists.intro); exact ⟨⟨i + 1, G, F, s, V, L, by go_num, by omega, by omega, hR, hok, hLl2, hB⟩, rfl⟩)
     case measure => simp [intOf]; omega
   ·have hLl2 : Hid (∀ b, b < N → (L b).length ≤ i + 1 + 1) := Lib.hid fun b hb => by have := hLl.out b hb; omega
    clear hKq q0 q1 q2 q3 q4 hKo hLl
    go_wp2_with fail
    go_roundw
    case rel =>
     first
     | exact ⟨i + 1, G, F, s, V, L, by go_num, by omega, by omega, hR, hok, hLl2, hB⟩
     | ((repeat apply Exists.intro); exact ⟨⟨i + 1, G, F, s, V, L, by go_num, by omega, by omega, hR, hok, hLl2, hB⟩, rfl⟩)
    case measure => simp [intOf]; omega
  ·have hcr := crash_on hR.out hok.out (fun b hb => by have := hLl.out b hb; omega) hN KA kn kc keep (hKL.out.below hB.out (Nat.le_refl _)) hkn.out (-1)
   have hBr := hB
   have hcase : i = l ∨ (i < l ∧ 100 ≤ i) := by omega
   clear hR hok hLl hops hB hin hKL hkn
   rcases hcase with hx | ⟨hx, hx2⟩
   ·subst hx
    go_wp2_with fail
    with_reducible refine hcr.mono ?_
    rintro e w8 ⟨rfl, G8, F8, s8, V8, L8, hR8, hok8, hL8, hB8, hon8⟩
    have hst := hok8.stN
    have hB9 := Lib.hid (hBr.out.trans hB8)
    replace hR8 := Lib.hid hR8
    replace hok8 := Lib.hid hok8
    clear hcr hB8 hL8 hBr
    go_wp2_with fail
    go_loopw [13] (fun p wq => ∃ (j : Nat) (s : ShM), p = .int .i64 j ∧ j ≤ st ∧ s.off = false ∧ Hid (RigAt wq w.heap.size rb mb cap G8 F8 tv m st lg N s V8 L8 false) ∧ Hid (RigOk s V8 N L8 false (m, st)) ∧ Hid (Below w.heap.size w wq))
     (fun p _ => st - (intOf p).toNat)
    case atStart => exact ⟨0, s8, by go_num, by omega, hon8, hR8, hok8, hB9⟩
    case round =>
     clear hR8 hok8 hB9 hon8 s8
     obtain ⟨j, s9, rfl, hjst, hon9, hR9, hok9, hB9⟩ := hrel
     have r1 := hR9.out.c 1
     have r3 := hR9.out.c 3
     have hrl := hR9.out.rlt
     simp only [rigR] at r1 r3
     by_cases hj : j < st
     ·have hwh := rig_whole hR9.out hok9.out hon9 hj
      have hj1 : (j : Int) < (st : Int) := by omega
      clear hR9 hok9
      go_wp2_with fail
      with_reducible refine hwh.mono ?_
      rintro e w10 ⟨rfl, s10, hR10, hok10, hon10, hB10⟩
      have hB11 := Lib.hid (hB9.out.trans hB10)
      replace hR10 := Lib.hid hR10
      replace hok10 := Lib.hid hok10
      clear hwh hB10 hB9
      go_wp2_with fail
      go_roundw
      case rel =>
       first
       | exact ⟨j + 1, s10, by go_num, by omega, hon10, hR10, hok10, hB11⟩
       | ((repeat apply Exists.intro); exact ⟨⟨j + 1, s10, by go_num, by omega, hon10, hR10, hok10, hB11⟩, rfl⟩)
      case measure => simp [intOf]; omega
     ·have hbad := rig_whole_bad (hR9.out.below (Below.refl _ _).drew) hok9.out
      have hj1 : ¬ (j : Int) < (st : Int) := by omega
      have hB9d := Lib.hid hB9.out.drew
      clear hR9 hok9 hon9 hB9
      go_wp2_with fail
      refine wp_region_held_drew (S := (fun W => W.cell? ⟨rb, 1, none⟩ = some (.pointer (some ⟨F8.v, 0, none⟩)) ∧ W.cell? ⟨rb, 3, none⟩ = some (.int .i64 (st : Int)) ∧ rb < W.heap.size)) (by kernel_rfl) ?_ (fun hHeld => ?_)
      ·(try dsimp only)
       exact ⟨r1, r3, hrl⟩
      refine tkA 0 ?_
      refine tkA 1 ?_
      refine tkA 2 ?_
      refine tkA 3 ?_
      refine tkA 4 ?_
      refine tkA 5 ?_
      refine tkA 6 ?_
      refine tkA 7 ?_
      refine rkA 8 (fun K hK => ?_)
      go_simp
      with_reducible refine hbad.mono ?_
      rintro e w10 ⟨rfl, hR10, hB10⟩
      have hfin := Lib.hid (hB9d.out.trans hB10)
      have r1b := hR10.c 1
      have r3b := hR10.c 3
      simp only [rigR] at r1b r3b
      have hS10 := And.intro r1b (And.intro r3b hR10.rlt)
      clear hbad hB10 hB9d hR10
      (try go_wp2_with fail)
      refine hK.out _ _ ?_ (fun hHeld2 => ?_)
      ·(try dsimp only)
       first | exact hHeld | exact hS10
      clear hK K
      replace hHeld := hHeld2
      clear hHeld2
      (try simp only [pA, pN, pB, pC, pD])
      refine tkA 9 ?_
      refine tkA 10 ?_
      refine tkA 11 ?_
      refine tkA 12 ?_
      refine tkA 13 ?_
      refine wpAnyH_done (by kernel_rfl) ?_ _
      (try go_wp2_with fail)
      go_ret
      exact ⟨rfl, hfin.out⟩
   ·have hi1 : (i : Int) < (l : Int) := by omega
    have hi2 : ¬ (i : Int) < 100 := by omega
    go_wp2_with fail
    with_reducible refine hcr.mono ?_
    rintro e w8 ⟨rfl, G8, F8, s8, V8, L8, hR8, hok8, hL8, hB8, hon8⟩
    have hst := hok8.stN
    have hB9 := Lib.hid (hBr.out.trans hB8)
    replace hR8 := Lib.hid hR8
    replace hok8 := Lib.hid hok8
    clear hcr hB8 hL8 hBr
    go_wp2_with fail
    go_loopw [13] (fun p wq => ∃ (j : Nat) (s : ShM), p = .int .i64 j ∧ j ≤ st ∧ s.off = false ∧ Hid (RigAt wq w.heap.size rb mb cap G8 F8 tv m st lg N s V8 L8 false) ∧ Hid (RigOk s V8 N L8 false (m, st)) ∧ Hid (Below w.heap.size w wq))
     (fun p _ => st - (intOf p).toNat)
    case atStart => exact ⟨0, s8, by go_num, by omega, hon8, hR8, hok8, hB9⟩
    case round =>
     clear hR8 hok8 hB9 hon8 s8
     obtain ⟨j, s9, rfl, hjst, hon9, hR9, hok9, hB9⟩ := hrel
     have r1 := hR9.out.c 1
     have r3 := hR9.out.c 3
     have hrl := hR9.out.rlt
     simp only [rigR] at r1 r3
     by_cases hj : j < st
     ·have hwh := rig_whole hR9.out hok9.out hon9 hj
      have hj1 : (j : Int) < (st : Int) := by omega
      clear hR9 hok9
      go_wp2_with fail
      with_reducible refine hwh.mono ?_
      rintro e w10 ⟨rfl, s10, hR10, hok10, hon10, hB10⟩
      have hB11 := Lib.hid (hB9.out.trans hB10)
      replace hR10 := Lib.hid hR10
      replace hok10 := Lib.hid hok10
      clear hwh hB10 hB9
      go_wp2_with fail
      go_roundw
      case rel =>
       first
       | exact ⟨j + 1, s10, by go_num, by omega, hon10, hR10, hok10, hB11⟩
       | ((repeat apply Exists.intro); exact ⟨⟨j + 1, s10, by go_num, by omega, hon10, hR10, hok10, hB11⟩, rfl⟩)
      case measure => simp [intOf]; omega
     ·have hbad := rig_whole_bad (hR9.out.below (Below.refl _ _).drew) hok9.out
      have hj1 : ¬ (j : Int) < (st : Int) := by omega
      have hB9d := Lib.hid hB9.out.drew
      clear hR9 hok9 hon9 hB9
      go_wp2_with fail
      refine wp_region_held_drew (S := (fun W => W.cell? ⟨rb, 1, none⟩ = some (.pointer (some ⟨F8.v, 0, none⟩)) ∧ W.cell? ⟨rb, 3, none⟩ = some (.int .i64 (st : Int)) ∧ rb < W.heap.size)) (by kernel_rfl) ?_ (fun hHeld => ?_)
      ·(try dsimp only)
       exact ⟨r1, r3, hrl⟩
      refine tkA 0 ?_
      refine tkA 1 ?_
      refine tkA 2 ?_
      refine tkA 3 ?_
      refine tkA 4 ?_
      refine tkA 5 ?_
      refine tkA 6 ?_
      refine tkA 7 ?_
      refine rkA 8 (fun K hK => ?_)
      go_simp
      with_reducible refine hbad.mono ?_
      rintro e w10 ⟨rfl, hR10, hB10⟩
      have hfin := Lib.hid (hB9d.out.trans hB10)
      have r1b := hR10.c 1
      have r3b := hR10.c 3
      simp only [rigR] at r1b r3b
      have hS10 := And.intro r1b (And.intro r3b hR10.rlt)
      clear hbad hB10 hB9d hR10
      (try go_wp2_with fail)
      refine hK.out _ _ ?_ (fun hHeld2 => ?_)
      ·(try dsimp only)
       first | exact hHeld | exact hS10
      clear hK K
      replace hHeld := hHeld2
      clear hHeld2
      (try simp only [pA, pN, pB, pC, pD])
      refine tkA 9 ?_
      refine tkA 10 ?_
      refine tkA 11 ?_
      refine tkA 12 ?_
      refine tkA 13 ?_
      refine wpAnyH_done (by kernel_rfl) ?_ _
      (try go_wp2_with fail)
      go_ret
      exact ⟨rfl, hfin.out⟩
end Go.Proofs.YtajnlhalanhicaaGreat

/-
 THE WALK of RaidBeyond.
-/
import Derived.Test.YtajnlhalanhicaaHeldTail
import Derived.Test.YtajnlhalanhicaaBe
import Derived.Test.YtajnlhalanhicaaRaLz
namespace Go.Proofs.Ytajnlhalanhicaa
set_option linter.all false
set_option maxRecDepth 20000
open Go.RowKit
set_option maxRecDepth 100000 in
set_option maxHeartbeats 16000000 in
theorem raidBeyond_walk (me : Int) (A : Option Addr) (l c : Nat) (ops : List OpS) (w : World) (hm0 : -9223372036854775808 ≤ me) (hm1 : me ≤ 9223372036854775807)
  (hops : OpsS w w.heap.size A ops) (hl : ops.length = l) (hbd : ∀ o ∈ ops, (-9223372036854775808 ≤ o.at_ ∧ o.at_ ≤ 9223372036854775807) ∧ (-9223372036854775808 ≤ o.n ∧ o.n ≤ 9223372036854775807)) :
  Calls Try.prog 3 #[.int .i64 me, .slice A l c] w fun e w' => e = .returned (.bool true) ∧ Below w.heap.size w w' := by
 have hbg := begin_full (w := w) me 3 2 hm0 hm1 (by omega) (by omega) (by omega) (by omega)
 replace hops := Lib.hid hops
 replace hl := Lib.hid hl
 replace hbd := Lib.hid hbd
 clear hm0 hm1
 go_enter Try.func3, Try.ntmps3
 go_wp2_with fail
 with_reducible refine hbg.mono ?_
 rintro e w1 ⟨rb, mb, cap, G, F, tv, m, st, lg, N, s, V, ⟨rfl, hR, hok, hN, hm16, hB⟩, ⟨hmE, hsE, hlg⟩, hc0, hcM, hsup, hstp, hop, hus⟩
 have hlv := lives08 w1
 have hbey0 := Lib.hid (hok.bey (m := m) hstp hsup (by omega) hc0 hcM)
 have hNp : 0 < N := by
  rw [hok.size]
  show 0 < V.stripes * (V.m - 1)
  exact Nat.mul_pos (by have := hR.vol.ok.sN; have := hR.vol.ok.st1; omega) (by have := hR.vol.ok.m3N; omega)
 have hm3 : 3 ≤ m := by omega
 clear hbg hok hlg hc0 hcM hsup hstp hmE hsE hop hus
 go_wp2_with fail
 refine hlv.mono ?_
 rintro e w2 ⟨rfl, hb2⟩
 have hR2 := hR.below hb2
 have hB2 := below_to hB hb2
 clear hlv hR hB hb2
 obtain ⟨cur, hcur, hmk⟩ := made_strs N hN
 have r5 := hR2.c 5
 have hrl := hR2.rlt
 simp only [rigR] at r5
 obtain ⟨zs, hzs⟩ : ∃ zs, zs = zeroSec := ⟨_, rfl⟩
 have hBe0 := Lib.hid (hR2.bey hcur (fun _ => (0, 0, 0)) (fun _ => [zs]))
 have hBl0 : Hid (Below w.heap.size w (w2.alloc (.cells cur 33))) := Lib.hid (hB2.trans ((below_made' _ _).mono hR2.bsz))
 have hmz := made_zero
 rw [← hzs] at hmz
 have hzl : zs.length = 128 := by rw [hzs]; simp [zeroSec]
 have hms : Hid (∀ W : World, (convert 32 9 (.slice (some ⟨W.heap.size, 0, none⟩) 128 128)).run Try.prog (W.alloc (.cells (bVs zs).toArray 5)) = .ok (.string ⟨zs.toArray⟩) (W.alloc (.cells (bVs zs).toArray 5))) := Lib.hid fun W =>
  run_string_rd (P := Try.prog) _ 32 9 5 Try.underlying32 Try.underlying5 Try.underlying9 _ 128 128 zs (Rd.lit W 5 zs (by rw [hzl]; omega)) hzl
 replace hzs := Lib.hid hzs
 clear hR2 hB2 hcur hzl
 go_wp2_with fail
 generalize w2.alloc (.cells cur 33) = w3 at *
 generalize hwb : w2.heap.size = wb at *
 clear r5 hrl hmk hwb
 go_loopw [7] (fun p wr => ∃ (k : Nat) (G : Nat → Nat × Nat × Nat), p = .int .i64 k ∧ k ≤ N ∧ Hid (BeyAt wr w.heap.size rb mb cap wb G F tv m st lg N k s V (fun _ => [zs])) ∧ Hid (Below w.heap.size w wr))
  (fun p _ => N - (intOf p).toNat)
 case atStart => exact ⟨0, _, by go_num, by omega, hBe0, hBl0⟩
 case round =>
  clear hBe0 hBl0
  obtain ⟨k, G, rfl, hk, hBe, hBl⟩ := hrel
  by_cases hkN : k < N
  ·have hk1 : (k : Int) < (N : Int) := by omega
   have hms0 := hms.out wr
   have hb1 : Below wr.heap.size wr (wr.alloc (.cells (bVs zs).toArray 5)) := below_made' _ _
   have hs1 : (wr.alloc (.cells (bVs zs).toArray 5)).heap.size = wr.heap.size + 1 := World.size_alloc _ _
   have hb2 : Below wr.heap.size wr ((wr.alloc (.cells (bVs zs).toArray 5)).alloc (.cells #[.string ⟨zs.toArray⟩] 9)) := hb1.trans ((below_made' _ _).mono (by simp))
   have hv3 : VlAt ((wr.alloc (.cells (bVs zs).toArray 5)).alloc (.cells #[.string ⟨zs.toArray⟩] 9)) 9 w.heap.size (wr.heap.size + 1) 0 1 [strV zs] := by
    have h := VlAt.lit (W := wr.alloc (.cells (bVs zs).toArray 5)) (E := 9) (base := w.heap.size) (strV zs) (by rw [hs1]; have := hBe.out.bsz; omega)
    rw [hs1] at h
    exact h
   have hwl := hBe.out.may.mblt
   obtain ⟨hq1, hq2⟩ := hBe.out.may.room hkN
   obtain ⟨v0, hq1⟩ := Option.isSome_iff_exists.1 hq1
   have hc9 : ((wr.alloc (.cells (bVs zs).toArray 5)).alloc (.cells #[.string ⟨zs.toArray⟩] 9)).cell? ⟨wb, k, none⟩ = some v0 := (hb2.cell hwl).trans hq1
   have hf9 : ((wr.alloc (.cells (bVs zs).toArray 5)).alloc (.cells #[.string ⟨zs.toArray⟩] 9)).frozen? ⟨wb, k, none⟩ = false := (World.frozen?_of_block (hb2.block wb hwl)).trans hq2
   have hupd : updM (fun _ => [zs]) k [zs] = fun _ => [zs] := by funext j; unfold updM; split <;> rfl
   obtain ⟨hBe9, hBk⟩ := hBe.out.put (w' := (wr.alloc (.cells (bVs zs).toArray 5)).alloc (.cells #[.string ⟨zs.toArray⟩] 9)) (k := k) (n' := k + 1) hkN (fun j => by omega) ⟨rfl, rfl, rfl⟩ hb2.size (fun b hb _ => hb2.block b hb) (l := [zs]) (q := 1) rfl hv3 (.inr (by omega))
   rw [hupd, World.setCell_alloc_past _ _ _ _ (by rw [hs1]; omega), World.setCell_alloc_past _ _ _ _ hwl] at hBe9
   rw [World.setCell_alloc_past _ _ _ _ (by rw [hs1]; omega), World.setCell_alloc_past _ _ _ _ hwl] at hBk
   have hBl9 := Lib.hid (hBk w hBl.out)
   replace hBe9 := Lib.hid hBe9
   clear hBe hBl hb1 hb2 hv3 hq1 hq2 hBk hupd
   go_wp2_with fail
   go_roundw
   case rel => exact ⟨k + 1, _, by go_num, by omega, hBe9, hBl9⟩
   case measure => simp [intOf]; omega
  ·obtain rfl : k = N := by omega
   have hk1 : ¬ (k : Int) < (k : Int) := by omega
   have hBe1 := hBe
   have hBl1 := hBl
   rw [← hzs.out] at hbey0
   clear hBe hBl hms hmz hzs
   go_wp2_with fail
   go_loopw [8] (fun p wr => ∃ (i : Nat) (G : Nat → Nat × Nat × Nat) (s : ShM) (V : VolM) (L : Nat → List Bytes), p = .int .i64 i ∧ i ≤ l ∧ i ≤ 150 ∧ Hid (BeyAt wr w.heap.size rb mb cap wb G F tv m st lg k k s V L) ∧ Hid (BeyOk s V k m L (100000 + 1200 * i)) ∧ Hid (∀ b, b < k → (L b).length ≤ i + 1) ∧ Hid (Below w.heap.size w wr))
    (fun p _ => l - (intOf p).toNat)
   case atStart => exact ⟨0, G, s, V, _, by go_num, by omega, by omega, hBe1, hbey0, Lib.hid (fun b _ => by simp), hBl1⟩
   case round =>
    clear hBe1 hBl1 hbey0
    obtain ⟨i, G, s, V, L, rfl, hil, hi150, hBe, hbo, hLl, hBl⟩ := hrel
    by_cases hin : i < l ∧ i < 150
    ·obtain ⟨hin1, hin2⟩ := hin
     have hio : i < ops.length := by rw [hl.out]; exact hin1
     obtain ⟨ob, oo, rfl, hob, q0, q1, q2, q3, q4, hKo⟩ := hops.out.get hio
     obtain ⟨hd, hnb⟩ := hbd.out _ (List.getElem_mem hio)
     generalize ops[i] = o at *
     obtain ⟨kind, n, d, x, keep', ka, kc4⟩ := o
     dsimp only at q0 q1 q2 q3 q4 hKo hd hnb
     have hi1 : (i : Int) < (l : Int) := by omega
     have hi2 : (i : Int) < 150 := by omega
     have c0 := (hBl.out.cell (p := ⟨ob, oo + i * 5, none⟩) hob).trans q0
     have c1 := (hBl.out.cell (p := ⟨ob, oo + i * 5 + 1, none⟩) hob).trans q1
     have c2 := (hBl.out.cell (p := ⟨ob, oo + i * 5 + 2, none⟩) hob).trans q2
     have c3 := (hBl.out.cell (p := ⟨ob, oo + i * 5 + 3, none⟩) hob).trans q3
     have c4 := (hBl.out.cell (p := ⟨ob, oo + i * 5 + 4, none⟩) hob).trans q4
     clear q0 q1 q2 q3 q4 hKo
     obtain ⟨nb, hnb2⟩ := Int.eq_ofNat_of_zero_le (Int.emod_nonneg n (show (k : Int) ≠ 0 by omega))
     have hnk : nb < k := by have := Int.emod_lt_of_pos n (show (0 : Int) < (k : Int) by omega); omega
     have hmd := fun W => mod08 n (k : Int) W (by omega) (by omega) hnb.1 hnb.2
     rw [hnb2] at hmd
     have hb1 := below_made' wr (.cells #[.int .i64 kind, .int .i64 n, .int .i64 d, .int .u8 (x.toNat : Int), .slice ka keep'.length kc4] 36)
     have hbx := heap_alloc_new wr (.cells #[.int .i64 kind, .int .i64 n, .int .i64 d, .int .u8 (x.toNat : Int), .slice ka keep'.length kc4] 36)
     have hBe1 := hBe.out.below hb1
     have hBl1 := Lib.hid (hBl.out.trans (hb1.mono hBe.out.bsz))
     clear hnb hnb2 hBe hBl hb1
     go_wp2_with fail
     generalize wr.alloc (.cells #[.int .i64 kind, .int .i64 n, .int .i64 d, .int .u8 (x.toNat : Int), .slice ka keep'.length kc4] 36) = W1 at *
     generalize wr.heap.size = xo at *
     have d0 := cell_of_row W1 xo 0 _ _ _ hbx
     have d1 := cell_of_row W1 xo 1 _ _ _ hbx
     have d2 := cell_of_row W1 xo 2 _ _ _ hbx
     have d3 := cell_of_row W1 xo 3 _ _ _ hbx
     have hxlt := lt_of_row hbx
     have hct0 := lx_count hBe1.vol.sh
     have hvd := hBe1.vol.ok.vd hBe1.vol.sh.ok
     have hrl := hBe1.rlt
     have r0 := hBe1.c0
     have r1 := hBe1.c1
     have r2 := hBe1.c2
     replace hBe1 := Lib.hid hBe1
     replace hbx := Lib.hid hbx
     clear c0 c1 c2 c3 c4
     with_reducible refine (hmd _).mono ?_
     rintro e wx ⟨rfl, rfl⟩
     clear hmd
     go_wp2_with fail
     with_reducible refine hct0.mono ?_
     rintro e wx ⟨rfl, rfl⟩
     clear hct0
     have hcases : kind = 1 ∨ kind = 2 ∨ kind = 3 ∨ kind = 4 ∨ kind = 6 ∨ (¬ kind = 1 ∧ ¬ kind = 2 ∧ ¬ kind = 3 ∧ ¬ kind = 4 ∧ ¬ kind = 6) := by omega
     have hcn : (100000 + 1200 * (i : Int) + 1200) = 100000 + 1200 * ((i + 1 : Nat) : Int) := by omega
     have hci : 100000 + 1200 * (i : Int) ≤ 900000000 := by omega
     rcases hcases with rfl | rfl | rfl | rfl | rfl | ⟨k1, k2, k3, k4, k6⟩
     ·as_aux_lemma =>
      have hrd := hbo.out.read hvd hm16 hci hnk
      rw [hcn] at hrd
      have hcl := ra_read hBe1.out.vol (hbo.out.room.mono (by omega)) nb (by rw [← hbo.out.size]; exact hnk)
      unfold BytesPost at hcl
      have hsc0 := hbo.out.c0
      have hscM := hbo.out.cM
      have hln := hLl.out nb hnk
      have hLl2 : Hid (∀ b, b < k → (L b).length ≤ i + 1 + 1) := Lib.hid fun b hb => by have := hLl.out b hb; omega
      generalize volRead s V (nb : Int) = r at *
      obtain ⟨bs, er, s8, V8⟩ := r
      dsimp only at hrd hcl
      obtain ⟨he, hbo8, hc8, hc8'⟩ := hrd
      replace hbo8 := Lib.hid hbo8
      have hwr : IntKind.i64.wrap (s8.count - s.count) = s8.count - s.count := IntWalk.i64_in _ (by omega)
      have hcc : ¬ 64 < s8.count - s.count := by omega
      clear hLl hbx hvd r0 d1 d2 d3 hbo
      rcases he with ⟨rfl, hmem⟩ | ⟨rfl, rfl⟩ | ⟨rfl, rfl⟩
      ·replace hmem := Lib.hid hmem
       go_wp2_with fail
       with_reducible refine hcl.mono ?_
       rintro e w8 ⟨A8, c8, rfl, hR8, hcap8, hA8, hV8, hK8⟩
       have hBe8 := hBe1.out.keep (hV8.mono fun b hb => .inl hb) hK8
       have hBl8 := Lib.hid (RigAt.kbelow hBl1.out hK8)
       have hct8 := lx_count hBe8.vol.sh
       have r08 := hBe8.c0
       have hrl8 := hBe8.rlt
       have hcv0 : Hid (∀ W, Below w8.heap.size w8 W → (convert 32 9 (.slice A8 bs.length c8)).run Try.prog W = .ok (.string ⟨bs.toArray⟩) W) := Lib.hid fun W hW =>
        run_string_rd (P := Try.prog) W 32 9 5 Try.underlying32 Try.underlying5 Try.underlying9 A8 bs.length c8 bs (hR8.below hW) rfl
       have hMl := Lib.hid hBe8.may
       replace hBe8 := Lib.hid hBe8
       clear hcl hBe1 hBl1 hR8 hA8 hV8 hK8 hcap8 r1 r2 hrl
       go_wp2_with fail
       with_reducible refine hct8.mono ?_
       rintro e wx ⟨rfl, rfl⟩
       clear hct8
       go_wp2_with fail
       go_loopw [14, 15] (fun p q wr => ∃ (j : Nat) (b : Bool), p = .bool b ∧ q = .int .i64 j ∧ j ≤ (L nb).length ∧ Hid (b = ((L nb).take j).contains bs) ∧ Hid (Below w8.heap.size w8 wr))
        (fun _ q _ => ((L nb).length - intOf q).toNat)
       case atStart => exact ⟨0, false, rfl, by go_num, by omega, Lib.hid (by simp), Lib.hid (by first | exact Below.refl _ _ | exact (Below.refl _ _).drew)⟩
       case round =>
        obtain ⟨j, b, rfl, rfl, hj, hbb, hbel⟩ := hrel
        have hMw := hMl.out.below hbel.out
        have hhd := hMw.head hnk
        by_cases hjk : j < (L nb).length
        ·have hst := hMw.str hnk hjk
         have htk : (L nb).take (j + 1) = (L nb).take j ++ [(L nb)[j]] := by rw [List.take_succ, List.getElem?_eq_getElem hjk]; rfl
         have hcw := hcv0.out _ hbel.out.drew
         have hbw := Lib.hid hbel.out.drew
         generalize (L nb)[j] = y at *
         replace hst : wr.cell? ⟨(G nb).1, (G nb).2.1 + j, none⟩ = some (.string ⟨y.toArray⟩) := hst
         replace htk := Lib.hid htk
         replace hMw := Lib.hid hMw
         have hig : ((L nb).length : Int) ≤ 1001 := by omega
         cases b with
         | true =>
          go_wp2_with fail
          refine wp_region_held_drew (S := (fun W => W.cell? ⟨wb, nb, none⟩ = some (.slice (some ⟨(G nb).1, (G nb).2.1, none⟩) (L nb).length (G nb).2.2) ∧ W.cell? ⟨(G nb).1, (G nb).2.1 + j, none⟩ = some (.string ⟨y.toArray⟩) ∧ (convert 32 9 (.slice A8 bs.length c8)).run Try.prog W = .ok (.string ⟨bs.toArray⟩) W)) (by kernel_rfl) ?_ (fun hHeld => ?_)
          ·(try dsimp only)
           exact ⟨hhd, hst, hcw⟩
          refine tkA 0 ?_
          refine tkA 1 ?_
          refine tuA 2 ?_
          refine tuA 3 ?_
          refine tuA 4 ?_
          refine tuA 5 ?_
          refine tuA 6 ?_
          refine tuA 7 ?_
          refine tuA 8 ?_
          refine tuA 9 ?_
          refine tuA 10 ?_
          refine tuA 11 ?_
          refine tkA 12 ?_
          refine tkA 13 ?_
          refine wpAnyH_done (by kernel_rfl) ?_ _
          go_wp2
          go_roundw
          case rel => exact ⟨j + 1, _, rfl, by go_num, by omega, Lib.hid (by rw [htk.out, List.contains_append, ← hbb.out, List.contains_cons, List.contains_nil, Bool.or_false]; first | rfl | (rw [Bool.false_or]; rfl) | (rw [Bool.true_or]; rfl) | (rw [Bool.false_or, Bool.eq_iff_iff, beq_iff_eq, beq_iff_eq]; exact eq_comm) | (rw [Bool.true_or])), hbw⟩
          case measure => simp [intOf]; omega
         | false =>
          go_wp2_with fail
          refine wp_region_held_drew (S := (fun W => W.cell? ⟨wb, nb, none⟩ = some (.slice (some ⟨(G nb).1, (G nb).2.1, none⟩) (L nb).length (G nb).2.2) ∧ W.cell? ⟨(G nb).1, (G nb).2.1 + j, none⟩ = some (.string ⟨y.toArray⟩) ∧ (convert 32 9 (.slice A8 bs.length c8)).run Try.prog W = .ok (.string ⟨bs.toArray⟩) W)) (by kernel_rfl) ?_ (fun hHeld => ?_)
          ·(try dsimp only)
           exact ⟨hhd, hst, hcw⟩
          refine tkA 0 ?_
          refine tkA 1 ?_
          refine tkA 2 ?_
          refine tkA 3 ?_
          refine tkA 4 ?_
          refine tkA 5 ?_
          refine tkA 6 ?_
          refine tkA 7 ?_
          refine tkA 8 ?_
          refine tkA 9 ?_
          refine tkA 10 ?_
          refine tkA 11 ?_
          refine tkA 12 ?_
          refine tkA 13 ?_
          refine wpAnyH_done (by kernel_rfl) ?_ _
          go_wp2
          go_roundw
          case rel => exact ⟨j + 1, _, rfl, by go_num, by omega, Lib.hid (by rw [htk.out, List.contains_append, ← hbb.out, List.contains_cons, List.contains_nil, Bool.or_false]; first | rfl | (rw [Bool.false_or]; rfl) | (rw [Bool.true_or]; rfl) | (rw [Bool.false_or, Bool.eq_iff_iff, beq_iff_eq, beq_iff_eq]; exact eq_comm) | (rw [Bool.true_or])), hbw⟩
          case measure => simp [intOf]; omega
        ·obtain rfl : j = (L nb).length := by omega
         have hbt : b = true := by rw [hbb.out, List.take_length]; simpa using hmem.out
         subst hbt
         have hBe9 := Lib.hid (hBe8.out.below hbel.out)
         have hBl9 := Lib.hid (hBl8.out.trans (hbel.out.mono hBe8.out.bsz))
         clear hbb hcv0 hMl hMw hbel hBe8 hBl8
         go_wp2_with fail
         go_roundw
         case rel =>
          first
          | exact ⟨i + 1, G, s8, V8, L, by go_num, by omega, by omega, hBe9, hbo8, hLl2, hBl9⟩
          | ((repeat apply Exists.intro); exact ⟨⟨i + 1, G, s8, V8, L, by go_num, by omega, by omega, hBe9, hbo8, hLl2, hBl9⟩, rfl⟩)
         case measure => simp [intOf]; omega
      ·go_wp2_with fail
       with_reducible refine hcl.mono ?_
       rintro e w8 ⟨A8, c8, rfl, hR8, hcap8, hA8, hV8, hK8⟩
       have hBe8 := hBe1.out.keep (hV8.mono fun b hb => .inl hb) hK8
       have hBl8 := Lib.hid (RigAt.kbelow hBl1.out hK8)
       have hct8 := lx_count hBe8.vol.sh
       have r08 := hBe8.c0
       have hrl8 := hBe8.rlt
       have hMl := Lib.hid hBe8.may
       replace hBe8 := Lib.hid hBe8
       clear hcl hBe1 hBl1 hR8 hA8 hV8 hK8 hcap8 r1 r2 hrl
       go_wp2_with fail
       with_reducible refine hct8.mono ?_
       rintro e wx ⟨rfl, rfl⟩
       clear hct8
       go_wp2_with fail
       go_loopw [14, 15] (fun p q wr => ∃ (j : Nat), p = .bool true ∧ q = .int .i64 j ∧ j ≤ (L nb).length ∧ Hid (Below w8.heap.size w8 wr))
        (fun _ q _ => ((L nb).length - intOf q).toNat)
       case atStart => exact ⟨0, rfl, by go_num, by omega, Lib.hid (by first | exact Below.refl _ _ | exact (Below.refl _ _).drew)⟩
       case round =>
        obtain ⟨j, rfl, rfl, hj, hbel⟩ := hrel
        have hMw := hMl.out.below hbel.out
        have hhd := hMw.head hnk
        replace hMw := Lib.hid hMw
        by_cases hjk : j < (L nb).length
        ·have hbw := Lib.hid hbel.out.drew
         have hig : ((L nb).length : Int) ≤ 1001 := by omega
         go_wp2_with fail
         refine wp_region_held_drew (S := (fun W => W.cell? ⟨wb, nb, none⟩ = some (.slice (some ⟨(G nb).1, (G nb).2.1, none⟩) (L nb).length (G nb).2.2))) (by kernel_rfl) ?_ (fun hHeld => ?_)
         ·(try dsimp only)
          exact hhd
         refine tkA 0 ?_
         refine tkA 1 ?_
         refine tuA 2 ?_
         refine tuA 3 ?_
         refine tuA 4 ?_
         refine tuA 5 ?_
         refine tuA 6 ?_
         refine tuA 7 ?_
         refine tuA 8 ?_
         refine tuA 9 ?_
         refine tuA 10 ?_
         refine tuA 11 ?_
         refine tkA 12 ?_
         refine tkA 13 ?_
         refine wpAnyH_done (by kernel_rfl) ?_ _
         go_wp2
         go_roundw
         case rel => exact ⟨j + 1, rfl, by go_num, by omega, hbw⟩
         case measure => simp [intOf]; omega
        ·obtain rfl : j = (L nb).length := by omega
         have hBe9 := Lib.hid (hBe8.out.below hbel.out)
         have hBl9 := Lib.hid (hBl8.out.trans (hbel.out.mono hBe8.out.bsz))
         clear hMl hMw hbel hBe8 hBl8
         go_wp2_with fail
         go_roundw
         case rel =>
          first
          | exact ⟨i + 1, G, s8, V8, L, by go_num, by omega, by omega, hBe9, hbo8, hLl2, hBl9⟩
          | ((repeat apply Exists.intro); exact ⟨⟨i + 1, G, s8, V8, L, by go_num, by omega, by omega, hBe9, hbo8, hLl2, hBl9⟩, rfl⟩)
         case measure => simp [intOf]; omega
      ·go_wp2_with fail
       with_reducible refine hcl.mono ?_
       rintro e w8 ⟨A8, c8, rfl, hR8, hcap8, hA8, hV8, hK8⟩
       have hBe8 := hBe1.out.keep (hV8.mono fun b hb => .inl hb) hK8
       have hBl8 := Lib.hid (RigAt.kbelow hBl1.out hK8)
       have hct8 := lx_count hBe8.vol.sh
       have r08 := hBe8.c0
       have hrl8 := hBe8.rlt
       have hMl := Lib.hid hBe8.may
       replace hBe8 := Lib.hid hBe8
       clear hcl hBe1 hBl1 hR8 hA8 hV8 hK8 hcap8 r1 r2 hrl
       go_wp2_with fail
       with_reducible refine hct8.mono ?_
       rintro e wx ⟨rfl, rfl⟩
       clear hct8
       go_wp2_with fail
       go_loopw [14, 15] (fun p q wr => ∃ (j : Nat), p = .bool true ∧ q = .int .i64 j ∧ j ≤ (L nb).length ∧ Hid (Below w8.heap.size w8 wr))
        (fun _ q _ => ((L nb).length - intOf q).toNat)
       case atStart => exact ⟨0, rfl, by go_num, by omega, Lib.hid (by first | exact Below.refl _ _ | exact (Below.refl _ _).drew)⟩
       case round =>
        obtain ⟨j, rfl, rfl, hj, hbel⟩ := hrel
        have hMw := hMl.out.below hbel.out
        have hhd := hMw.head hnk
        replace hMw := Lib.hid hMw
        by_cases hjk : j < (L nb).length
        ·have hbw := Lib.hid hbel.out.drew
         have hig : ((L nb).length : Int) ≤ 1001 := by omega
         go_wp2_with fail
         refine wp_region_held_drew (S := (fun W => W.cell? ⟨wb, nb, none⟩ = some (.slice (some ⟨(G nb).1, (G nb).2.1, none⟩) (L nb).length (G nb).2.2))) (by kernel_rfl) ?_ (fun hHeld => ?_)
         ·(try dsimp only)
          exact hhd
         refine tkA 0 ?_
         refine tkA 1 ?_
         refine tuA 2 ?_
         refine tuA 3 ?_
         refine tuA 4 ?_
         refine tuA 5 ?_
         refine tuA 6 ?_
         refine tuA 7 ?_
         refine tuA 8 ?_
         refine tuA 9 ?_
         refine tuA 10 ?_
         refine tuA 11 ?_
         refine tkA 12 ?_
         refine tkA 13 ?_
         refine wpAnyH_done (by kernel_rfl) ?_ _
         go_wp2
         go_roundw
         case rel => exact ⟨j + 1, rfl, by go_num, by omega, hbw⟩
         case measure => simp [intOf]; omega
        ·obtain rfl : j = (L nb).length := by omega
         have hBe9 := Lib.hid (hBe8.out.below hbel.out)
         have hBl9 := Lib.hid (hBl8.out.trans (hbel.out.mono hBe8.out.bsz))
         clear hMl hMw hbel hBe8 hBl8
         go_wp2_with fail
         go_roundw
         case rel =>
          first
          | exact ⟨i + 1, G, s8, V8, L, by go_num, by omega, by omega, hBe9, hbo8, hLl2, hBl9⟩
          | ((repeat apply Exists.intro); exact ⟨⟨i + 1, G, s8, V8, L, by go_num, by omega, by omega, hBe9, hbo8, hLl2, hBl9⟩, rfl⟩)
         case measure => simp [intOf]; omega
     ·as_aux_lemma =>
      have hsec := sector_any x W1
      have hsl := secOf_len x
      generalize secOf x = sb at *
      have hwq := hbo.out.write hvd hm16 hci hnk hsl
      rw [hcn] at hwq
      have hroom := hbo.out.room
      have hnV : nb < V.size := by rw [← hbo.out.size]; exact hnk
      have hsc0 := hbo.out.c0
      have hscM := hbo.out.cM
      have hln := hLl.out nb hnk
      have hLl2 : Hid (∀ b, b < k → (updM L nb (L nb ++ [sb]) b).length ≤ i + 1 + 1) := Lib.hid fun b hb => by
       by_cases e : b = nb
       ·rw [e, updM_same, List.length_append, List.length_singleton]; omega
       ·rw [updM_ne _ _ e]; have := hLl.out b hb; omega
      replace hsl := Lib.hid hsl
      replace hwq := Lib.hid hwq
      replace hroom := Lib.hid hroom
      clear hLl hbx hvd r0 r1 r2 d1 d2 hbo
      go_wp2_with fail
      with_reducible refine hsec.mono ?_
      rintro e w4 ⟨A4, c4, rfl, ho4, hb4⟩
      obtain ⟨hh, xb, rfl, hxg, hxl⟩ := ho4.some_ (i := 0) (by rw [hsl.out]; omega)
      clear hh
      have hBe4 := hBe1.out.below hb4
      have hBl4 := hBl1.out.trans (hb4.mono hBe1.out.bsz)
      have hxRX : ¬ RX w.heap.size rb wb G k xb := fun hx => by
       have := hBe1.out.vol.lt xb hx
       omega
      have hV4 : VolX (fun b => RX w.heap.size rb wb G k b ∨ b = xb) F w4 s V := hBe1.out.vol.more hb4 fun b hb => by
       rcases hb with hb | rfl
       ·exact ⟨Nat.lt_of_lt_of_le (hBe1.out.vol.lt b hb) hb4.size, .inl hb⟩
       ·exact ⟨hxl, .inr hxg⟩
      have hrd4 := ho4.rd
      have hM1 := hBe4.may
      have hh1 := hM1.head hnk
      have hv1 := (hM1.el nb hnk).1
      have hgm := (hM1.el nb hnk).2
      have hg1 := hv1.lt
      have hmb1 := hM1.mblt
      have hbsz := hM1.low
      have hoG : xb ≠ (G nb).1 := fun e => hxRX (e ▸ .inr (.inr (.inr ⟨nb, hnk, rfl⟩)))
      have hcv : Hid (∀ W, W.heap[xb]? = w4.heap[xb]? → (convert 32 9 (.slice (some ⟨xb, 0, none⟩) 128 c4)).run Try.prog W = .ok (.string ⟨sb.toArray⟩) W) := Lib.hid fun W hW =>
       run_string_rd (P := Try.prog) W 32 9 5 Try.underlying32 Try.underlying5 Try.underlying9 _ 128 c4 sb (hrd4.blk (fun ad e => by injection e with e; subst e; exact hW)) hsl.out
      have hbel9 : Below w4.heap.size w4 (w4.alloc (.cells #[.string ⟨sb.toArray⟩] 9)).drew := ((Below.refl _ _).alloc (Nat.le_refl _) _).drew
      have hS0 : w4.cell? ⟨wb, nb, none⟩ = some (.slice (some ⟨(G nb).1, (G nb).2.1, none⟩) (L nb).length (G nb).2.2) ∧ (convert 32 9 (.slice (some ⟨xb, 0, none⟩) 128 c4)).run Try.prog w4.drew = .ok (.string ⟨sb.toArray⟩) w4.drew := ⟨hh1, hcv.out _ rfl⟩
      have hS8 : (w4.alloc (.cells #[.string ⟨sb.toArray⟩] 9)).drew.cell? ⟨wb, nb, none⟩ = some (.slice (some ⟨(G nb).1, (G nb).2.1, none⟩) (L nb).length (G nb).2.2) ∧ (convert 32 9 (.slice (some ⟨xb, 0, none⟩) 128 c4)).run Try.prog (w4.alloc (.cells #[.string ⟨sb.toArray⟩] 9)).drew = .ok (.string ⟨sb.toArray⟩) (w4.alloc (.cells #[.string ⟨sb.toArray⟩] 9)).drew :=
       ⟨(World.cell?_alloc_lt _ _ _ hmb1).trans hh1, hcv.out _ (heap_alloc_old w4 _ hxl)⟩
      have hv8 : VlAt (w4.alloc (.cells #[.string ⟨sb.toArray⟩] 9)).drew 9 w.heap.size (G nb).1 (G nb).2.1 (G nb).2.2 ((L nb).map strV) := hv1.kept (heap_alloc_old w4 _ hg1)
      have hx8 : (w4.alloc (.cells #[.string ⟨sb.toArray⟩] 9)).drew.cell? ⟨w4.heap.size, 0, none⟩ = some (.string ⟨sb.toArray⟩) := (cell_of_row _ _ 0 _ _ _ (heap_alloc_new w4 _)).trans rfl
      have h9s : (w4.alloc (.cells #[.string ⟨sb.toArray⟩] 9)).drew.heap.size = w4.heap.size + 1 := World.size_alloc _ _
      have hbz1 : w.heap.size ≤ (w4.alloc (.cells #[.string ⟨sb.toArray⟩] 9)).drew.heap.size := by rw [h9s]; have := hBe4.bsz; omega
      have hfz := (hM1.room (k := nb) hnk).2
      have hBe4h := Lib.hid hBe4
      replace hBl4 := Lib.hid hBl4
      replace hV4 := Lib.hid hV4
      replace hrd4 := Lib.hid hrd4
      replace hxRX := Lib.hid hxRX
      clear hsec hBe1 hBl1 ho4 hb4 d3
      go_wp2_with fail
      refine wp_region_held_tail (S := (fun W => W.cell? ⟨wb, nb, none⟩ = some (.slice (some ⟨(G nb).1, (G nb).2.1, none⟩) (L nb).length (G nb).2.2) ∧ (convert 32 9 (.slice (some ⟨xb, 0, none⟩) 128 c4)).run Try.prog W = .ok (.string ⟨sb.toArray⟩) W)) 10 (by kernel_rfl) (by decide) ?_ (fun hHeld => ?_)
      ·(try dsimp only)
       exact hS0
      refine tkT 0 ?_
      refine tkT 1 ?_
      refine tkT 2 ?_
      refine tkT 3 ?_
      refine tkT 4 ?_
      refine tkT 5 ?_
      refine tkT 6 ?_
      refine tkT 7 ?_
      refine rkT 8 (fun K hK => ?_)
      go_simp
      refine hK.out _ _ ?_ (fun hHeld2 => ?_)
      ·(try dsimp only)
       (first | exact hHeld | exact hS8 | exact hS9)
      clear hK K
      replace hHeld := hHeld2
      clear hHeld2
      (try simp only [pA, pN, pB, pC, pD])
      refine rkT 9 (fun K hK => ?_)
      refine step_append_vl (by rfl) _ _ 33 rfl w.heap.size 9 (.string ⟨#[]⟩) 16 Try.underlying33 Try.infoStr1 rfl (G nb).1 (G nb).2.1 (L nb).length (G nb).2.2 ((L nb).map strV) hv8 (by simp) rfl (by omega) (by omega) ⟨w4.heap.size, 0, none⟩ 1 (.string ⟨sb.toArray⟩) rfl hx8 rfl hbz1 ?_
      intro g9 o9 p9 w9 hV9 hBt9 hg9
      have hBa9 := But.from hbel9 hBt9
      have hS9 : w9.cell? ⟨wb, nb, none⟩ = some (.slice (some ⟨(G nb).1, (G nb).2.1, none⟩) (L nb).length (G nb).2.2) ∧ (convert 32 9 (.slice (some ⟨xb, 0, none⟩) 128 c4)).run Try.prog w9 = .ok (.string ⟨sb.toArray⟩) w9 := ⟨(World.cell?_of_block (hBa9.block wb hmb1 (fun e => hgm e.symm))).trans hh1, hcv.out _ (hBa9.block xb hxl hoG)⟩
      refine hK.out _ _ ?_ (fun hHeld2 => ?_)
      ·(try dsimp only)
       (first | exact hHeld | exact hS8 | exact hS9)
      clear hK K
      replace hHeld := hHeld2
      clear hHeld2
      (try simp only [pA, pN, pB, pC, pD])
      refine wt_tail (by kernel_rfl) ?_
      simp only [List.drop_succ_cons, List.drop_zero]
      obtain ⟨hc9, _⟩ := hHeld
      have hf9 : w9.frozen? ⟨wb, nb, none⟩ = false := (World.frozen?_of_block (hBa9.block wb hmb1 (fun e => hgm e.symm))).trans hfz
      have hg9' : g9 = (G nb).1 ∨ w4.heap.size ≤ g9 := hg9.imp id fun h => Nat.le_trans (by rw [h9s]; omega) h
      obtain ⟨hR9, hBk⟩ := hBe4h.out.put (w' := w9) (k := nb) (n' := k) hnk (fun j => by omega) ⟨hBa9.os, hBa9.tape, hBa9.output⟩ hBa9.size (fun b hb hne => hBa9.block b hb (hne hnk)) (l := L nb ++ [sb]) (q := (L nb).length + 1) (by simp) (by rw [List.map_append]; exact hV9) (hg9'.imp (fun e => ⟨hnk, e⟩) id)
      obtain ⟨hV10, hxx⟩ := hBe4h.out.putX hV4.out hnk hxRX.out hxl hBa9 hg9' hR9
      have hB10 := Lib.hid (hBk w hBl4.out)
      have hrd10 : Rd (w9.setCell ⟨wb, nb, none⟩ (.slice (some ⟨g9, o9, none⟩) ((L nb).length + 1) p9)) (some ⟨xb, 0, none⟩) sb := hrd4.out.blk fun ad e => by injection e with e; subst e; exact hxx
      have hct := ra_write hV10 (hroom.out.mono (by omega)) nb hnV (some ⟨xb, 0, none⟩) c4 sb hrd10 hsl.out (fun ad e => by injection e with e; subst e; exact .inr rfl)
      unfold PutPost_ at hct
      have r1 := hR9.c1
      have hrl9 := hR9.rlt
      replace hR9 := Lib.hid hR9
      clear hS0 hS8 hv8 hx8 h9s hv1 hh1 hV9 hg9 hg9' hM1 hV4 hrd4 hxx hBk hbel9 hBt9 hBa9 hBe4h hBl4 hBe4 hV10 hrd10 hrl
      go_wp2_with fail
      generalize w9.setCell ⟨wb, nb, none⟩ (.slice (some ⟨g9, o9, none⟩) ((L nb).length + 1) p9) = wz at *
      generalize updM L nb (L nb ++ [sb]) = L9 at *
      generalize updM G nb (g9, o9, p9) = G9 at *
      generalize volWrite s V (nb : Int) sb = r at *
      obtain ⟨er, s8, V8⟩ := r
      obtain ⟨he, hbo8, hc8, hc8'⟩ := hwq.out
      dsimp only at he hbo8 hc8 hc8' hct
      replace hbo8 := Lib.hid hbo8
      have hwr : IntKind.i64.wrap (s8.count - s.count) = s8.count - s.count := IntWalk.i64_in _ (by omega)
      have hcc : ¬ 1200 < s8.count - s.count := by omega
      clear hwq hc9 hf9
      with_reducible refine hct.mono ?_
      rintro e w8 ⟨rfl, hV8, hK8⟩
      have hBe8 := hR9.out.keep (hV8.mono fun b hb => .inl hb) (hK8.mono fun b hb => .inl hb)
      have hBl9 := Lib.hid (RigAt.kbelow hB10.out (hK8.mono fun b hb => .inl hb))
      have hct8 := lx_count hBe8.vol.sh
      have r08 := hBe8.c0
      have hrl8 := hBe8.rlt
      have hBe9 := Lib.hid hBe8
      clear hct hR9 hB10 hV8 hK8 hBe8 r1 hrl9
      rcases he with rfl | rfl | rfl
      ·go_wp2_with fail
       with_reducible refine hct8.mono ?_
       rintro e wx ⟨rfl, rfl⟩
       clear hct8
       go_wp2_with fail
       go_roundw
       case rel =>
        first
        | exact ⟨i + 1, G9, s8, V8, L9, by go_num, by omega, by omega, hBe9, hbo8, hLl2, hBl9⟩
        | ((repeat apply Exists.intro); exact ⟨⟨i + 1, G9, s8, V8, L9, by go_num, by omega, by omega, hBe9, hbo8, hLl2, hBl9⟩, rfl⟩)
       case measure => simp [intOf]; omega
      ·go_wp2_with fail
       with_reducible refine hct8.mono ?_
       rintro e wx ⟨rfl, rfl⟩
       clear hct8
       go_wp2_with fail
       go_roundw
       case rel =>
        first
        | exact ⟨i + 1, G9, s8, V8, L9, by go_num, by omega, by omega, hBe9, hbo8, hLl2, hBl9⟩
        | ((repeat apply Exists.intro); exact ⟨⟨i + 1, G9, s8, V8, L9, by go_num, by omega, by omega, hBe9, hbo8, hLl2, hBl9⟩, rfl⟩)
       case measure => simp [intOf]; omega
      ·go_wp2_with fail
       with_reducible refine hct8.mono ?_
       rintro e wx ⟨rfl, rfl⟩
       clear hct8
       go_wp2_with fail
       go_roundw
       case rel =>
        first
        | exact ⟨i + 1, G9, s8, V8, L9, by go_num, by omega, by omega, hBe9, hbo8, hLl2, hBl9⟩
        | ((repeat apply Exists.intro); exact ⟨⟨i + 1, G9, s8, V8, L9, by go_num, by omega, by omega, hBe9, hbo8, hLl2, hBl9⟩, rfl⟩)
       case measure => simp [intOf]; omega
     ·as_aux_lemma =>
      have hfl := hbo.out.flush hvd hm16 hci
      rw [hcn] at hfl
      have hcl := ra_flush hBe1.out.vol (hbo.out.room.mono (by omega))
      unfold PutPost_ at hcl
      have hsc0 := hbo.out.c0
      have hscM := hbo.out.cM
      have hLl2 : Hid (∀ b, b < k → (L b).length ≤ i + 1 + 1) := Lib.hid fun b hb => by have := hLl.out b hb; omega
      generalize volFlush s V = r at *
      obtain ⟨er, s8, V8⟩ := r
      dsimp only at hfl hcl
      obtain ⟨he, hbo8, hc8, hc8'⟩ := hfl
      replace hbo8 := Lib.hid hbo8
      have hwr : IntKind.i64.wrap (s8.count - s.count) = s8.count - s.count := IntWalk.i64_in _ (by omega)
      have hcc : ¬ 1200 < s8.count - s.count := by omega
      clear hLl hbx hvd r0 d1 d2 d3 hbo
      rcases he with rfl | rfl
      ·go_wp2_with fail
       with_reducible refine hcl.mono ?_
       rintro e w8 ⟨rfl, hV8, hK8⟩
       have hBe8 := hBe1.out.keep hV8 hK8
       have hBl9 := Lib.hid (RigAt.kbelow hBl1.out hK8)
       have hct8 := lx_count hBe8.vol.sh
       have r08 := hBe8.c0
       have hrl8 := hBe8.rlt
       have hBe9 := Lib.hid hBe8
       clear hcl hBe1 hBl1 hV8 hK8 hBe8 r1 r2 hrl
       go_wp2_with fail
       with_reducible refine hct8.mono ?_
       rintro e wx ⟨rfl, rfl⟩
       clear hct8
       go_wp2_with fail
       go_roundw
       case rel =>
        first
        | exact ⟨i + 1, G, s8, V8, L, by go_num, by omega, by omega, hBe9, hbo8, hLl2, hBl9⟩
        | ((repeat apply Exists.intro); exact ⟨⟨i + 1, G, s8, V8, L, by go_num, by omega, by omega, hBe9, hbo8, hLl2, hBl9⟩, rfl⟩)
       case measure => simp [intOf]; omega
      ·go_wp2_with fail
       with_reducible refine hcl.mono ?_
       rintro e w8 ⟨rfl, hV8, hK8⟩
       have hBe8 := hBe1.out.keep hV8 hK8
       have hBl9 := Lib.hid (RigAt.kbelow hBl1.out hK8)
       have hct8 := lx_count hBe8.vol.sh
       have r08 := hBe8.c0
       have hrl8 := hBe8.rlt
       have hBe9 := Lib.hid hBe8
       clear hcl hBe1 hBl1 hV8 hK8 hBe8 r1 r2 hrl
       go_wp2_with fail
       with_reducible refine hct8.mono ?_
       rintro e wx ⟨rfl, rfl⟩
       clear hct8
       go_wp2_with fail
       go_roundw
       case rel =>
        first
        | exact ⟨i + 1, G, s8, V8, L, by go_num, by omega, by omega, hBe9, hbo8, hLl2, hBl9⟩
        | ((repeat apply Exists.intro); exact ⟨⟨i + 1, G, s8, V8, L, by go_num, by omega, by omega, hBe9, hbo8, hLl2, hBl9⟩, rfl⟩)
       case measure => simp [intOf]; omega
     ·as_aux_lemma =>
      have hsp := lx_stop hBe1.out.vol.sh.drew n
      have hbo8 := hbo.out.stop hBe1.out.vol.sh.ok n
      rw [hcn] at hbo8
      have hlst : (s.stop n).disks.length = s.disks.length ∧ (s.stop n).sectors = s.sectors := by unfold ShM.stop; split <;> exact ⟨rfl, rfl⟩
      have hLl2 : Hid (∀ b, b < k → (L b).length ≤ i + 1 + 1) := Lib.hid fun b hb => by have := hLl.out b hb; omega
      have hfin : ∀ w2, ShX (fun b => RX w.heap.size rb wb G k b ∨ b ∈ F.own) F.g w2 (s.stop n) → Kept (fun b => RX w.heap.size rb wb G k b ∨ b ∈ F.own) W1.drew w2 → BeyAt w2 w.heap.size rb mb cap wb G F tv m st lg k k (s.stop n) V L ∧ Below w.heap.size w w2 := fun w2 hS hK2 =>
       ⟨(hBe1.out.below (Below.refl _ _).drew).keep ((hBe1.out.below (Below.refl _ _).drew).vol.shelved hS hK2 hlst.1 hlst.2) (hK2.mono fun b hb => .inl hb), hBl1.out.drew.trans (hK2.below fun b hb => .inl (.inl hb))⟩
      replace hfin := Lib.hid hfin
      generalize s.stop n = s8 at *
      obtain ⟨V8, hV8⟩ : ∃ V8, V8 = V := ⟨_, rfl⟩
      rw [← hV8] at hbo8 hfin
      replace hbo8 := Lib.hid hbo8
      clear hBe1 hBl1 hbo hLl hbx hvd hlst r1 r2 d2 d3 hV8
      go_wp2_with fail
      refine wp_region_held_tail (S := (fun W => W.cell? ⟨xo, 1, none⟩ = some (.int .i64 n) ∧ W.cell? ⟨rb, 0, none⟩ = some (.pointer (some ⟨F.g, 0, none⟩)))) 6 (by kernel_rfl) (by decide) ?_ (fun hHeld => ?_)
      ·(try dsimp only)
       exact ⟨d1, r0⟩
      refine tkT 0 ?_
      refine tkT 1 ?_
      refine tkT 2 ?_
      refine tkT 3 ?_
      refine tkT 4 ?_
      refine tkT 5 ?_
      refine wt_tail (by kernel_rfl) ?_
      simp only [List.drop_succ_cons, List.drop_zero]
      go_wp2_with fail
      with_reducible refine hsp.mono ?_
      rintro e w2 ⟨rfl, hS2, hK2⟩
      obtain ⟨f1, f2⟩ := hfin.out w2 hS2 hK2
      have hBe9 := Lib.hid f1
      have hBl9 := Lib.hid f2
      clear hsp hS2 hK2 hfin f1 f2
      go_wp2_with fail
      go_roundw
      case rel =>
       first
       | exact ⟨i + 1, G, s8, V8, L, by go_num, by omega, by omega, hBe9, hbo8, hLl2, hBl9⟩
       | ((repeat apply Exists.intro); exact ⟨⟨i + 1, G, s8, V8, L, by go_num, by omega, by omega, hBe9, hbo8, hLl2, hBl9⟩, rfl⟩)
      case measure => simp [intOf]; omega
     ·as_aux_lemma =>
      have hmd := fun W => mod08 d ((m : Int) + 1) W (by omega) (by omega) hd.1 hd.2
      have hwm : IntKind.i64.wrap ((m : Int) + 1) = (m : Int) + 1 := IntWalk.i64_in _ (by omega)
      have hbo8 := hbo.out.kill hBe1.out.vol.sh.ok (d % ((m : Int) + 1))
      rw [hcn] at hbo8
      have hkl := fun W (hb2 : Below W1.heap.size W1 W) => lx_kill (hBe1.out.vol.below hb2).sh (d % ((m : Int) + 1))
      obtain ⟨q1, q2⟩ := killR_kept s (d % ((m : Int) + 1))
      have hLl2 : Hid (∀ b, b < k → (L b).length ≤ i + 1 + 1) := Lib.hid fun b hb => by have := hLl.out b hb; omega
      have hfin : ∀ w2, ShX (fun b => RX w.heap.size rb wb G k b ∨ b ∈ F.own) F.g w2 (s.killR (d % ((m : Int) + 1))).2 → Kept (fun b => RX w.heap.size rb wb G k b ∨ b ∈ F.own) W1.drew w2 → BeyAt w2 w.heap.size rb mb cap wb G F tv m st lg k k (s.killR (d % ((m : Int) + 1))).2 V L ∧ Below w.heap.size w w2 := fun w2 hS hK2 =>
       ⟨(hBe1.out.below (Below.refl _ _).drew).keep ((hBe1.out.below (Below.refl _ _).drew).vol.shelved hS hK2 q1 q2) (hK2.mono fun b hb => .inl hb), hBl1.out.drew.trans (hK2.below fun b hb => .inl (.inl hb))⟩
      replace hfin := Lib.hid hfin
      generalize d % ((m : Int) + 1) = dk at *
      generalize s.killR dk = kr at *
      obtain ⟨ke, s8⟩ := kr
      dsimp only at hfin hbo8 hkl
      obtain ⟨V8, hV8⟩ : ∃ V8, V8 = V := ⟨_, rfl⟩
      rw [← hV8] at hbo8 hfin
      replace hbo8 := Lib.hid hbo8
      replace hkl := Lib.hid hkl
      replace hmd := Lib.hid hmd
      clear hBe1 hBl1 hbo hLl hbx hvd q1 q2 r1 d1 d3 hV8
      go_wp2_with fail
      refine wp_region_held_tail (S := (fun W => W.cell? ⟨xo, 2, none⟩ = some (.int .i64 d) ∧ W.cell? ⟨rb, 0, none⟩ = some (.pointer (some ⟨F.g, 0, none⟩)) ∧ W.cell? ⟨rb, 2, none⟩ = some (.int .i64 (m : Int)))) 12 (by kernel_rfl) (by decide) ?_ (fun hHeld => ?_)
      ·(try dsimp only)
       exact ⟨d2, r0, r2⟩
      refine tkT 0 ?_
      refine tkT 1 ?_
      refine tkT 2 ?_
      refine tkT 3 ?_
      refine tkT 4 ?_
      refine tkT 5 ?_
      refine tkT 6 ?_
      refine tkT 7 ?_
      refine tkT 8 ?_
      refine tkT 9 ?_
      refine tkT 10 ?_
      refine rkT 11 (fun K hK => ?_)
      go_simp
      with_reducible refine (hmd.out _).mono ?_
      rintro e wx ⟨rfl, rfl⟩
      (try go_wp2_with fail)
      refine hK.out _ _ ?_ (fun hHeld2 => ?_)
      ·(try dsimp only)
       exact hHeld
      clear hK K
      replace hHeld := hHeld2
      clear hHeld2
      (try simp only [pA, pN, pB, pC, pD])
      refine wt_tail (by kernel_rfl) ?_
      simp only [List.drop_succ_cons, List.drop_zero]
      go_wp2_with fail
      with_reducible refine (hkl.out _ (Below.refl _ _).drew).mono ?_
      rintro e w2 ⟨rfl, hS2, hK2⟩
      obtain ⟨f1, f2⟩ := hfin.out w2 hS2 hK2
      have hBe9 := Lib.hid f1
      have hBl9 := Lib.hid f2
      clear hkl hmd hS2 hK2 hfin f1 f2
      go_wp2_with fail
      go_roundw
      case rel =>
       first
       | exact ⟨i + 1, G, s8, V8, L, by go_num, by omega, by omega, hBe9, hbo8, hLl2, hBl9⟩
       | ((repeat apply Exists.intro); exact ⟨⟨i + 1, G, s8, V8, L, by go_num, by omega, by omega, hBe9, hbo8, hLl2, hBl9⟩, rfl⟩)
      case measure => simp [intOf]; omega
     ·as_aux_lemma =>
      have hbo8 := hbo.out.later
      rw [hcn] at hbo8
      have hLl2 : Hid (∀ b, b < k → (L b).length ≤ i + 1 + 1) := Lib.hid fun b hb => by have := hLl.out b hb; omega
      obtain ⟨s8, hs8⟩ : ∃ s8, s8 = s := ⟨_, rfl⟩
      obtain ⟨V8, hV8⟩ : ∃ V8, V8 = V := ⟨_, rfl⟩
      rw [← hs8, ← hV8] at hbo8 hBe1
      have hBe9 := hBe1
      have hBl9 := hBl1
      replace hbo8 := Lib.hid hbo8
      clear hBe1 hBl1 hbo hLl hbx hvd hs8 hV8 r0 r1 r2 d1 d2 d3
      go_wp2_with fail
      go_roundw
      case rel =>
       first
       | exact ⟨i + 1, G, s8, V8, L, by go_num, by omega, by omega, hBe9, hbo8, hLl2, hBl9⟩
       | ((repeat apply Exists.intro); exact ⟨⟨i + 1, G, s8, V8, L, by go_num, by omega, by omega, hBe9, hbo8, hLl2, hBl9⟩, rfl⟩)
      case measure => simp [intOf]; omega
    ·have hcase : i = l ∨ (i < l ∧ 150 ≤ i) := by omega
     clear hBe hbo hLl hops hbd
     rcases hcase with hx | ⟨hx, hx2⟩
     ·subst hx
      go_wp2_with fail
      go_ret
      exact ⟨rfl, hBl.out⟩
     ·have hi1 : (i : Int) < (l : Int) := by omega
      have hi2 : ¬ (i : Int) < 150 := by omega
      go_wp2_with fail
      go_ret
      exact ⟨rfl, hBl.out⟩
end Go.Proofs.Ytajnlhalanhicaa

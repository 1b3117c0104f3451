/-
 Several texts of this work in one (merge.py): RaV, RaY.
-/
import Derived.Test.YtajnlhalanhicaaHeldTail
import Derived.Test.YtajnlhalanhicaaRgD
namespace Go.Proofs.Ytajnlhalanhicaa
set_option linter.all false
set_option maxRecDepth 20000
section
open Go.RowKit
section
variable {X : Nat → Prop} {F : VolF} {w w' : World} {s : ShM} {V : VolM}
def WholePost (X : Nat → Prop) (F : VolF) (w : World) (V : VolM) (r : Bool × Int × ShM) (e : Ending) (w' : World) : Prop :=
 e = .returned (.tuple #[.bool r.1, .int .i64 r.2.1]) ∧ VolX X F w' r.2.2 V ∧ Kept X w w'
set_option maxHeartbeats 8000000 in
theorem ra_whole (h : VolX X F w s V) (hroom : Room 1000000000000 s) (n : Nat) (hn : n < V.stripes) : Calls Try.prog 28 #[.pointer (some ⟨F.v, 0, none⟩), .int .i64 (n : Int)] w (WholePost X F w V (volWhole s V (n : Int))) := by
 have c1 := h.cM
 have c3 := h.cS
 have hvlt := h.vlt
 have hm3 := h.ok.m3N
 have hm16 := h.ok.m16N
 have hs2 := h.ok.st1024
 rw [← h.ok.sN] at hs2
 have hmem := lay_members V.m n hm3 hm16 (by omega) w
 obtain ⟨T, hT⟩ : ∃ T, T = volWhole s V (n : Int) := ⟨_, rfl⟩
 rw [← hT]
 have hT1 : T = if (volTog s V n (memL V.m n)).2.1 = 3 then (false, 3, (volTog s V n (memL V.m n)).2.2) else ((volTog s V n (memL V.m n)).2.1 == 0 && (volTog s V n (memL V.m n)).1 == zeroSec, 0, (volTog s V n (memL V.m n)).2.2) := by
  rw [hT]
  unfold volWhole
  rw [if_pos ⟨by omega, by rw [← h.ok.sN]; omega⟩, Int.toNat_natCast]
 have hlen := Lib.hid fun h0 => volTog_len (V := V) h.sh.ok n (memL V.m n) h0
 have hll := memL_len V.m n
 have hlow : ∀ k ∈ memL V.m n, k < V.m := fun k hk => memL_lt hk
 obtain ⟨ms, hms⟩ : ∃ ms, ms = memL V.m n := ⟨_, rfl⟩
 rw [← hms] at hmem hT1 hlen hll hlow
 replace hT1 := Lib.hid hT1
 replace hlow := Lib.hid hlow
 replace hll := Lib.hid hll
 generalize hmV : V.m = m at *
 replace hmV := Lib.hid hmV
 generalize V.stripes = st at *
 replace h := Lib.hid h
 clear hms hT
 go_enter Try.func28, Try.ntmps28
 go_wp2_with fail
 with_reducible refine hmem.mono ?_
 rintro e w1 ⟨A, c, rfl, hO, hb1⟩
 have hwi : ∀ ad, A = some ad → w.heap.size ≤ ad.block ∧ ad.block < w1.heap.size := by
  intro ad e
  obtain ⟨A', c', hv, _, h2⟩ := hO.form
  injection hv with e1
  subst e1
  obtain ⟨x, rfl, h4, h5⟩ := h2 ad e
  exact ⟨h4, h5⟩
 have hV1 := h.out.join hb1 hwi
 have hK1 := Lib.hid (Kept.of_below hb1 h.out.lt)
 have htg := ra_together hV1 hroom n (by omega) ms (fun k hk => by rw [hmV.out]; exact hlow.out k hk) A m c hO.rd hll.out (by omega) (fun ad e => .inr ⟨ad, e, rfl⟩)
 generalize volTog s V n ms = r at *
 obtain ⟨rb, er, s2⟩ := r
 dsimp only at htg hT1 hlen
 clear hmem hO hb1 hwi hV1 c1 c3 hvlt
 go_wp2_with fail
 with_reducible refine htg.mono ?_
 rintro e w2 ⟨A2, c2, rfl, hR2, hc2, hA2, hV2, hK2⟩
 dsimp only at hR2 hc2 hV2
 have hK02 : Kept X w w2 := hK1.out.trans (hK2.mono fun b hb => .inl hb)
 have hV2' : VolX X F w2 s2 V := hV2.mono fun b hb => .inl (.inl hb)
 clear htg hA2 hV2 hK2 hK1
 by_cases h3 : er = 3
 ·subst h3
  have hfin : WholePost X F w V T (.returned (.tuple #[.bool false, .int .i64 3])) w2 := by
   rw [hT1.out, if_pos rfl]
   exact ⟨rfl, hV2', hK02⟩
  replace hfin := Lib.hid hfin
  clear hT1 hR2 hc2 hV2' hK02
  go_wp2_with fail
  go_ret2
  exact hfin.out
 ·have h3' : (er == 3) = false := by rw [beq_eq_false_iff_ne]; exact h3
  replace hT1 := Lib.hid (hT1.out.trans (if_neg h3))
  by_cases h0 : er = 0
  ·subst h0
   have hl2 := hlen.out rfl
   rw [hl2]
   have hms : (convert 32 9 (.slice (some ⟨w2.heap.size, 0, none⟩) 128 128)).run Try.prog (w2.alloc (.cells (bVs zeroSec).toArray 5)).drew = .ok (.string ⟨zeroSec.toArray⟩) (w2.alloc (.cells (bVs zeroSec).toArray 5)).drew :=
    run_string_rd (P := Try.prog) _ 32 9 5 Try.underlying32 Try.underlying5 Try.underlying9 _ 128 128 zeroSec (Rd.lit w2 5 zeroSec (by rw [zeroSec_len]; omega)) zeroSec_len
   have hmk := made_zero
   have hcs : Hid (∀ W, Below w2.heap.size w2 W → (convert 32 9 (.slice A2 128 c2)).run Try.prog W = .ok (.string ⟨rb.toArray⟩) W ∧ Below w2.heap.size w2 W) := Lib.hid fun W hW =>
    ⟨run_string_rd (P := Try.prog) W 32 9 5 Try.underlying32 Try.underlying5 Try.underlying9 A2 128 c2 rb (hR2.below hW) hl2, hW⟩
   have hfin : ∀ W, Below w2.heap.size w2 W → WholePost X F w V T (.returned (.tuple #[.bool (rb == zeroSec), .int .i64 0])) W := fun W hW => by
    rw [hT1.out]
    exact ⟨rfl, hV2'.below hW, hK02.trans (Kept.of_below hW hV2'.lt)⟩
   obtain ⟨zs, hzs⟩ : ∃ zs : List UInt8, zs = zeroSec := ⟨_, rfl⟩
   rw [← hzs] at hms hmk hfin
   have hb1d : Below w2.heap.size w2 (w2.alloc (.cells (bVs zs).toArray 5)).drew := (below_made' _ _).drew
   replace hfin := Lib.hid (hfin _ hb1d)
   clear hT1 hR2 hc2 hV2' hK02 hl2 hlen hzs h3
   generalize hbz : (rb == zs) = bz at *
   go_wp2_with fail
   refine wp_region_held_drew (S := (fun W => (convert 32 9 (.slice A2 128 c2)).run Try.prog W = .ok (.string ⟨rb.toArray⟩) W ∧ Below w2.heap.size w2 W)) (by kernel_rfl) ?_ (fun hHeld => ?_)
   ·(try dsimp only)
    exact hcs.out _ (Below.refl _ _).drew
   refine tkA 0 ?_
   refine tkA 1 ?_
   refine tkA 2 ?_
   refine tkA 3 ?_
   refine tkA 4 ?_
   refine rkA 5 (fun K hK => ?_)
   go_simp
   refine hK.out _ _ ?_ (fun hHeld2 => ?_)
   ·(try dsimp only)
    first | exact hHeld | exact hcs.out _ hb1d
   clear hK K
   replace hHeld := hHeld2
   clear hHeld2
   (try simp only [pA, pN, pB, pC, pD])
   refine rkA 6 (fun K hK => ?_)
   go_simp
   refine hK.out _ _ ?_ (fun hHeld2 => ?_)
   ·(try dsimp only)
    first | exact hHeld | exact hcs.out _ hb1d
   clear hK K
   replace hHeld := hHeld2
   clear hHeld2
   (try simp only [pA, pN, pB, pC, pD])
   refine tkA 7 ?_
   refine tkA 8 ?_
   refine tkA 9 ?_
   refine tkA 10 ?_
   refine wpAnyH_done (by kernel_rfl) ?_ _
   go_wp2_with fail
   go_ret2
   exact hfin.out
  ·have h0' : (er == 0) = false := by rw [beq_eq_false_iff_ne]; exact h0
   have hfin : WholePost X F w V T (.returned (.tuple #[.bool false, .int .i64 0])) w2.drew := by
    rw [hT1.out, h0']
    exact ⟨rfl, hV2'.drew, hK02.trans (Kept.drew _ _)⟩
   replace hfin := Lib.hid hfin
   clear hT1 hR2 hc2 hV2' hK02 hlen h3 h0
   go_wp2_with fail
   refine wp_region_held_drew (S := (fun W => W.os = w2.os)) (by kernel_rfl) ?_ (fun hHeld => ?_)
   ·(try dsimp only)
    rfl
   refine tkA 0 ?_
   refine tkA 1 ?_
   refine tkA 2 ?_
   refine tuA 3 ?_
   refine tuA 4 ?_
   refine tuA 5 ?_
   refine tuA 6 ?_
   refine tuA 7 ?_
   refine tkA 8 ?_
   refine tkA 9 ?_
   refine tkA 10 ?_
   refine wpAnyH_done (by kernel_rfl) ?_ _
   go_wp2_with fail
   go_ret2
   exact hfin.out
set_option maxHeartbeats 8000000 in
theorem ra_lacks (h : VolX X F w s V) (member : Nat) (hm : member < V.m) : Calls Try.prog 68 #[.pointer (some ⟨F.v, 0, none⟩), .int .i64 (member : Int)] w fun e w' => e = .returned (.bool (volLacks s V member)) ∧ ∃ n, w' = w.drewN n := by
 have hl17 := h.ok.len17
 have hlen := h.ok.len
 have hi : member < V.devs.length := by omega
 have c1 := h.cM
 have c3 := h.c 3
 have c5 := h.c 5
 have c6 := h.c 6
 have c9 := h.c 9
 have cd := h.cDev hi
 have hvlt := h.vlt
 have hm16 := h.ok.m16N
 have hspl := h.ok.sp
 have hdm := fun n => ra_ddead (h.below (below_drewN (Below.refl _ w) n)) hi
 simp only [volR] at c3 c5 c6 c9
 unfold ptrV at cd
 unfold volLacks
 by_cases hs : (member : Int) = V.sup.spare
 ·have hM : V.m < V.devs.length := by have := hspl (by omega); omega
  have hdM := fun n => ra_ddead (h.below (below_drewN (Below.refl _ w) n)) hM
  have cD := h.cDev hM
  unfold ptrV at cD
  rw [if_pos hs]
  have hb : ((member : Int) != V.sup.spare) = false := by rw [bne_eq_false_iff_eq]; exact hs
  generalize V.sup.spare = sp at *
  generalize V.sup.mark = mk at *
  generalize V.sup.stripes = st at *
  generalize V.m = m at *
  generalize V.devs.length = dl at *
  generalize F.a member = am at *
  generalize F.a m = aM at *
  generalize (s.disk member).dead = dm at *
  generalize (s.disk m).dead = dM at *
  clear h hs hspl hlen
  by_cases h1 : 0 < mk
  ·cases dM with
   | true =>
    rw [show (decide (0 < mk) && true || (decide (mk < st) && dm)) = true by simp [h1]]
    go_enter Try.func68, Try.ntmps68
    go_wp2_with fail
    go_quiet (first | with_reducible exact Calls.quiet_of (hdM _) | with_reducible exact Calls.quiet_of (hdm _))
    go_wp2_with fail
    go_ret
    exact ⟨rfl, _, rfl⟩
   | false =>
    by_cases h2 : mk < st
    ·rw [show (decide (0 < mk) && false || (decide (mk < st) && dm)) = dm by simp [h2]]
     go_enter Try.func68, Try.ntmps68
     go_wp2_with fail
     go_quiet (first | with_reducible exact Calls.quiet_of (hdM _) | with_reducible exact Calls.quiet_of (hdm _))
     go_wp2_with fail
     go_ret
     exact ⟨rfl, _, rfl⟩
    ·rw [show (decide (0 < mk) && false || (decide (mk < st) && dm)) = false by simp [h2]]
     have h2b : decide (mk < st) = false := decide_eq_false h2
     go_enter Try.func68, Try.ntmps68
     go_wp2_with fail
     go_quiet (first | with_reducible exact Calls.quiet_of (hdM _) | with_reducible exact Calls.quiet_of (hdm _))
     go_wp2_with fail
     go_ret
     exact ⟨rfl, _, rfl⟩
  ·have h1b : decide (0 < mk) = false := decide_eq_false h1
   by_cases h2 : mk < st
   ·rw [show (decide (0 < mk) && dM || (decide (mk < st) && dm)) = dm by simp [h1, h2]]
    go_enter Try.func68, Try.ntmps68
    go_wp2_with fail
    go_quiet (first | with_reducible exact Calls.quiet_of (hdM _) | with_reducible exact Calls.quiet_of (hdm _))
    go_wp2_with fail
    go_ret
    exact ⟨rfl, _, rfl⟩
   ·rw [show (decide (0 < mk) && dM || (decide (mk < st) && dm)) = false by simp [h1, h2]]
    have h2b : decide (mk < st) = false := decide_eq_false h2
    go_enter Try.func68, Try.ntmps68
    go_wp2_with fail
    go_quiet (first | with_reducible exact Calls.quiet_of (hdM _) | with_reducible exact Calls.quiet_of (hdm _))
    go_wp2_with fail
    go_ret
    exact ⟨rfl, _, rfl⟩
 ·rw [if_neg hs]
  have hb : ((member : Int) != V.sup.spare) = true := by rw [bne_iff_ne]; exact hs
  have hd0 := ra_ddead h hi
  generalize V.sup.spare = sp at *
  generalize V.devs.length = dl at *
  generalize F.a member = am at *
  clear h hs hspl hlen hdm c1 c3 c6
  go_enter Try.func68, Try.ntmps68
  go_wp2_with fail
  with_reducible refine hd0.mono ?_
  rintro e wx ⟨rfl, n, rfl⟩
  clear hd0
  go_wp2_with fail
  go_ret
  exact ⟨rfl, _, rfl⟩
end
end
section
open Go.RowKit
def statR (m st : Nat) (v : Value) (sp mk cu : Int) : Array Value := #[.int .i64 (m : Int), .int .i64 (st : Int), v, .int .i64 sp, .int .i64 mk, .int .i64 cu]
def set6 (w : World) (g : Nat) (v0 v1 v2 v3 v4 v5 : Value) : World :=
 (((((w.setCell ⟨g, 0, none⟩ v0).setCell ⟨g, 1, none⟩ v1).setCell ⟨g, 2, none⟩ v2).setCell ⟨g, 3, none⟩ v3).setCell ⟨g, 4, none⟩ v4).setCell ⟨g, 5, none⟩ v5
theorem set6_row (w : World) (g t : Nat) (u0 u1 u2 u3 u4 u5 v0 v1 v2 v3 v4 v5 : Value) (h : w.heap[g]? = some (.cells #[u0, u1, u2, u3, u4, u5] t)) : (set6 w g v0 v1 v2 v3 v4 v5).heap[g]? = some (.cells #[v0, v1, v2, v3, v4, v5] t) := by
 unfold set6
 have h0 := (heap_setCell_same w g 0 _ t v0 h).trans (by rfl : _ = some (.cells #[v0, u1, u2, u3, u4, u5] t))
 have h1 := (heap_setCell_same _ g 1 _ t v1 h0).trans (by rfl : _ = some (.cells #[v0, v1, u2, u3, u4, u5] t))
 have h2 := (heap_setCell_same _ g 2 _ t v2 h1).trans (by rfl : _ = some (.cells #[v0, v1, v2, u3, u4, u5] t))
 have h3 := (heap_setCell_same _ g 3 _ t v3 h2).trans (by rfl : _ = some (.cells #[v0, v1, v2, v3, u4, u5] t))
 have h4 := (heap_setCell_same _ g 4 _ t v4 h3).trans (by rfl : _ = some (.cells #[v0, v1, v2, v3, v4, u5] t))
 exact (heap_setCell_same _ g 5 _ t v5 h4).trans (by rfl)
theorem set6_below {B g : Nat} {w0 w : World} (h : Below B w0 w) (hg : B ≤ g) (v0 v1 v2 v3 v4 v5 : Value) : Below B w0 (set6 w g v0 v1 v2 v3 v4 v5) := by
 unfold set6
 exact (((((h.setCell (p := ⟨g, 0, none⟩) hg v0).setCell (p := ⟨g, 1, none⟩) hg v1).setCell (p := ⟨g, 2, none⟩) hg v2).setCell (p := ⟨g, 3, none⟩) hg v3).setCell (p := ⟨g, 4, none⟩) hg v4).setCell (p := ⟨g, 5, none⟩) hg v5
theorem row6_cells (w : World) (g t : Nat) (u0 u1 u2 u3 u4 u5 : Value) (h : w.heap[g]? = some (.cells #[u0, u1, u2, u3, u4, u5] t)) :
  w.cell? ⟨g, 0, none⟩ = some u0 ∧ w.cell? ⟨g, 1, none⟩ = some u1 ∧ w.cell? ⟨g, 2, none⟩ = some u2 ∧ w.cell? ⟨g, 3, none⟩ = some u3 ∧ w.cell? ⟨g, 4, none⟩ = some u4 ∧ w.cell? ⟨g, 5, none⟩ = some u5 ∧ ∀ j, w.frozen? ⟨g, j, none⟩ = false :=
 ⟨cell_of_row w g 0 _ _ _ h, cell_of_row w g 1 _ _ _ h, cell_of_row w g 2 _ _ _ h, cell_of_row w g 3 _ _ _ h, cell_of_row w g 4 _ _ _ h, cell_of_row w g 5 _ _ _ h, fun j => frozen_of_row w g j _ _ h⟩
theorem results_row1 {P : Program} {fn : Func} {p : Tmp} {ty : TypeId} (h : fn.results = #[.cell p ty]) (tmps : Array Value) (w : World) (g : Nat) (t : TypeId) (cs : Array Value) (fr : Nat × Nat) (d : TypeDesc)
  (hp : tmps.getD p undef = .pointer (some ⟨g, 0, none⟩)) (hg : w.heap[g]? = some (.cells cs t fr))
  (hu : P.underlying ty = some d) (hd : (match d with | .struct _ | .array _ _ => true | _ => false) = true) (hi : (P.info? ty).map (·.size) = some cs.size) :
  (results fn tmps).run P w = .ok (.agg cs) w := by
 have e : (results fn tmps).run P w = ((asAddr (tmps.getD p undef)).run P w).andThen fun a w₁ => (loadVar ty a).run P w₁ := by
  simp only [results, h]
  simp [Sem.run_bind, Result.andThen]
 rw [e, hp]
 simp [asAddr, Result.andThen, run_loadVar_row w g t ty cs fr d hg hu hd hi]
section
variable {X : Nat → Prop} {F : VolF} {w w' : World} {s : ShM} {V : VolM}
def StatPost (w : World) (s : ShM) (V : VolM) (e : Ending) (w' : World) : Prop :=
 ∃ A c, e = .returned (.agg (statR V.m V.stripes (.slice A (volDeads s V).length c) V.sup.spare V.sup.mark V.sup.cursor)) ∧ RdV w' A ((volDeads s V).map natK) ∧ (∀ ad, A = some ad → w.heap.size ≤ ad.block) ∧ Below w.heap.size w w'
set_option maxHeartbeats 8000000 in
theorem ra_status (h : VolX X F w s V) : Calls Try.prog 25 #[.pointer (some ⟨F.v, 0, none⟩)] w (StatPost w s V) := by
 have hb0 := below_made' w (.cells #[.int .i64 0, .int .i64 0, .slice none 0 0, .int .i64 0, .int .i64 0, .int .i64 0] 63)
 obtain ⟨W, hW⟩ : ∃ W, W = w.alloc (.cells #[.int .i64 0, .int .i64 0, .slice none 0 0, .int .i64 0, .int .i64 0, .int .i64 0] 63) := ⟨_, rfl⟩
 rw [← hW] at hb0
 have hbox : W.heap[w.heap.size]? = some (.cells #[.int .i64 0, .int .i64 0, .slice none 0 0, .int .i64 0, .int .i64 0, .int .i64 0] 63) := by rw [hW]; exact heap_alloc_new _ _
 have hsz : W.heap.size = w.heap.size + 1 := by rw [hW]; simp
 have hVW := h.below hb0
 have c1 := hVW.cM
 have c3 := hVW.cS
 have c5 := hVW.c 5
 have c6 := hVW.c 6
 have c7 := hVW.c 7
 simp only [volR] at c5 c6 c7
 have hvlt := hVW.vlt
 have hm16 := h.ok.m16N
 have hS : ∀ W', Below W.heap.size W W' → W'.cell? ⟨F.v, 1, none⟩ = some (.int .i64 (V.m : Int)) ∧ W'.cell? ⟨F.v, 3, none⟩ = some (.int .i64 (V.stripes : Int)) ∧ W'.cell? ⟨F.v, 5, none⟩ = some (.int .i64 V.sup.spare) ∧ W'.cell? ⟨F.v, 6, none⟩ = some (.int .i64 V.sup.mark) ∧ W'.cell? ⟨F.v, 7, none⟩ = some (.int .i64 V.sup.cursor) := fun W' hb =>
  ⟨(hb.cell hvlt).trans c1, (hb.cell hvlt).trans c3, (hb.cell hvlt).trans c5, (hb.cell hvlt).trans c6, (hb.cell hvlt).trans c7⟩
 unfold StatPost volDeads
 generalize V.stripes = st at *
 generalize V.sup.spare = sp at *
 generalize V.sup.mark = mk at *
 generalize V.sup.cursor = cu at *
 have hmV : Hid (V.m = V.m) := Lib.hid rfl
 replace h := Lib.hid h
 replace hbox := Lib.hid hbox
 replace hb0 := Lib.hid hb0
 replace hS := Lib.hid hS
 obtain ⟨W2, hW2⟩ : ∃ W2, W2 = (W.alloc (.cells (statR V.m st (.slice none 0 0) sp mk cu) 63)).drew := ⟨_, rfl⟩
 have hbW2 : Below W.heap.size W (W.alloc (.cells (statR V.m st (.slice none 0 0) sp mk cu) 63)).drew := (below_made' _ _).drew
 go_enter Try.func25, Try.ntmps25
 go_wp2_with fail
 (try rw [← hW])
 replace hW := Lib.hid hW
 replace hsz := Lib.hid hsz
 have hbZ : Below W.heap.size W (W.alloc (.cells #[.int .i64 0, .int .i64 0, .slice none 0 0, .int .i64 0, .int .i64 0, .int .i64 0] 63)).drew := (below_made' _ _).drew
 have hSZ := hS.out _ hbZ
 have hS0 := hS.out W.drew (Below.refl _ _).drew
 replace hbZ := Lib.hid hbZ
 go_wp2_with fail
 refine wp_region_held_tail (S := (fun W' => W'.cell? ⟨F.v, 1, none⟩ = some (.int .i64 (V.m : Int)) ∧ W'.cell? ⟨F.v, 3, none⟩ = some (.int .i64 (st : Int)) ∧ W'.cell? ⟨F.v, 5, none⟩ = some (.int .i64 sp) ∧ W'.cell? ⟨F.v, 6, none⟩ = some (.int .i64 mk) ∧ W'.cell? ⟨F.v, 7, none⟩ = some (.int .i64 cu))) 27 (by kernel_rfl) (by decide) ?_ (fun hHeld => ?_)
 ·(try dsimp only)
  exact hS0
 refine tkT 0 ?_
 refine tkT 1 ?_
 refine tkT 2 ?_
 refine tkT 3 ?_
 refine tkT 4 ?_
 refine tkT 5 ?_
 refine tkT 6 ?_
 refine tkT 7 ?_
 refine tkT 8 ?_
 refine tkT 9 ?_
 refine tkT 10 ?_
 refine tkT 11 ?_
 refine tkT 12 ?_
 refine tkT 13 ?_
 refine tkT 14 ?_
 refine tkT 15 ?_
 refine tkT 16 ?_
 refine tkT 17 ?_
 refine tkT 18 ?_
 refine tkT 19 ?_
 refine tkT 20 ?_
 refine tkT 21 ?_
 refine tkT 22 ?_
 refine tkT 23 ?_
 refine tkT 24 ?_
 refine tkT 25 ?_
 refine rkT 26 (fun K hK => ?_)
 go_simp
 refine hK.out _ _ ?_ (fun hHeld2 => ?_)
 ·(try dsimp only)
  exact hSZ
 clear hK K
 replace hHeld := hHeld2
 clear hHeld2
 (try simp only [pA, pN, pB, pC, pD])
 refine wt_tail (by kernel_rfl) ?_
 simp only [List.drop_succ_cons, List.drop_zero]
 clear hHeld hSZ hS0
 go_wp2_with fail
 obtain ⟨dl, hdl⟩ : ∃ dl : Nat → List Nat, dl = fun k => (List.range k).filter fun j => volLacks s V j := ⟨_, rfl⟩
 have hdl0 : dl 0 = [] := by rw [hdl]; rfl
 have hdls : Hid (∀ k, dl (k + 1) = if volLacks s V k then dl k ++ [k] else dl k) := Lib.hid fun k => by
  rw [hdl]
  dsimp only
  rw [List.range_succ, List.filter_append]
  cases hk : volLacks s V k with
  | true => simp [hk]
  | false => simp [hk]
 have hdll : Hid (∀ k, (dl k).length ≤ k) := Lib.hid fun k => by
  rw [hdl]
  have := List.length_filter_le (fun j => volLacks s V j) (List.range k)
  simpa using this
 have hrow0 := heap_alloc_new W (.cells #[.int .i64 (V.m : Int), .int .i64 (st : Int), .slice none 0 0, .int .i64 sp, .int .i64 mk, .int .i64 cu] 63)
 have hB0 : Below W.heap.size W (W.alloc (.cells #[.int .i64 (V.m : Int), .int .i64 (st : Int), .slice none 0 0, .int .i64 sp, .int .i64 mk, .int .i64 cu] 63)).drew := (below_made' _ _).drew
 have hO0 : OwnV (W.alloc (.cells #[.int .i64 (V.m : Int), .int .i64 (st : Int), .slice none 0 0, .int .i64 sp, .int .i64 mk, .int .i64 cu] 63)).drew 3 (W.heap.size + 1) (.slice none 0 0) [] := World.ownsRow_nil _ _ _ _
 have hs0 : W.heap.size + 1 ≤ (W.alloc (.cells #[.int .i64 (V.m : Int), .int .i64 (st : Int), .slice none 0 0, .int .i64 sp, .int .i64 mk, .int .i64 cu] 63)).drew.heap.size := by show _ ≤ (W.alloc _).heap.size; simp
 replace hdl := Lib.hid hdl
 replace hVW := Lib.hid hVW
 clear c1 c3 c5 c6 c7 hvlt hW2 hbW2 hbZ hS
 go_loopw [39] (fun q wr => ∃ (k : Nat) (A : Option Addr) (c : Nat), q = .int .i64 k ∧ k ≤ V.m ∧ Hid (wr.heap[W.heap.size]? = some (.cells #[.int .i64 (V.m : Int), .int .i64 (st : Int), .slice A (dl k).length c, .int .i64 sp, .int .i64 mk, .int .i64 cu] 63)) ∧ Hid (OwnV wr 3 (W.heap.size + 1) (.slice A (dl k).length c) ((dl k).map natK)) ∧ Hid (Below W.heap.size W wr) ∧ Hid (W.heap.size + 1 ≤ wr.heap.size))
  (fun q _ => V.m - (intOf q).toNat)
 case atStart => exact ⟨0, none, 0, by go_num, by omega, Lib.hid (by rw [hdl0]; exact hrow0), Lib.hid (by rw [hdl0]; exact hO0), Lib.hid hB0, Lib.hid hs0⟩
 case round =>
  clear hrow0 hB0 hO0 hs0 hdl0
  obtain ⟨k, A, c, rfl, hk, hrow, hO, hB, hsz2⟩ := hrel
  obtain ⟨d0, d1, d2, d3, d4, d5, df⟩ := row6_cells wr _ _ _ _ _ _ _ _ hrow.out
  have hblt := lt_of_row hrow.out
  by_cases hlk : k < V.m
  ·have hct := ra_lacks (hVW.out.below hB.out) k hlk
   have hst := hdls.out k
   have hln := hdll.out k
   cases hl : volLacks s V k with
   | true =>
    rw [hl] at hct hst
    rw [if_pos rfl] at hst
    go_wp2_with fail
    with_reducible refine hct.mono ?_
    rintro e wx ⟨rfl, j, rfl⟩
    have hbj := below_drewN (Below.refl wr.heap.size wr) j
    have hrj : (wr.drewN j).heap[W.heap.size]? = _ := hrow.out
    have hOj : OwnV (wr.drewN j) 3 (W.heap.size + 1) (.slice A (dl k).length c) ((dl k).map natK) := hO.out
    have hBj : Below W.heap.size W (wr.drewN j) := below_drewN hB.out j
    have hsj : W.heap.size + 1 ≤ (wr.drewN j).heap.size := hsz2.out
    have d2j : (wr.drewN j).cell? ⟨W.heap.size, 2, none⟩ = _ := d2
    have hbltj : W.heap.size < (wr.drewN j).heap.size := hblt
    clear hct d0 d1 d2 d3 d4 d5 df hblt hrow hO hB hsz2 hbj hl
    generalize wr.drewN j = w3 at *
    have hus : RdV (w3.alloc (.cells #[.int .i64 (k : Int)] 3)) (some ⟨w3.heap.size, 0, none⟩) [natK k] := RdV.lit w3 3 [.int .i64 (k : Int)] (by simp)
    have hO4 := hOj.alloc (.cells #[.int .i64 (k : Int)] 3)
    have hr4 := hrow_keep hrj (below_made' w3 (.cells #[.int .i64 (k : Int)] 3))
    have hB4 : Below W.heap.size W (w3.alloc (.cells #[.int .i64 (k : Int)] 3)) := hBj.alloc (Nat.le_trans (Nat.le_succ _) hsj) _
    have hs4 : W.heap.size + 1 ≤ (w3.alloc (.cells #[.int .i64 (k : Int)] 3)).heap.size := by simp; omega
    have hone : ∀ u ∈ [natK k], u.oneCell' = true := by
     intro u hu
     simp only [List.mem_singleton] at hu
     subst hu
     rfl
    have hll : ((dl k).map natK).length = (dl k).length := List.length_map _
    replace hus := Lib.hid hus
    replace hO4 := Lib.hid hO4
    replace hr4 := Lib.hid hr4
    replace hB4 := Lib.hid hB4
    replace hone := Lib.hid hone
    replace hst := Lib.hid hst
    replace hs4 := Lib.hid hs4
    replace hll := Lib.hid hll
    clear hrj hOj hBj
    go_wp2_with (at_builtin; refine wpList_append_v rfl _ _ 61 rfl (W.heap.size + 1) 3 (.int .i64 0) 8 Try.underlying61 Try.infoInt rfl (.slice A (dl k).length c) ((dl k).map natK) [natK k] (some ⟨w3.heap.size, 0, none⟩) 1 1 rfl rfl hO4.out hus.out hone.out rfl (by rw [hll.out]; simp only [maxLen]; omega) (by rw [hll.out]; omega) hs4.out ?_; intro v5 w5 hO5 hg5 hb5; obtain ⟨A5, c5, rfl, _⟩ := hO5.form; have hl5 : ((dl k).map natK ++ [natK k]).length = (dl (k + 1)).length := (by rw [hst.out]; simp); have hm5 : (dl k).map natK ++ [natK k] = (dl (k + 1)).map natK := (by rw [hst.out]; simp); rw [hl5]; rw [hl5, hm5] at hO5; clear hl5 hm5; have hr5 := (hb5.block W.heap.size (by omega)).trans hr4.out; obtain ⟨e0, e1, e2, e3, e4, e5, ef⟩ := row6_cells w5 _ _ _ _ _ _ _ _ hr5; have hblt5 := lt_of_row hr5; replace hr5 := Lib.hid hr5; replace hO5 := Lib.hid hO5)
    replace hO5 := hO5.out
    replace hr5 := hr5.out
    have hB5 : Below W.heap.size W w5 := hB4.out.trans (hb5.mono (by omega))
    have hs5 : W.heap.size + 1 ≤ w5.heap.size := Nat.le_trans hs4.out hb5.size
    have hr6 : (w5.setCell ⟨W.heap.size, 2, none⟩ (.slice A5 (dl (k + 1)).length c5)).heap[W.heap.size]? = some (.cells #[.int .i64 (V.m : Int), .int .i64 (st : Int), .slice A5 (dl (k + 1)).length c5, .int .i64 sp, .int .i64 mk, .int .i64 cu] 63) := (heap_setCell_same w5 W.heap.size 2 _ _ _ hr5).trans (by rfl)
    have hO6 : OwnV (w5.setCell ⟨W.heap.size, 2, none⟩ (.slice A5 (dl (k + 1)).length c5)) 3 (W.heap.size + 1) (.slice A5 (dl (k + 1)).length c5) ((dl (k + 1)).map natK) := hO5.blk fun b e => heap_setCell_other w5 ⟨W.heap.size, 2, none⟩ b _ fun e2 => by
     have := (hO5.lt' b e).1
     simp only at e2
     omega
    have hB6 : Below W.heap.size W (w5.setCell ⟨W.heap.size, 2, none⟩ (.slice A5 (dl (k + 1)).length c5)) := hB5.setCell (p := ⟨W.heap.size, 2, none⟩) (Nat.le_refl _) _
    have hs6 : W.heap.size + 1 ≤ (w5.setCell ⟨W.heap.size, 2, none⟩ (.slice A5 (dl (k + 1)).length c5)).heap.size := by simpa [World.setCell] using hs5
    replace hr6 := Lib.hid hr6
    replace hO6 := Lib.hid hO6
    replace hB6 := Lib.hid hB6
    replace hs6 := Lib.hid hs6
    clear hr5 hB5 hs5 hus hO4 hr4 hB4 hone hst hs4 hll hO5 hg5 hb5 hln hsj d2j hbltj
    go_wp2_with fail
    go_roundw
    case rel => exact ⟨k + 1, A5, c5, by go_num, by omega, hr6, hO6, hB6, hs6⟩
    case measure => simp [intOf]; omega
   | false =>
    rw [hl] at hct hst
    rw [if_neg (by simp)] at hst
    go_wp2_with fail
    with_reducible refine hct.mono ?_
    rintro e wx ⟨rfl, j, rfl⟩
    have hrj : Hid ((wr.drewN j).heap[W.heap.size]? = some (.cells #[.int .i64 (V.m : Int), .int .i64 (st : Int), .slice A (dl (k + 1)).length c, .int .i64 sp, .int .i64 mk, .int .i64 cu] 63)) := Lib.hid (by rw [hst]; exact hrow.out)
    have hOj : Hid (OwnV (wr.drewN j) 3 (W.heap.size + 1) (.slice A (dl (k + 1)).length c) ((dl (k + 1)).map natK)) := Lib.hid (by rw [hst]; exact hO.out)
    have hBj : Hid (Below W.heap.size W (wr.drewN j)) := Lib.hid (below_drewN hB.out j)
    have hsj : Hid (W.heap.size + 1 ≤ (wr.drewN j).heap.size) := Lib.hid hsz2.out
    clear hct d0 d1 d2 d3 d4 d5 df hblt hrow hO hB hsz2 hl hst
    generalize wr.drewN j = w3 at *
    go_wp2_with fail
    go_roundw
    case rel => exact ⟨k + 1, A, c, by go_num, by omega, hrj, hOj, hBj, hsj⟩
    case measure => simp [intOf]; omega
  ·obtain rfl : k = V.m := by omega
   have hdlm : Hid (dl V.m = (List.range V.m).filter fun j => volLacks s V j) := Lib.hid (by rw [hdl.out])
   have hwl : w.heap.size < W.heap.size := by have := hsz.out; omega
   have hbr := (hB.out.block w.heap.size hwl).trans hbox.out
   obtain ⟨x0, x1, x2, x3, x4, x5, xf⟩ := row6_cells wr _ _ _ _ _ _ _ _ hbr
   have hbl2 := lt_of_row hbr
   have hbw : Below w.heap.size w wr := below_to hb0.out hB.out
   have hwi := hO.out.rd
   have hA : ∀ ad, A = some ad → w.heap.size ≤ ad.block ∧ ad.block ≠ w.heap.size := by
    intro ad e
    obtain ⟨A', c', hv, _, h2⟩ := hO.out.form
    injection hv with e1
    subst e1
    obtain ⟨y, rfl, h4, _⟩ := h2 ad e
    dsimp only
    omega
   have hr9 : RdV (set6 wr w.heap.size (.int .i64 (V.m : Int)) (.int .i64 (st : Int)) (.slice A (dl V.m).length c) (.int .i64 sp) (.int .i64 mk) (.int .i64 cu)) A ((dl V.m).map natK) := hwi.blkZ fun ad e => by
    have hne := (hA ad e).2
    unfold set6
    have o : ∀ (w' : World) (i : Nat) (v : Value), (w'.setCell ⟨w.heap.size, i, none⟩ v).heap[ad.block]? = w'.heap[ad.block]? := fun w' i v => heap_setCell_other w' ⟨w.heap.size, i, none⟩ ad.block v (fun e => hne e)
    rw [o, o, o, o, o, o]
   have hrow9 := set6_row wr w.heap.size _ _ _ _ _ _ _ (.int .i64 (V.m : Int)) (.int .i64 (st : Int)) (.slice A (dl V.m).length c) (.int .i64 sp) (.int .i64 mk) (.int .i64 cu) hbr
   have hb9 := set6_below hbw (Nat.le_refl _) (.int .i64 (V.m : Int)) (.int .i64 (st : Int)) (.slice A (dl V.m).length c) (.int .i64 sp) (.int .i64 mk) (.int .i64 cu)
   replace hr9 := Lib.hid hr9
   replace hrow9 := Lib.hid hrow9
   replace hb9 := Lib.hid hb9
   replace hA := Lib.hid hA
   clear hrow hO hB hsz2 hbr hbw hwi hdls hdll
   go_wp2_with fail
   refine bodyPost_ret (results_row1 rfl _ _ w.heap.size 63 _ _ _ rfl hrow9.out Try.underlying63 rfl (by kernel_rfl)) rfl ?_
   exact ⟨A, c, by rw [← hdlm.out]; rfl, by rw [← hdlm.out]; exact hr9.out, fun ad e => (hA.out ad e).1, hb9.out⟩
end
end
end Go.Proofs.Ytajnlhalanhicaa

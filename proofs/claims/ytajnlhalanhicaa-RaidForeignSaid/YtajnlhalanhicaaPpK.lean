/-
 Several texts of this work in one (merge.py): PpG, PpH.
-/
import Derived.Test.YtajnlhalanhicaaHeldTail
import Derived.Test.YtajnlhalanhicaaPpL
import Derived.Test.YtajnlhalanhicaaBase
namespace Go.Proofs.Ytajnlhalanhicaa
set_option linter.all false
set_option maxRecDepth 20000
section
open Go.RowKit
section
variable {X : Nat → Prop} {a g l slots : Nat} {w w1 w' : World} {s s' : ShM} {D : DevM}
theorem made_zero : ∀ W : World, (Instr.makeSlice 32 (.int .i64 128) (.int .i64 128)).run Try.prog W = .ok (.slice (some ⟨W.heap.size, 0, none⟩) 128 128) (W.alloc (.cells (bVs zeroSec).toArray 5)) := fun W => by
 have h := run_make_rd (P := Try.prog) 32 5 Try.underlying32 Try.infoU8 .i64 .i64 128 (by omega) W
 exact h
theorem zeroSec_len : zeroSec.length = 128 := by simp [zeroSec]
set_option maxRecDepth 100000 in
set_option maxHeartbeats 4000000 in
theorem lg_clear (h : DvX X a g w s D) (hl : LogRow w l a slots) (hX : X l) (hs8 : slots ≤ 8) (hroom : Room 999999999980 s) (slot : Int) :
  Calls Try.prog 44 #[.pointer (some ⟨l, 0, none⟩), .int .i64 slot] w (WrPost X a g w (logClear s D slots slot)) := by
 have hct := lg_at hl slot hs8
 unfold atN atE at hct
 cases hk : slotOk slots slot with
 | false =>
  rw [show logClear s D slots slot = (1, s, D) from by unfold logClear; rw [hk]; rfl]
  rw [hk] at hct
  simp only [Bool.false_eq_true, if_false] at hct
  replace h := Lib.hid h
  clear hl hk
  go_enter Try.func44, Try.ntmps44
  go_wp2_with fail
  refine hct.mono ?_
  rintro e wx ⟨rfl, rfl⟩
  go_wp2_with fail
  go_ret
  exact ⟨rfl, h.out, Kept.refl _ _⟩
 | true =>
  obtain ⟨n, rfl⟩ := Int.eq_ofNat_of_zero_le (of_decide_eq_true hk).1
  have hn8 : n < slots := by have := (of_decide_eq_true hk).2; omega
  rw [show logClear s D slots n = devWrite s D (2 + 2 * (n : Int)) zeroSec from by unfold logClear; rw [hk]; rfl]
  rw [hk] at hct
  simp only [if_true] at hct
  have hmk := made_zero
  have hzl := zeroSec_len
  have hlc := hl.c0
  have hllt := hl.lt
  have ho : Own (w.alloc (.cells (bVs zeroSec).toArray 5)).drew 5 w.heap.size (.slice (some ⟨w.heap.size, 0, none⟩) 128 128) zeroSec := Own.lit w 5 zeroSec 128 hzl (by omega)
  have hcw := su_write_new h (w1 := (w.alloc (.cells (bVs zeroSec).toArray 5)).drew) (below_made' _ _).drew (hroom.mono (by omega)) (2 + 2 * (n : Int)) (by omega) (by omega) _ 128 128 _ zeroSec ho hzl
  replace h := Lib.hid h
  generalize zeroSec = z0 at *
  clear hk hzl ho hroom hl
  have hS1 : (w.alloc (.cells (bVs z0).toArray 5)).drew.cell? ⟨l, 0, none⟩ = some (.pointer (some ⟨a, 0, none⟩)) := (World.cell?_alloc_lt _ _ _ hllt).trans hlc
  go_enter Try.func44, Try.ntmps44
  go_wp2_with fail
  refine hct.mono ?_
  rintro e wx ⟨rfl, rfl⟩
  clear hct
  go_wp2_with fail
  refine wp_region_held_drew (S := (fun W => W.cell? ⟨l, 0, none⟩ = some (.pointer (some ⟨a, 0, none⟩)))) (by kernel_rfl) ?_ (fun hHeld => ?_)
  ·(try dsimp only)
   exact hlc
  refine tkA 0 ?_
  refine tkA 1 ?_
  refine tkA 2 ?_
  refine tkA 3 ?_
  refine tkA 4 ?_
  refine rkA 5 (fun K hK => ?_)
  go_simp
  refine hK.out _ _ ?_ (fun hHeld2 => ?_)
  ·(try dsimp only)
   first | exact hHeld | exact hS1 | exact hS2
  clear hK K
  replace hHeld := hHeld2
  clear hHeld2
  (try simp only [pA, pN, pB, pC, pD])
  refine rkA 6 (fun K hK => ?_)
  go_simp
  with_reducible refine hcw.mono ?_
  rintro e w2 ⟨rfl, hD2, hK2⟩
  have hS2 : w2.cell? ⟨l, 0, none⟩ = some (.pointer (some ⟨a, 0, none⟩)) := (World.cell?_of_block (hK2.block l hX)).trans hlc
  (try go_wp2_with fail)
  refine hK.out _ _ ?_ (fun hHeld2 => ?_)
  ·(try dsimp only)
   first | exact hHeld | exact hS1 | exact hS2
  clear hK K
  replace hHeld := hHeld2
  clear hHeld2
  (try simp only [pA, pN, pB, pC, pD])
  refine tkA 7 ?_
  refine wpAnyH_done (by kernel_rfl) ?_ _
  go_wp2
  go_ret
  exact ⟨rfl, hD2, hK2⟩
end
end
section
open Go.RowKit
section
variable {X : Nat → Prop} {a g l slots : Nat} {w w1 w' : World} {s s' : ShM} {D : DevM}
def LgPost (X : Nat → Prop) (a g : Nat) (w : World) (D : DevM) (r : Rec × Int × ShM) (e : Ending) (w' : World) : Prop :=
 ∃ A c, e = .returned (.tuple #[.agg #[.int .i64 r.1.stripe, .int .i64 r.1.place, .slice A r.1.part.length c], .int .i64 r.2.1]) ∧
  Own w' 5 w.heap.size (.slice A r.1.part.length c) r.1.part ∧ DvX (fun b => X b ∨ ∃ ad, A = some ad ∧ ad.block = b) a g w' r.2.2 D ∧ Kept X w w'
theorem lgPost_none {er : Int} (hD : DvX X a g w' s' D) (hK : Kept X w w') : LgPost X a g w D (noRec, er, s') (.returned (.tuple #[.agg #[.int .i64 0, .int .i64 0, .slice none 0 0], .int .i64 er])) w' :=
 ⟨none, 0, rfl, own_nil _ _ _, hD.mono (fun b hb => hb.elim id (fun ⟨ad, e, _⟩ => (by cases e))), hK⟩
theorem But.set3 (w : World) (g : Nat) (v0 v1 v2 : Value) : But g w (set3 w g v0 v1 v2) := by
 refine ⟨rfl, rfl, rfl, ?_, fun k _ hk => set3_other w g k v0 v1 v2 hk⟩
 unfold Go.Proofs.Ytajnlhalanhicaa.set3
 simp [World.setCell]
theorem Kept.set3 {q : Nat} (hx : ¬ X q) (w : World) (v0 v1 v2 : Value) : Kept X w (set3 w q v0 v1 v2) := by
 refine ⟨rfl, rfl, rfl, ?_, fun k hk => set3_other w q k v0 v1 v2 (fun e => hx (e ▸ hk))⟩
 unfold Go.Proofs.Ytajnlhalanhicaa.set3
 simp [World.setCell]
theorem lgPost_none3 {Z : Nat → Prop} {er : Int} (hlt : ∀ b, X b → b < w.heap.size) (hD : DvX (fun b => (X b ∨ b = w.heap.size) ∨ Z b) a g w' s' D) (hK : Kept X w w') (v0 v1 v2 : Value) :
  LgPost X a g w D (noRec, er, s') (.returned (.tuple #[.agg #[.int .i64 0, .int .i64 0, .slice none 0 0], .int .i64 er])) (set3 w' w.heap.size v0 v1 v2) :=
 lgPost_none ((hD.but (.inl (.inr rfl)) (But.set3 _ _ _ _ _)).mono fun b hb => .inl (.inl hb)) (hK.trans (Kept.set3 (fun hx => Nat.lt_irrefl _ (hlt _ hx)) _ _ _ _))
set_option maxRecDepth 100000 in
set_option maxHeartbeats 4000000 in
theorem lg_get (h : DvX X a g w s D) (hl : LogRow w l a slots) (hX : X l) (hs8 : slots ≤ 8) (hroom : Room 999999999980 s) (slot : Int) :
  Calls Try.prog 93 #[.pointer (some ⟨l, 0, none⟩), .int .i64 slot] w (LgPost X a g w D (logGet s D slots slot)) := by
 obtain ⟨W0, hW0⟩ : ∃ W0, W0 = w.alloc (.cells #[.int .i64 0, .int .i64 0, .slice none 0 0] 150) := ⟨_, rfl⟩
 have hb0 : Below w.heap.size w W0 := by rw [hW0]; exact below_made' _ _
 have hbox0 : W0.heap[w.heap.size]? = some (.cells #[.int .i64 0, .int .i64 0, .slice none 0 0] 150) := by rw [hW0]; exact heap_alloc_new _ _
 have hct := lg_at (hl.below hb0) slot hs8
 unfold atN atE at hct
 cases hk : slotOk slots slot with
 | false =>
  rw [show logGet s D slots slot = (noRec, 1, s) from by unfold logGet; rw [hk]; rfl]
  rw [hk] at hct
  simp only [Bool.false_eq_true, if_false] at hct
  have hfin := lgPost_none (w := w) (er := 1) (h.below hb0) (Kept.of_below hb0 h.lt)
  replace hfin := Lib.hid hfin
  rw [hW0] at hct
  clear hl hk hb0 h
  go_enter Try.func93, Try.ntmps93
  go_wp2_with fail
  refine hct.mono ?_
  rintro e wx ⟨rfl, rfl⟩
  go_wp2_with fail
  rw [← hW0]
  refine bodyPost_ret (results_row_tmp rfl _ _ w.heap.size 150 _ _ _ rfl hbox0 Try.underlying150 rfl (by kernel_rfl)) rfl ?_
  exact hfin.out
 | true =>
  obtain ⟨n, rfl⟩ := Int.eq_ofNat_of_zero_le (of_decide_eq_true hk).1
  have hn8 : n < slots := by have := (of_decide_eq_true hk).2; omega
  have hget : Hid (logGet s D slots n = (if (devRead s D (2 + 2 * (n : Int))).2.1 = 0 then
    if (devRead s D (2 + 2 * (n : Int))).1 = zeroSec then (noRec, 7, (devRead s D (2 + 2 * (n : Int))).2.2)
    else if (devRead (devRead s D (2 + 2 * (n : Int))).2.2 D (2 + 2 * (n : Int) + 1)).2.1 = 0 then (decR (devRead s D (2 + 2 * (n : Int))).1 (devRead (devRead s D (2 + 2 * (n : Int))).2.2 D (2 + 2 * (n : Int) + 1)).1, decEP (devRead s D (2 + 2 * (n : Int))).1 (devRead (devRead s D (2 + 2 * (n : Int))).2.2 D (2 + 2 * (n : Int) + 1)).1, (devRead (devRead s D (2 + 2 * (n : Int))).2.2 D (2 + 2 * (n : Int) + 1)).2.2)
     else (noRec, (devRead (devRead s D (2 + 2 * (n : Int))).2.2 D (2 + 2 * (n : Int) + 1)).2.1, (devRead (devRead s D (2 + 2 * (n : Int))).2.2 D (2 + 2 * (n : Int) + 1)).2.2)
    else (noRec, (devRead s D (2 + 2 * (n : Int))).2.1, (devRead s D (2 + 2 * (n : Int))).2.2))) := Lib.hid (by unfold logGet; rw [hk]; rfl)
  rw [hk] at hct
  simp only [if_true] at hct
  have hD0 := h.more hb0 (Y := fun b => X b ∨ b = w.heap.size) fun b hx => by
   rcases hx with hx | rfl
   ·exact ⟨Nat.lt_of_lt_of_le (h.lt b hx) hb0.size, .inl hx⟩
   ·exact ⟨lt_of_row hbox0, .inr (Nat.le_refl _)⟩
  have hK0 : Kept X w W0 := Kept.of_below hb0 h.lt
  have hl0 := hl.below hb0
  have hrd := su_read hD0 (hroom.mono (by omega)) (2 + 2 * (n : Int)) (by omega) (by omega)
  have hlt := Lib.hid h.lt
  have hroom2 := room_dread hroom D (2 + 2 * (n : Int))
  have hlen1 := devRead_ok (s := s) (D := D) (n := 2 + 2 * (n : Int)) h.sh.ok
  have hwr : IntKind.i64.wrap (2 + 2 * (n : Int) + 1) = 2 + 2 * (n : Int) + 1 := IntWalk.i64_in _ (by omega)
  rw [hW0] at hct
  generalize hx1 : devRead s D (2 + 2 * (n : Int)) = x1 at *
  obtain ⟨b1, e1, s1⟩ := x1
  dsimp only at *
  clear hx1 h hk hl hroom hb0 hD0
  replace hget := Lib.hid hget.out
  replace hlen1 := Lib.hid hlen1
  go_enter Try.func93, Try.ntmps93
  go_wp2_with fail
  refine hct.mono ?_
  rintro e wx ⟨rfl, rfl⟩
  clear hct
  have hlc0 := hl0.c0
  have hllt0 := hl0.lt
  rw [hW0] at hlc0 hllt0
  go_wp2_with fail
  rw [← hW0]
  clear hlc0 hllt0
  with_reducible refine hrd.mono ?_
  rintro e w1 ⟨v1, rfl, hf1, hD1, hK1⟩
  have hbox1 := (hK1.block w.heap.size (.inr rfl)).trans hbox0
  have hl1 : LogRow w1 l a slots := (hK1.block l (.inl hX)).trans hl0
  have hK01 : Kept X w w1 := hK0.trans (hK1.mono fun b hb => .inl hb)
  have hsz01 := hK1.size
  clear hrd hW0 hbox0 hl0 hK0 hK1
  dsimp only at hf1 hD1 ⊢
  by_cases h1 : e1 = 0
  ·subst h1
   replace hget := Lib.hid (hget.out.trans (if_pos rfl))
   have hL1 : b1.length = 128 := hlen1.out rfl
   clear hlen1
   obtain ⟨A1, c1, rfl, hr1, hge1⟩ := hf1.form (by omega)
   rw [hL1] at hD1 ⊢
   have hms : (convert 32 9 (.slice (some ⟨w1.heap.size, 0, none⟩) 128 128)).run Try.prog (w1.alloc (.cells (bVs zeroSec).toArray 5)).drew = .ok (.string ⟨zeroSec.toArray⟩) (w1.alloc (.cells (bVs zeroSec).toArray 5)).drew :=
    run_string_rd (P := Try.prog) _ 32 9 5 Try.underlying32 Try.underlying5 Try.underlying9 _ 128 128 zeroSec (Rd.lit w1 5 zeroSec (by rw [zeroSec_len]; omega)) zeroSec_len
   have hmk := made_zero
   have hcs : Hid (∀ W, Below w1.heap.size w1 W → (convert 32 9 (.slice A1 128 c1)).run Try.prog W = .ok (.string ⟨b1.toArray⟩) W ∧ Below w1.heap.size w1 W) := Lib.hid fun W hW =>
    ⟨run_string_rd (P := Try.prog) W 32 9 5 Try.underlying32 Try.underlying5 Try.underlying9 A1 128 c1 b1 (hr1.below hW) hL1, hW⟩
   replace hL1 := Lib.hid hL1
   replace hr1 := Lib.hid hr1
   replace hge1 := Lib.hid hge1
   obtain ⟨zs, hzs⟩ : ∃ zs : List UInt8, zs = zeroSec := ⟨_, rfl⟩
   rw [← hzs] at hms hmk hget
   have hb1d : Below w1.heap.size w1 (w1.alloc (.cells (bVs zs).toArray 5)).drew := (below_made' _ _).drew
   clear hzs hf1
   go_wp2_with fail
   refine wp_region_held_drew (S := (fun W => (convert 32 9 (.slice A1 128 c1)).run Try.prog W = .ok (.string ⟨b1.toArray⟩) W ∧ Below w1.heap.size w1 W)) (by kernel_rfl) ?_ (fun hHeld => ?_)
   ·(try dsimp only)
    exact hcs.out _ (Below.refl _ _).drew
   refine tkA 0 ?_
   refine tkA 1 ?_
   refine rkA 2 (fun K hK => ?_)
   go_simp
   refine hK.out _ _ ?_ (fun hHeld2 => ?_)
   ·(try dsimp only)
    first | exact hHeld | exact hcs.out _ hb1d
   clear hK K
   replace hHeld := hHeld2
   clear hHeld2
   (try simp only [pA, pN, pB, pC, pD])
   refine rkA 3 (fun K hK => ?_)
   go_simp
   refine hK.out _ _ ?_ (fun hHeld2 => ?_)
   ·(try dsimp only)
    first | exact hHeld | exact hcs.out _ hb1d
   clear hK K
   replace hHeld := hHeld2
   clear hHeld2
   (try simp only [pA, pN, pB, pC, pD])
   refine tkA 4 ?_
   refine wpAnyH_done (by kernel_rfl) ?_ _
   have hbW : Below w1.heap.size w1 (w1.alloc (.cells (bVs zs).toArray 5)).drew := hb1d
   have hboxW := hrow_keep hbox1 hbW
   have hlW := hl1.below hbW
   have hDW := hD1.below hbW
   have hKW : Kept X w (w1.alloc (.cells (bVs zs).toArray 5)).drew := hK01.trans (Kept.of_below hbW fun b hb => hD1.lt b (.inl (.inl hb)))
   have hrW : Hid (Rd (w1.alloc (.cells (bVs zs).toArray 5)).drew A1 b1) := Lib.hid (hr1.out.below hbW)
   generalize (w1.alloc (.cells (bVs zs).toArray 5)).drew = W2 at *
   obtain ⟨c0, c1', c2, cf⟩ := row3_cells W2 _ _ _ _ _ hboxW
   have hblt := lt_of_row hboxW
   have hlcW := hlW.c0
   have hlltW := hlW.lt
   clear hcs hHeld hb1d hbW hms hmk hr1
   by_cases hz : b1 = zs
   ·have hzb : (b1 == zs) = true := by simp [hz]
    rw [hzb]
    have hfin := lgPost_none3 (er := 7) hlt.out hDW hKW (.int .i64 0) (.int .i64 0) (.slice none 0 0)
    rw [← hget.out.trans (if_pos hz)] at hfin
    replace hfin := Lib.hid hfin
    clear hz hDW hKW hD1 hK01 hl1 hget
    go_wp2
    refine bodyPost_ret (results_row_tmp rfl _ _ w.heap.size 150 _ _ _ rfl (set3_row W2 _ _ _ _ _ (.int .i64 0) (.int .i64 0) (.slice none 0 0) hboxW) Try.underlying150 rfl (by kernel_rfl)) rfl ?_
    exact hfin.out
   ·have hzb : (b1 == zs) = false := by simp [hz]
    rw [hzb]
    replace hget := Lib.hid (hget.out.trans (if_neg hz))
    have hrd := su_read hDW (hroom2.mono (by omega)) (2 + 2 * (n : Int) + 1) (by omega) (by omega)
    have hlen2 := devRead_ok (s := s1) (D := D) (n := 2 + 2 * (n : Int) + 1) hDW.sh.ok
    generalize hx2 : devRead s1 D (2 + 2 * (n : Int) + 1) = x2 at *
    obtain ⟨b2, e2, s2⟩ := x2
    dsimp only at *
    replace hlen2 := Lib.hid hlen2
    clear hz hx2 hroom2 hD1 hK01 hl1
    go_wp2_with fail
    with_reducible refine hrd.mono ?_
    rintro e w3 ⟨v3, rfl, hf3, hD3, hK3⟩
    have hbox3 := (hK3.block w.heap.size (.inl (.inr rfl))).trans hboxW
    have hK03 : Kept X w w3 := hKW.trans (hK3.mono fun b hb => .inl (.inl hb))
    have hr13 : Hid (Rd w3 A1 b1) := Lib.hid (hK3.rd hrW.out fun ad e => .inr (by subst e; simp [Value.ownBlock]))
    have hsz3 := hK3.size
    clear hrd hboxW hlW hKW hK3 hrW c0 c1' c2 cf hblt hlcW hlltW
    obtain ⟨c0, c1', c2, cf⟩ := row3_cells w3 _ _ _ _ _ hbox3
    have hblt := lt_of_row hbox3
    dsimp only at hf3 hD3 ⊢
    by_cases h2 : e2 = 0
    ·subst h2
     replace hget := Lib.hid (hget.out.trans (if_pos rfl))
     have hlen2 : b2.length = 128 := hlen2.out rfl
     obtain ⟨A3, c3, rfl, hr3, hge3⟩ := hf3.form (by omega)
     rw [hlen2] at hD3 ⊢
     have hdec := pp_dec A1 A3 128 c1 128 c3 b1 b2 w3 hL1.out hr13.out hlen2 hr3 (by omega)
     replace hlen2 := Lib.hid hlen2
     replace hr3 := Lib.hid hr3
     clear hf3
     go_wp2_with fail
     refine hdec.mono ?_
     rintro e w4 ⟨A4, c4, rfl, ho4, hb4⟩
     have hbox4 := hrow_keep hbox3 hb4
     have hD4 := hD3.more hb4 (Y := fun b => (X b ∨ b = w.heap.size) ∨ ∃ ad, A4 = some ad ∧ ad.block = b) fun b hx => by
      rcases hx with hx | ⟨ad, e, rfl⟩
      ·exact ⟨Nat.lt_of_lt_of_le (hD3.lt b (.inl (.inl hx))) hb4.size, .inl (.inl (.inl hx))⟩
      ·obtain ⟨A', c', hv, _, h2⟩ := ho4.form
       injection hv with e1
       subst e1
       obtain ⟨x, rfl, h4, h5⟩ := h2 ad e
       exact ⟨h5, .inr h4⟩
     have hK04 : Kept X w w4 := hK03.trans (Kept.of_below hb4 fun b hb => hD3.lt b (.inl (.inl (.inl hb))))
     have hne : ∀ b, (Value.slice A4 (decR b1 b2).part.length c4).ownBlock = some b → b ≠ w.heap.size := by
      intro b hb e
      obtain ⟨A', c', hv, _, h2⟩ := ho4.form
      injection hv with e1
      subst e1
      cases A4 with
      | none => cases hb
      | some ad =>
       obtain ⟨x, rfl, h4, h5⟩ := h2 ad rfl
       simp [Value.ownBlock] at hb
       have := lt_of_row hbox3
       omega
     have hfin : LgPost X a g w D (logGet s D slots n) (.returned (.tuple #[.agg #[.int .i64 (decR b1 b2).stripe, .int .i64 (decR b1 b2).place, .slice A4 (decR b1 b2).part.length c4], .int .i64 (decEP b1 b2)])) (set3 w4 w.heap.size (.int .i64 (decR b1 b2).stripe) (.int .i64 (decR b1 b2).place) (.slice A4 (decR b1 b2).part.length c4)) := by
      rw [hget.out]
      refine ⟨A4, c4, rfl, (ho4.blk fun b hb => set3_other w4 _ b _ _ _ (hne b hb)).base_le (by have := lt_of_row hbox3; omega), (hD4.but (.inl (.inr rfl)) (But.set3 _ _ _ _ _)).mono fun b hb => hb.elim (fun h => .inl (.inl h)) .inr, hK04.trans (Kept.set3 (fun hx => Nat.lt_irrefl _ (hlt.out _ hx)) _ _ _ _)⟩
     replace hfin := Lib.hid hfin
     clear hdec hD3 hD4 hK03 hK04 hne ho4 hb4 hbox3 c0 c1' c2 cf hblt hget
     obtain ⟨c0, c1', c2, cf⟩ := row3_cells w4 _ _ _ _ _ hbox4
     have hblt := lt_of_row hbox4
     generalize decR b1 b2 = rr at *
     obtain ⟨st, pl, part⟩ := rr
     generalize decEP b1 b2 = ee at *
     dsimp only at *
     generalize part.length = pm at *
     go_wp2_with fail
     refine bodyPost_ret (results_row_tmp rfl _ _ w.heap.size 150 _ _ _ rfl (set3_row w4 _ _ _ _ _ (.int .i64 st) (.int .i64 pl) (.slice A4 pm c4) hbox4) Try.underlying150 rfl (by kernel_rfl)) rfl ?_
     exact hfin.out
    ·have h2' : (e2 != 0) = true := by rw [bne_iff_ne]; exact h2
     have hfin := lgPost_none3 (er := e2) hlt.out (hD3.mono (Y := fun b => (X b ∨ b = w.heap.size) ∨ False) fun b hb => .inl (.inl (hb.elim id False.elim))) hK03 (.int .i64 0) (.int .i64 0) (.slice none 0 0)
     rw [← hget.out.trans (if_neg h2)] at hfin
     replace hfin := Lib.hid hfin
     clear h2 hget hD3 hf3 hK03
     go_wp2_with fail
     refine bodyPost_ret (results_row_tmp rfl _ _ w.heap.size 150 _ _ _ rfl (set3_row w3 _ _ _ _ _ (.int .i64 0) (.int .i64 0) (.slice none 0 0) hbox3) Try.underlying150 rfl (by kernel_rfl)) rfl ?_
     exact hfin.out
  ·have h1' : (e1 != 0) = true := by rw [bne_iff_ne]; exact h1
   have hfin := lgPost_none3 (er := e1) hlt.out hD1 hK01 (.int .i64 0) (.int .i64 0) (.slice none 0 0)
   rw [← hget.out.trans (if_neg h1)] at hfin
   replace hfin := Lib.hid hfin
   obtain ⟨c0, c1, c2, cf⟩ := row3_cells w1 _ _ _ _ _ hbox1
   have hblt := lt_of_row hbox1
   clear h1 hD1 hf1 hget
   go_wp2_with fail
   refine bodyPost_ret (results_row_tmp rfl _ _ w.heap.size 150 _ _ _ rfl (set3_row w1 _ _ _ _ _ (.int .i64 0) (.int .i64 0) (.slice none 0 0) hbox1) Try.underlying150 rfl (by kernel_rfl)) rfl ?_
   exact hfin.out
end
end
end Go.Proofs.Ytajnlhalanhicaa

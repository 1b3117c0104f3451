/-
 Several texts of this work in one (merge.py): RaP, RaQ, RaR, RaU, RaS, RaT.
-/
import Derived.Test.YtajnlhalanhicaaHeldTail
import Derived.Test.YtajnlhalanhicaaRgC
import Derived.Test.YtajnlhalanhicaaSupE
import Derived.Lib.ConvBytes
namespace Go.Proofs.Ytajnlhalanhicaa
set_option linter.all false
set_option maxRecDepth 20000
section
open Go.RowKit
section
variable {X : Nat → Prop} {F : VolF} {w w' : World} {s : ShM} {V : VolM}
theorem ra_dwrite (h : VolX X F w s V) (hroom : Room 999999999990 s) {i : Nat} (hi : i < V.devs.length) (n : Int) (hn0 : -9223372036854775808 ≤ n) (hn1 : n ≤ 9223372036854775807) (A : Option Addr) (L c : Nat) (bs : Bytes) (hr : Rd w A bs) (hL : bs.length = L) (hA : ∀ ad, A = some ad → X ad.block) :
  Calls Try.prog 19 #[.pointer (some ⟨F.a i, 0, none⟩), .int .i64 n, .slice A L c] w (PutPost_ X F w (volWr s V i n bs)) := by
 refine (su_write (h.toDev hi) hroom n hn0 hn1 A L c bs hr hL (fun ad e => .inl (hA ad e))).mono ?_
 rintro e w' ⟨rfl, hD, hK⟩
 have hf := fits_dwrite s (V.dev i) n bs
 obtain ⟨h1, h2⟩ := h.wrote hi hD hK hf.n hf.z hf.d hf.b
 exact ⟨rfl, h1, h2⟩
theorem room_vwr {N : Nat} (h : Room N s) (V : VolM) (d : Nat) (n : Int) (b : Bytes) : Room (N + 4) (volWr s V d n b).2.1 := room_dwrite h _ _ _
set_option maxHeartbeats 4000000 in
theorem ra_say (h : VolX X F w s V) (hroom : Room 999999999980 s) (d : Nat) (hd : d < V.devs.length) (x : Sup) (hx0 : -9223372036854775808 ≤ x.gen) (hx1 : x.gen ≤ 9223372036854775807) : Calls Try.prog 65 #[.pointer (some ⟨F.v, 0, none⟩), .int .i64 (d : Int), (.agg #[.int .i64 x.gen, .int .i64 x.members, .int .i64 x.disk, .int .i64 x.stripes, .int .i64 x.logs, .int .i64 x.spare, .int .i64 x.mark, .int .i64 x.cursor])] w (PutPost_ X F w (volSay s V d x)) := by
 obtain ⟨y, hy⟩ : ∃ y : Sup, y = { x with disk := d } := ⟨_, rfl⟩
 obtain ⟨T, hT⟩ : ∃ T, T = volSay s V d x := ⟨_, rfl⟩
 rw [← hT]
 have hT1 : Hid (T = if rightB y then (if (volWr s V d (y.gen % 2) (supBytes y)).1 = 0 then volFl (volWr s V d (y.gen % 2) (supBytes y)).2.1 (volWr s V d (y.gen % 2) (supBytes y)).2.2 d else volWr s V d (y.gen % 2) (supBytes y)) else (1, s, V)) := Lib.hid (by rw [hT, hy]; rfl)
 have hW0 := below_made' w (.cells #[.int .i64 x.gen, .int .i64 x.members, .int .i64 (d : Int), .int .i64 x.stripes, .int .i64 x.logs, .int .i64 x.spare, .int .i64 x.mark, .int .i64 x.cursor] 53)
 have henc := enc_u y (w.alloc (.cells #[.int .i64 x.gen, .int .i64 x.members, .int .i64 (d : Int), .int .i64 x.stripes, .int .i64 x.logs, .int .i64 x.spare, .int .i64 x.mark, .int .i64 x.cursor] 53))
 have hyg : y.gen = x.gen := by rw [hy]
 have hand := and_one_i64 x.gen hx0 hx1
 have hl17 := h.ok.len17
 obtain ⟨W, hW⟩ : ∃ W, W = w.alloc (.cells #[.int .i64 x.gen, .int .i64 x.members, .int .i64 (d : Int), .int .i64 x.stripes, .int .i64 x.logs, .int .i64 x.spare, .int .i64 x.mark, .int .i64 x.cursor] 53) := ⟨_, rfl⟩
 have hbox : W.heap[w.heap.size]? = some (.cells #[.int .i64 x.gen, .int .i64 x.members, .int .i64 (d : Int), .int .i64 x.stripes, .int .i64 x.logs, .int .i64 x.spare, .int .i64 x.mark, .int .i64 x.cursor] 53) := by rw [hW]; exact heap_alloc_new _ _
 rw [← hW] at hW0
 have hVW : VolX (fun b => X b ∨ b = w.heap.size) F W s V := h.more hW0 fun b hb => by
  rcases hb with hb | rfl
  ·exact ⟨Nat.lt_of_lt_of_le (h.lt b hb) hW0.size, .inl hb⟩
  ·exact ⟨lt_of_row hbox, .inr (Nat.le_refl _)⟩
 have hKW : Kept X w W := Kept.of_below hW0 h.lt
 have hm1 : 0 ≤ x.gen % 2 ∧ x.gen % 2 < 2 := by omega
 have hy8 : y.members = x.members ∧ y.disk = (d : Int) ∧ y.stripes = x.stripes ∧ y.logs = x.logs ∧ y.spare = x.spare ∧ y.mark = x.mark ∧ y.cursor = x.cursor := by rw [hy]; exact ⟨rfl, rfl, rfl, rfl, rfl, rfl, rfl⟩
 obtain ⟨y1, y2, y3, y4, y5, y6, y7⟩ := hy8
 rw [hyg, y1, y2, y3, y4, y5, y6, y7] at henc
 rw [hyg] at hT1
 clear y1 y2 y3 y4 y5 y6 y7 hyg hy hT h hW0
 unfold EncPost at henc
 have hbl := supBytes_len y
 unfold supL supE at henc
 obtain ⟨x0, x1, x2, x3, x4, x5, x6, x7⟩ := x
 dsimp only at *
 replace hbox := Lib.hid hbox
 replace hVW := Lib.hid hVW
 replace hKW := Lib.hid hKW
 cases hrt : rightB y with
 | false =>
  rw [hrt] at hT1 henc
  replace hT1 := hT1.out.trans (if_neg (by simp))
  simp only [Bool.false_eq_true, if_false] at henc
  clear hrt hroom
  go_enter Try.func65, Try.ntmps65
  go_wp2_with fail
  with_reducible refine henc.mono ?_
  rintro e w2 ⟨A, c, rfl, _, hb2⟩
  rw [← hW] at hb2
  have hfin : PutPost_ X F w T (.returned (.int .i64 1)) w2 := by
   rw [hT1]
   exact ⟨rfl, (hVW.out.below hb2).mono fun b hb => .inl hb, hKW.out.trans (Kept.of_below hb2 fun b hb => hVW.out.lt b (.inl hb))⟩
  replace hfin := Lib.hid hfin
  clear hT1 henc hb2 hW hbl
  go_wp2_with fail
  go_ret
  exact hfin.out
 | true =>
  rw [hrt] at hT1 henc
  replace hT1 := Lib.hid (hT1.out.trans (if_pos rfl))
  simp only [if_true, hbl] at henc
  generalize supBytes y = sb at *
  clear hrt
  go_enter Try.func65, Try.ntmps65
  go_wp2_with fail
  with_reducible refine henc.mono ?_
  rintro e w2 ⟨A, c, rfl, ho, hb2⟩
  have hwi := ho.within
  rw [← hW] at hb2 hwi
  have hV2 := hVW.out.join hb2 hwi
  have hK2 : Kept X w w2 := hKW.out.trans (Kept.of_below hb2 fun b hb => hVW.out.lt b (.inl hb))
  have hbox2 := hrow_keep hbox.out hb2
  have c9 := hV2.c 9
  simp only [volR] at c9
  have cd := hV2.cDev hd
  unfold ptrV at cd
  have d0 := cell_of_row w2 w.heap.size 0 _ _ _ hbox2
  have hblt := lt_of_row hbox2
  have hvlt := hV2.vlt
  have hsl := slot_any x0 w2.drew
  rw [hand] at hsl
  have hdw := ra_dwrite hV2.drew (hroom.mono (by omega)) hd (x0 % 2) (by omega) (by omega) A 128 c sb ho.rd.drew hbl (fun ad e => .inr ⟨ad, e, rfl⟩)
  have hrm3 := Lib.hid (room_vwr hroom V d (x0 % 2) sb)
  have hlen3 : (volWr s V d (x0 % 2) sb).2.2.devs.length = V.devs.length := setDev_len V d _
  generalize volWr s V d (x0 % 2) sb = r at *
  obtain ⟨er, s3, V3⟩ := r
  dsimp only at hdw hT1 hrm3 hlen3
  have hSk : ∀ w3, VolX (fun b => (X b ∨ b = w.heap.size) ∨ ∃ ad, A = some ad ∧ ad.block = b) F w3 s3 V3 → Kept (fun b => (X b ∨ b = w.heap.size) ∨ ∃ ad, A = some ad ∧ ad.block = b) w2.drew w3 → w3.cell? ⟨F.v, 9, none⟩ = some (.slice (some ⟨F.db, 0, none⟩) V.devs.length F.dc) ∧ w3.cell? ⟨F.db, d, none⟩ = some (.pointer (some ⟨F.a d, 0, none⟩)) ∧ w3.cell? ⟨w.heap.size, 0, none⟩ = some (.int .i64 x0) := fun w3 hV hK => by
   have c9 := hV.c 9
   simp only [volR] at c9
   rw [hlen3] at c9
   have hK' : Kept (fun b => (X b ∨ b = w.heap.size) ∨ ∃ ad, A = some ad ∧ ad.block = b) w2 w3 := (Kept.drew _ w2).trans hK
   exact ⟨c9, hV.cDev (by rw [hlen3]; exact hd), cell_of_row w3 w.heap.size 0 _ _ _ ((hK'.block w.heap.size (.inl (.inr rfl))).trans hbox2)⟩
  have hd3 : d < V3.devs.length := by rw [hlen3]; exact hd
  replace hSk := Lib.hid hSk
  replace hK2 := Lib.hid hK2
  obtain ⟨dl, hdl⟩ : ∃ dl, dl = V.devs.length := ⟨_, rfl⟩
  rw [← hdl] at hSk c9 hd hl17
  obtain ⟨ai, hai⟩ : ∃ ai, ai = F.a d := ⟨_, rfl⟩
  rw [← hai] at cd hSk hdw
  replace hai := Lib.hid hai
  replace hd3 := Lib.hid hd3
  clear henc hV2 hbox2 ho hwi hroom hdl hlen3 hand hW hb2 hVW hbox hKW
  go_wp2_with fail
  refine wp_region_held_drew (S := (fun W => W.cell? ⟨F.v, 9, none⟩ = some (.slice (some ⟨F.db, 0, none⟩) dl F.dc) ∧ W.cell? ⟨F.db, d, none⟩ = some (.pointer (some ⟨ai, 0, none⟩)) ∧ W.cell? ⟨w.heap.size, 0, none⟩ = some (.int .i64 x0))) (by kernel_rfl) ?_ (fun hHeld => ?_)
  ·(try dsimp only)
   exact ⟨c9, cd, d0⟩
  refine tkA 0 ?_
  refine tkA 1 ?_
  refine tkA 2 ?_
  refine tkA 3 ?_
  refine tkA 4 ?_
  refine tkA 5 ?_
  refine tkA 6 ?_
  refine tkA 7 ?_
  refine tkA 8 ?_
  refine tkA 10 ?_
  refine rkA 9 (fun K hK => ?_)
  go_simp
  with_reducible refine hsl.mono ?_
  rintro e wx ⟨rfl, rfl⟩
  (try go_wp2_with fail)
  refine hK.out _ _ ?_ (fun hHeld2 => ?_)
  ·(try dsimp only)
   first | exact hHeld | exact hS3
  clear hK K
  replace hHeld := hHeld2
  clear hHeld2
  (try simp only [pA, pN, pB, pC, pD])
  refine rkA 11 (fun K hK => ?_)
  go_simp
  with_reducible refine hdw.mono ?_
  rintro e w3 ⟨rfl, hV3, hK3⟩
  have hS3 := hSk.out w3 hV3 hK3
  (try go_wp2_with fail)
  refine hK.out _ _ ?_ (fun hHeld2 => ?_)
  ·(try dsimp only)
   first | exact hHeld | exact hS3
  clear hK K
  replace hHeld := hHeld2
  clear hHeld2
  (try simp only [pA, pN, pB, pC, pD])
  refine tkA 12 ?_
  refine wpAnyH_done (by kernel_rfl) ?_ _
  have hK03 := Lib.hid (hK2.out.trans ((Kept.drew _ w2).trans (hK3.mono fun b hb => .inl (.inl hb))))
  obtain ⟨c9', cd', _⟩ := hHeld
  have hvlt3 := hV3.vlt
  by_cases e0 : er = 0
  ·subst e0
   replace hT1 := Lib.hid (hT1.out.trans (if_pos rfl))
   have hfl := ra_dflush hV3 hd3.out
   rw [← hai.out] at hfl
   generalize volFl s3 V3 d = g at *
   obtain ⟨eg, s4, V4⟩ := g
   clear hV3 hK3 hS3 c9 cd d0 hsl hdw
   go_wp2_with fail
   with_reducible refine hfl.mono ?_
   rintro e w4 ⟨rfl, hV4, hK4⟩
   dsimp only at hV4
   have hfin : PutPost_ X F w T (.returned (.int .i64 eg)) w4 := by
    rw [hT1.out]
    exact ⟨rfl, hV4.mono fun b hb => .inl (.inl hb), hK03.out.trans (hK4.mono fun b hb => .inl (.inl hb))⟩
   replace hfin := Lib.hid hfin
   clear hT1 hV4 hK4 hK03 hfl
   go_wp2_with fail
   go_ret
   exact hfin.out
  ·have hb0 : (er != 0) = true := by rw [bne_iff_ne]; exact e0
   have hT2 : T = (er, s3, V3) := hT1.out.trans (if_neg e0)
   have hfin : PutPost_ X F w T (.returned (.int .i64 er)) w3 := by
    rw [hT2]
    exact ⟨rfl, hV3.mono fun b hb => .inl (.inl hb), hK03.out⟩
   replace hfin := Lib.hid hfin
   clear hT1 hT2 hV3 hK3 hS3 e0 hK03
   go_wp2_with fail
   go_ret
   exact hfin.out
end
end
section
open Go.RowKit
section
variable {X : Nat → Prop} {F : VolF} {w w' : World} {s : ShM} {V : VolM}
structure NextOk (V : VolM) (x : Sup) : Prop where
 m : x.members = V.sup.members
 st : x.stripes = V.sup.stripes
 l : x.logs = V.sup.logs
 k : x.disk = V.sup.disk
 sp0 : -1 ≤ x.spare
 spM : x.spare < x.members
 mk0 : 0 ≤ x.mark
 mkS : x.mark ≤ x.stripes
 mkN : x.spare < 0 → x.mark ≤ 0
 cu0 : 0 ≤ x.cursor
 cuS : x.cursor < x.stripes
 sp : 0 ≤ x.spare → V.devs.length = V.m + 1
theorem VolOk.next {s' : ShM} {V' : VolM} {x : Sup} (h : VolOk s' V') (hx : NextOk V x) (hs : V'.sup = V.sup) (hl : V'.devs.length = V.devs.length) (hg : V.sup.gen < 4611686018427387904) : VolOk s' (V'.setSup (nextSup V x)) := by
 have h1 : (V'.setSup (nextSup V x)).m = V'.m := by
  show x.members.toNat = V'.sup.members.toNat
  rw [hx.m, hs]
 have h2 : (V'.setSup (nextSup V x)).base = V'.base := by
  show 2 + 2 * x.logs.toNat = 2 + 2 * V'.sup.logs.toNat
  rw [hx.l, hs]
 have h3 : (V'.setSup (nextSup V x)).stripes = V'.stripes := by
  show x.stripes.toNat = V'.sup.stripes.toNat
  rw [hx.st, hs]
 have hm : V'.m = V.m := by unfold VolM.m; rw [hs]
 refine ⟨?_, ?_, ?_, ?_, ?_, ?_, hx.sp0, hx.spM, hx.mk0, hx.mkS, hx.mkN, hx.cu0, hx.cuS, ?_, ?_, ?_, ?_, ?_, ?_, h.slen, h.dd, h.dz, ?_⟩
 ·show 3 ≤ x.members; rw [hx.m, ← hs]; exact h.m3
 ·show x.members ≤ 16; rw [hx.m, ← hs]; exact h.m16
 ·show 1 ≤ x.stripes; rw [hx.st, ← hs]; exact h.st1
 ·show x.stripes ≤ 1024; rw [hx.st, ← hs]; exact h.st1024
 ·show 1 ≤ x.logs; rw [hx.l, ← hs]; exact h.l1
 ·show x.logs ≤ 8; rw [hx.l, ← hs]; exact h.l8
 ·show 0 ≤ V.sup.gen + 1; have := h.g0; rw [hs] at this; omega
 ·show V.sup.gen + 1 ≤ 4611686018427387904; omega
 ·show 0 ≤ x.disk; rw [hx.k, ← hs]; exact h.k0
 ·show x.disk ≤ 16; rw [hx.k, ← hs]; exact h.kM
 ·rw [h1]; exact h.len
 ·intro h0; rw [h1]; show V'.devs.length = _; rw [hl, hm]; exact hx.sp h0
 ·rw [h2, h3]; exact h.need
theorem set8_vol (w : World) (g t : Nat) (u0 u1 u2 u3 u4 u5 u6 u7 u8 u9 ua ub uc ud v0 v1 v2 v3 v4 v5 v6 v7 : Value) (h : w.heap[g]? = some (.cells #[u0, u1, u2, u3, u4, u5, u6, u7, u8, u9, ua, ub, uc, ud] t)) :
  (set8 w g v0 v1 v2 v3 v4 v5 v6 v7).heap[g]? = some (.cells #[v0, v1, v2, v3, v4, v5, v6, v7, u8, u9, ua, ub, uc, ud] t) := by
 unfold set8
 have h0 := (heap_setCell_same w g 0 _ t v0 h).trans (by rfl : _ = some (.cells #[v0, u1, u2, u3, u4, u5, u6, u7, u8, u9, ua, ub, uc, ud] t))
 have h1 := (heap_setCell_same _ g 1 _ t v1 h0).trans (by rfl : _ = some (.cells #[v0, v1, u2, u3, u4, u5, u6, u7, u8, u9, ua, ub, uc, ud] t))
 have h2 := (heap_setCell_same _ g 2 _ t v2 h1).trans (by rfl : _ = some (.cells #[v0, v1, v2, u3, u4, u5, u6, u7, u8, u9, ua, ub, uc, ud] t))
 have h3 := (heap_setCell_same _ g 3 _ t v3 h2).trans (by rfl : _ = some (.cells #[v0, v1, v2, v3, u4, u5, u6, u7, u8, u9, ua, ub, uc, ud] t))
 have h4 := (heap_setCell_same _ g 4 _ t v4 h3).trans (by rfl : _ = some (.cells #[v0, v1, v2, v3, v4, u5, u6, u7, u8, u9, ua, ub, uc, ud] t))
 have h5 := (heap_setCell_same _ g 5 _ t v5 h4).trans (by rfl : _ = some (.cells #[v0, v1, v2, v3, v4, v5, u6, u7, u8, u9, ua, ub, uc, ud] t))
 have h6 := (heap_setCell_same _ g 6 _ t v6 h5).trans (by rfl : _ = some (.cells #[v0, v1, v2, v3, v4, v5, v6, u7, u8, u9, ua, ub, uc, ud] t))
 exact (heap_setCell_same _ g 7 _ t v7 h6).trans (by rfl)
theorem set8_other (w : World) (g k : Nat) (v0 v1 v2 v3 v4 v5 v6 v7 : Value) (h : k ≠ g) : (set8 w g v0 v1 v2 v3 v4 v5 v6 v7).heap[k]? = w.heap[k]? := by
 unfold set8
 have e : ∀ (w : World) (i : Nat) (v : Value), (w.setCell ⟨g, i, none⟩ v).heap[k]? = w.heap[k]? := fun w i v => heap_setCell_other w ⟨g, i, none⟩ k v (fun e => h e)
 rw [e, e, e, e, e, e, e, e]
theorem set8_size (w : World) (g : Nat) (v0 v1 v2 v3 v4 v5 v6 v7 : Value) : (set8 w g v0 v1 v2 v3 v4 v5 v6 v7).heap.size = w.heap.size := by simp [set8, World.setCell]
theorem set8_outer (w : World) (g : Nat) (v0 v1 v2 v3 v4 v5 v6 v7 : Value) : (set8 w g v0 v1 v2 v3 v4 v5 v6 v7).os = w.os ∧ (set8 w g v0 v1 v2 v3 v4 v5 v6 v7).tape = w.tape ∧ (set8 w g v0 v1 v2 v3 v4 v5 v6 v7).output = w.output := by
 have o1 : ∀ (w : World) (a : Addr) (v : Value), (w.setCell a v).os = w.os := fun _ _ _ => rfl
 have o2 : ∀ (w : World) (a : Addr) (v : Value), (w.setCell a v).tape = w.tape := fun _ _ _ => rfl
 have o3 : ∀ (w : World) (a : Addr) (v : Value), (w.setCell a v).output = w.output := fun _ _ _ => rfl
 unfold set8
 simp only [o1, o2, o3, and_self]
theorem VolX.setSup (h : VolX X F w s V) (x : Sup) (hok : VolOk s (V.setSup x)) (hb : (V.setSup x).base = V.base) (hl : (V.setSup x).logs = V.logs) :
  VolX X F (set8 w F.v (.int .i64 x.gen) (.int .i64 x.members) (.int .i64 x.disk) (.int .i64 x.stripes) (.int .i64 x.logs) (.int .i64 x.spare) (.int .i64 x.mark) (.int .i64 x.cursor)) s (V.setSup x) ∧
  Kept X w (set8 w F.v (.int .i64 x.gen) (.int .i64 x.members) (.int .i64 x.disk) (.int .i64 x.stripes) (.int .i64 x.logs) (.int .i64 x.spare) (.int .i64 x.mark) (.int .i64 x.cursor)) := by
 have hnd := h.nd
 have hv1 : F.v ∈ F.own := by simp [VolF.own]
 obtain ⟨W, hW⟩ : ∃ W, W = set8 w F.v (.int .i64 x.gen) (.int .i64 x.members) (.int .i64 x.disk) (.int .i64 x.stripes) (.int .i64 x.logs) (.int .i64 x.spare) (.int .i64 x.mark) (.int .i64 x.cursor) := ⟨_, rfl⟩
 have hrow0 := h.row
 unfold volR at hrow0
 have hrow := set8_vol w F.v _ _ _ _ _ _ _ _ _ _ _ _ _ _ _ (.int .i64 x.gen) (.int .i64 x.members) (.int .i64 x.disk) (.int .i64 x.stripes) (.int .i64 x.logs) (.int .i64 x.spare) (.int .i64 x.mark) (.int .i64 x.cursor) hrow0
 have hoth : ∀ k, k ≠ F.v → W.heap[k]? = w.heap[k]? := fun k hk => by rw [hW]; exact set8_other w F.v k _ _ _ _ _ _ _ _ hk
 have hsz : W.heap.size = w.heap.size := by rw [hW]; exact set8_size _ _ _ _ _ _ _ _ _ _
 obtain ⟨e1, e2, e3⟩ : W.os = w.os ∧ W.tape = w.tape ∧ W.output = w.output := by rw [hW]; exact set8_outer _ _ _ _ _ _ _ _ _ _
 rw [← hW] at hrow ⊢
 clear hW
 simp only [VolF.own, List.nodup_cons, List.nodup_append, List.mem_cons, List.mem_append, not_or] at hnd
 obtain ⟨⟨v1, v2, v3, v4, v5, v6⟩, _⟩ := hnd
 have ha : ∀ i, i < V.devs.length → F.a i ≠ F.v := fun i hi => (h.a_other hi).1
 have hla : ∀ i, i < V.devs.length → F.l i ≠ F.v := fun i hi e => by
  have hm : F.l i ∈ F.la := by
   have : i < F.la.length := by rw [h.llen]; exact hi
   simp [VolF.l, List.getD, this]
  exact v6 (e ▸ hm)
 refine ⟨⟨h.sh.other (Nat.le_of_eq hsz.symm) fun b _ hn => hoth b fun e => hn (.inr (e ▸ hv1)), h.nd, h.out, ?_, h.dvs.blk (hoth _ fun e => v1 e.symm), h.lgs.blk (hoth _ fun e => v2 e.symm), h.opens.of_block (hoth _ fun e => v3 e.symm), h.used.of_block (hoth _ fun e => v4 e.symm), h.alen, h.llen,
  fun i hi => (hoth _ (ha i hi)).trans (h.dev i hi), fun i hi => ?_, hok⟩, e1, e2, e3, Nat.le_of_eq hsz.symm, fun k hk => hoth k fun e => h.out _ hv1 (e ▸ hk)⟩
 ·rw [hrow]
  unfold volR
  rw [hb]
  rfl
 ·have := h.log i hi
  unfold LogRow at *
  rw [hl, hoth _ (hla i hi)]
  exact this
theorem volSay_sup (d : Nat) (x : Sup) : (volSay s V d x).2.2.sup = V.sup := by
 unfold volSay
 dsimp only
 split
 ·split
  ·rfl
  ·rfl
 ·rfl
theorem volSay_len (d : Nat) (x : Sup) : (volSay s V d x).2.2.devs.length = V.devs.length := by
 unfold volSay
 dsimp only
 split
 ·split
  ·exact (setDev_len _ _ _).trans (setDev_len _ _ _)
  ·exact setDev_len _ _ _
 ·rfl
theorem room_say {N : Nat} (h : Room N s) (V : VolM) (d : Nat) (x : Sup) : Room (N + 4) (volSay s V d x).2.1 := by
 unfold volSay
 dsimp only
 split
 ·have h1 := room_vwr h V d ((({ x with disk := (d : Int) } : Sup)).gen % 2) (supBytes { x with disk := (d : Int) })
  split
  ·exact room_vfl h1 _ _
  ·exact h1
 ·exact h.mono (by omega)
theorem sayFrom_step (s : ShM) (V : VolM) (x : Sup) (i f : Nat) : sayFrom s V x i (f + 1) = if (volSay s V i x).1 = 0 ∨ (volSay s V i x).1 = 4 then sayFrom (volSay s V i x).2.1 (volSay s V i x).2.2 x (i + 1) f else volSay s V i x := rfl
set_option maxHeartbeats 8000000 in
theorem ra_save (h : VolX X F w s V) (hroom : Room 999999990000 s) (x : Sup) (hx : NextOk V x) : Calls Try.prog 71 #[.pointer (some ⟨F.v, 0, none⟩), (.agg #[.int .i64 x.gen, .int .i64 x.members, .int .i64 x.disk, .int .i64 x.stripes, .int .i64 x.logs, .int .i64 x.spare, .int .i64 x.mark, .int .i64 x.cursor])] w (PutPost_ X F w (volSave s V x)) := by
 obtain ⟨T, hT⟩ : ∃ T, T = volSave s V x := ⟨_, rfl⟩
 rw [← hT]
 have hg0 := h.ok.g0
 have c0 := h.c 0
 have c9 := h.c 9
 have hvlt := h.vlt
 have hl17 := h.ok.len17
 simp only [volR] at c0 c9
 obtain ⟨n, hn⟩ : ∃ n, n = V.devs.length := ⟨_, rfl⟩
 obtain ⟨gn, hgn⟩ : ∃ gn, gn = V.sup.gen := ⟨_, rfl⟩
 rw [← hn] at c9 hl17
 rw [← hgn] at c0 hg0
 by_cases hg : gn < 4611686018427387904
 ·obtain ⟨y, hy⟩ : ∃ y, y = nextSup V x := ⟨_, rfl⟩
  have hyg : y.gen = gn + 1 := by rw [hy, hgn]; rfl
  have hy8 : y.members = x.members ∧ y.disk = x.disk ∧ y.stripes = x.stripes ∧ y.logs = x.logs ∧ y.spare = x.spare ∧ y.mark = x.mark ∧ y.cursor = x.cursor := by rw [hy]; exact ⟨rfl, rfl, rfl, rfl, rfl, rfl, rfl⟩
  obtain ⟨C, hC⟩ : ∃ C, C = sayFrom s V y 0 n := ⟨_, rfl⟩
  have hT1 : Hid (T = if C.1 = 0 then (0, C.2.1, C.2.2.setSup y) else C) := Lib.hid (by rw [hT, hC, hy, hn]; unfold volSave; rw [← hgn, if_pos hg])
  have hC0 : Hid (C = sayFrom s V y 0 (n - 0)) := Lib.hid hC
  have hnext : ∀ s' V', VolOk s' V' → V'.sup = V.sup → V'.devs.length = n → VolOk s' (V'.setSup y) ∧ (V'.setSup y).base = V'.base ∧ (V'.setSup y).logs = V'.logs := fun s' V' h' hs hl => by
   refine ⟨by rw [hy]; exact h'.next hx hs (hl.trans hn) (by rw [← hgn]; exact hg), ?_, ?_⟩
   ·show 2 + 2 * y.logs.toNat = _
    rw [hy8.2.2.2.1, hx.l]
    unfold VolM.base
    rw [hs]
   ·show y.logs.toNat = _
    rw [hy8.2.2.2.1, hx.l]
    unfold VolM.logs
    rw [hs]
  obtain ⟨y1, y2, y3, y4, y5, y6, y7⟩ := hy8
  have hW0 := below_made' w (.cells #[.int .i64 y.gen, .int .i64 y.members, .int .i64 y.disk, .int .i64 y.stripes, .int .i64 y.logs, .int .i64 y.spare, .int .i64 y.mark, .int .i64 y.cursor] 53)
  obtain ⟨W, hW⟩ : ∃ W, W = w.alloc (.cells #[.int .i64 y.gen, .int .i64 y.members, .int .i64 y.disk, .int .i64 y.stripes, .int .i64 y.logs, .int .i64 y.spare, .int .i64 y.mark, .int .i64 y.cursor] 53) := ⟨_, rfl⟩
  have hbox : W.heap[w.heap.size]? = some (.cells #[.int .i64 y.gen, .int .i64 y.members, .int .i64 y.disk, .int .i64 y.stripes, .int .i64 y.logs, .int .i64 y.spare, .int .i64 y.mark, .int .i64 y.cursor] 53) := by rw [hW]; exact heap_alloc_new _ _
  rw [← hW] at hW0
  have hVW : VolX (fun b => X b ∨ b = w.heap.size) F W s V := h.more hW0 fun b hb => by
   rcases hb with hb | rfl
   ·exact ⟨Nat.lt_of_lt_of_le (h.lt b hb) hW0.size, .inl hb⟩
   ·exact ⟨lt_of_row hbox, .inr (Nat.le_refl _)⟩
  have hKW : Kept X w W := Kept.of_below hW0 h.lt
  have hWW : w.alloc (.cells #[.int .i64 (gn + 1), .int .i64 x.members, .int .i64 x.disk, .int .i64 x.stripes, .int .i64 x.logs, .int .i64 x.spare, .int .i64 x.mark, .int .i64 x.cursor] 53) = W := by rw [hW, hyg, y1, y2, y3, y4, y5, y6, y7]
  have hyb : -9223372036854775808 ≤ y.gen ∧ y.gen ≤ 9223372036854775807 := by rw [hyg]; omega
  have c9 := hVW.c 9
  have hvltW := hVW.vlt
  simp only [volR] at c9
  rw [← hn] at c9
  replace hnext := Lib.hid hnext
  replace hn := Lib.hid hn
  replace hVW := Lib.hid hVW
  replace hKW := Lib.hid hKW
  replace hbox := Lib.hid hbox
  replace hyb := Lib.hid hyb
  clear hT hC h hx hW0 hy hyg y1 y2 y3 y4 y5 y6 y7 hgn hW
  obtain ⟨x0, x1, x2, x3, x4, x5, x6, x7⟩ := x
  dsimp only at hWW ⊢
  go_enter Try.func71, Try.ntmps71
  go_wp2_with fail
  (try rw [hWW])
  clear hWW
  go_loopw [25] (fun q wr => ∃ (k : Nat) (s' : ShM) (V' : VolM), q = .int .i64 k ∧ k ≤ n ∧ Hid (n = V'.devs.length) ∧ Hid (V'.sup = V.sup) ∧ Hid (C = sayFrom s' V' y k (n - k)) ∧ Hid (VolX (fun b => X b ∨ b = w.heap.size) F wr s' V') ∧ Hid (Kept X w wr) ∧ Hid (wr.heap[w.heap.size]? = some (.cells #[.int .i64 y.gen, .int .i64 y.members, .int .i64 y.disk, .int .i64 y.stripes, .int .i64 y.logs, .int .i64 y.spare, .int .i64 y.mark, .int .i64 y.cursor] 53)) ∧ Hid (Room (999999990000 + 4 * k) s'))
   (fun q _ => n - (intOf q).toNat)
  case atStart => exact ⟨0, s, V, by go_num, by omega, hn, Lib.hid rfl, hC0, hVW, hKW, hbox, Lib.hid hroom⟩
  case round =>
   clear hC0 hVW hKW hbox hroom c9 hvlt c0 hn hvltW
   obtain ⟨k, s', V', rfl, hk, hn, hs, hC, hV, hK, hbox, hroom⟩ := hrel
   obtain ⟨d0, d1, d2, d3, d4, d5, d6, d7, df⟩ := row8_cells wr _ _ _ _ _ _ _ _ _ _ hbox.out
   have hblt := lt_of_row hbox.out
   by_cases hlk : k < n
   ·have hkl : k < V'.devs.length := by rw [← hn.out]; exact hlk
    have hct := ra_say hV.out (hroom.out.mono (by omega)) k hkl y hyb.out.1 hyb.out.2
    have hstep : Hid (C = _) := Lib.hid (hC.out.trans (by rw [show n - k = (n - (k + 1)) + 1 by omega, sayFrom_step]))
    have hroom' := Lib.hid (room_say hroom.out V' k y)
    have hn' : Hid (n = (volSay s' V' k y).2.2.devs.length) := Lib.hid (by rw [hn.out]; exact (volSay_len k y).symm)
    have hs' : Hid ((volSay s' V' k y).2.2.sup = V.sup) := Lib.hid ((volSay_sup k y).trans hs.out)
    generalize volSay s' V' k y = r at *
    obtain ⟨er, s2, V2⟩ := r
    dsimp only at hct hstep hroom' hn' hs'
    obtain ⟨y0, y1, y2, y3, y4, y5, y6, y7⟩ := y
    dsimp only at *
    clear hC hroom hkl hn hV hs
    go_wp2_with fail
    with_reducible refine hct.mono ?_
    rintro e w1 ⟨rfl, hV1, hK1⟩
    dsimp only at hV1
    have hK01 : Hid (Kept X w w1) := Lib.hid (hK.out.trans (hK1.mono fun b hb => .inl hb))
    have hbox1 := Lib.hid ((hK1.block w.heap.size (.inr rfl)).trans hbox.out)
    replace hV1 := Lib.hid hV1
    clear hct hK hK1 d0 d1 d2 d3 d4 d5 d6 d7 df hblt hbox
    by_cases h0 : er = 0
    ·subst h0
     have hT4 := Lib.hid (hstep.out.trans (if_pos (.inl rfl)))
     clear hstep
     go_wp2_with fail
     go_roundw
     case rel => exact ⟨k + 1, s2, V2, by go_num, by omega, hn', hs', hT4, hV1, hK01, hbox1, Lib.hid (hroom'.out.mono (by omega))⟩
     case measure => simp [intOf]; omega
    ·have h0' : (er != 0) = true := by rw [bne_iff_ne]; exact h0
     by_cases h4 : er = 4
     ·subst h4
      have hT4 := Lib.hid (hstep.out.trans (if_pos (.inr rfl)))
      clear hstep h0 h0'
      go_wp2_with fail
      go_roundw
      case rel => exact ⟨k + 1, s2, V2, by go_num, by omega, hn', hs', hT4, hV1, hK01, hbox1, Lib.hid (hroom'.out.mono (by omega))⟩
      case measure => simp [intOf]; omega
     ·have h4' : (er != 4) = true := by rw [bne_iff_ne]; exact h4
      have hC4 : C = (er, s2, V2) := hstep.out.trans (if_neg (by simp [h0, h4]))
      have hfin : PutPost_ X F w T (.returned (.int .i64 er)) w1 := by
       rw [hT1.out, hC4, if_neg h0]
       exact ⟨rfl, hV1.out.mono fun b hb => .inl hb, hK01.out⟩
      replace hfin := Lib.hid hfin
      clear hstep h0 h4 hC4 hV1 hK01 hbox1
      go_wp2_with fail
      go_ret
      exact hfin.out
   ·obtain rfl : k = n := by omega
    have hC1 : C = (0, s', V') := by
     rw [hC.out, Nat.sub_self]
     rfl
    have hT2 : T = (0, s', V'.setSup y) := by rw [hT1.out, hC1, if_pos rfl]
    obtain ⟨k1, k2, k3⟩ := hnext.out s' V' hV.out.ok hs.out hn.out.symm
    obtain ⟨hV9, hK9⟩ := hV.out.setSup y k1 k2 k3
    have c0 := hV.out.c 0
    have c1 := hV.out.c 1
    have c2 := hV.out.c 2
    have c3 := hV.out.c 3
    have c4 := hV.out.c 4
    have c5 := hV.out.c 5
    have c6 := hV.out.c 6
    have c7 := hV.out.c 7
    have cf := fun j => frozen_of_row wr F.v j _ _ hV.out.row
    have hvlt := hV.out.vlt
    simp only [volR] at c0 c1 c2 c3 c4 c5 c6 c7
    have hfin : PutPost_ X F w T (.returned (.int .i64 0)) (set8 wr F.v (.int .i64 y.gen) (.int .i64 y.members) (.int .i64 y.disk) (.int .i64 y.stripes) (.int .i64 y.logs) (.int .i64 y.spare) (.int .i64 y.mark) (.int .i64 y.cursor)) := by
     rw [hT2]
     exact ⟨rfl, hV9.mono fun b hb => .inl hb, hK.out.trans (hK9.mono fun b hb => .inl hb)⟩
    replace hfin := Lib.hid hfin
    obtain ⟨y0, y1, y2, y3, y4, y5, y6, y7⟩ := y
    dsimp only at *
    clear hT2 hC1 hC hV hK hroom hn hs k1 k2 k3 hV9 hK9 hbox hnext hT1
    go_wp2_with fail
    go_ret
    exact hfin.out
 ·have hT1 : T = (6, s, V) := by rw [hT]; unfold volSave; rw [← hgn, if_neg hg]
  have hb := below_made' w (.cells #[.int .i64 x.gen, .int .i64 x.members, .int .i64 x.disk, .int .i64 x.stripes, .int .i64 x.logs, .int .i64 x.spare, .int .i64 x.mark, .int .i64 x.cursor] 53)
  have hfin : PutPost_ X F w T (.returned (.int .i64 6)) (w.alloc (.cells #[.int .i64 x.gen, .int .i64 x.members, .int .i64 x.disk, .int .i64 x.stripes, .int .i64 x.logs, .int .i64 x.spare, .int .i64 x.mark, .int .i64 x.cursor] 53)) := by
   rw [hT1]
   exact ⟨rfl, h.below hb, Kept.of_below hb h.lt⟩
  replace hfin := Lib.hid hfin
  clear h hT hT1 hb hn hgn c9 hx hroom
  go_enter Try.func71, Try.ntmps71
  go_wp2_with fail
  go_ret
  exact hfin.out
end
end
section
open Go.RowKit
section
variable {X : Nat → Prop} {g : Nat} {w w' : World} {s : ShM}
set_option maxHeartbeats 8000000 in
theorem ra_build_bad (h : ShX X g w s) (x : Sup) (hx0 : -9223372036854775808 ≤ x.logs) (hx1 : x.logs ≤ 9223372036854775807) (hb : buildOk s x = false) :
  Calls Try.prog 63 #[.pointer (some ⟨g, 0, none⟩), (.agg #[.int .i64 x.gen, .int .i64 x.members, .int .i64 x.disk, .int .i64 x.stripes, .int .i64 x.logs, .int .i64 x.spare, .int .i64 x.mark, .int .i64 x.cursor])] w fun e w' => e = .returned (.tuple #[.pointer none, .int .i64 1]) ∧ Below w.heap.size w w' := by
 have hbad := of_decide_eq_false hb
 have hb0 := below_made' w (.cells #[.int .i64 x.gen, .int .i64 x.members, .int .i64 x.disk, .int .i64 x.stripes, .int .i64 x.logs, .int .i64 x.spare, .int .i64 x.mark, .int .i64 x.cursor] 53)
 have h17 := h.ok.disks17
 have h1 := h.ok.disks1
 have h4096 := h.ok.sectors4096
 have hsz := lx_size (h.below hb0)
 have hnd := fun W => lay_need x.stripes x.logs hx0 hx1 W
 have hbk := fun W => su_blocks s.sectors W (by omega) (by omega)
 have hbb := blocksI_bounds s.sectors h4096
 generalize blocksI s.sectors = bk at *
 generalize s.disks.length = dl at *
 generalize s.sectors = sc at *
 obtain ⟨x0, x1, x2, x3, x4, x5, x6, x7⟩ := x
 dsimp only at *
 have hbox : (w.alloc (.cells #[.int .i64 x0, .int .i64 x1, .int .i64 x2, .int .i64 x3, .int .i64 x4, .int .i64 x5, .int .i64 x6, .int .i64 x7] 53)).heap[w.heap.size]? = some (.cells #[.int .i64 x0, .int .i64 x1, .int .i64 x2, .int .i64 x3, .int .i64 x4, .int .i64 x5, .int .i64 x6, .int .i64 x7] 53) := heap_alloc_new _ _
 replace hbox := Lib.hid hbox
 replace hb0 := Lib.hid hb0
 clear h hb
 have hcase : ¬ (1 ≤ x4 ∧ x4 ≤ 8 ∧ 1 ≤ x3 ∧ x3 ≤ 1024) ∨ ((1 ≤ x4 ∧ x4 ≤ 8 ∧ 1 ≤ x3 ∧ x3 ≤ 1024) ∧ (x1 < 3 ∨ (¬ x1 < 3 ∧ 16 < x1) ∨ (¬ x1 < 3 ∧ ¬ 16 < x1 ∧ (((dl : Int) != x1) = true ∧ ((dl : Int) != x1 + 1) = true)) ∨ (¬ x1 < 3 ∧ ¬ 16 < x1 ∧ (dl : Int) = x1 ∧ bk < 2 + 2 * x4 + x3) ∨ (¬ x1 < 3 ∧ ¬ 16 < x1 ∧ ((dl : Int) != x1) = true ∧ (dl : Int) = x1 + 1 ∧ bk < 2 + 2 * x4 + x3))) := by
  simp only [bne_iff_ne]
  omega
 clear hbad
 go_enter Try.func63, Try.ntmps63
 go_wp2_with fail
 with_reducible refine hsz.mono ?_
 rintro e w1 ⟨rfl, hb1⟩
 obtain ⟨d0, d1, d2, d3, d4, d5, d6, d7, df⟩ := row8_cells w1 _ _ _ _ _ _ _ _ _ _ (hrow_keep hbox.out hb1)
 have hblt := lt_of_row (hrow_keep hbox.out hb1)
 have hbel : Hid (Below w.heap.size w w1) := Lib.hid (below_to hb0.out hb1)
 clear hsz hb1
 rcases hcase with hc | ⟨⟨k1, k2, k3, k4⟩, hc⟩
 ·have hnd' := hnd w1
  rw [if_neg hc, if_neg hc] at hnd'
  clear hnd hbk hc
  go_wp2_with fail
  with_reducible refine hnd'.mono ?_
  rintro e wx ⟨rfl, rfl⟩
  clear hnd'
  go_wp2_with fail
  go_ret2
  exact ⟨rfl, hbel.out⟩
 ·have hnd' := hnd w1
  rw [if_pos ⟨k1, k2, k3, k4⟩, if_pos ⟨k1, k2, k3, k4⟩] at hnd'
  have hbk' := hbk w1
  have hnb : (-9223372036854775808 : Int) ≤ 2 + 2 * x4 + x3 ∧ 2 + 2 * x4 + x3 ≤ 2000 := by omega
  generalize 2 + 2 * x4 + x3 = nd at *
  clear hnd hbk
  rcases hc with hc | ⟨hc, hc2⟩ | ⟨hc, hc2, hc3, hc4⟩ | ⟨hc, hc2, hc3, hc4⟩ | ⟨hc, hc2, hc3, hc4, hc5⟩
  ·clear hbk'
   go_wp2_with fail
   with_reducible refine hnd'.mono ?_
   rintro e wx ⟨rfl, rfl⟩
   clear hnd'
   go_wp2_with fail
   go_ret2
   exact ⟨rfl, hbel.out⟩
  ·clear hbk'
   go_wp2_with fail
   with_reducible refine hnd'.mono ?_
   rintro e wx ⟨rfl, rfl⟩
   clear hnd'
   go_wp2_with fail
   go_ret2
   exact ⟨rfl, hbel.out⟩
  ·have hw1 : IntKind.i64.wrap (x1 + 1) = x1 + 1 := IntWalk.i64_in _ (by omega)
   clear hbk'
   go_wp2_with fail
   with_reducible refine hnd'.mono ?_
   rintro e wx ⟨rfl, rfl⟩
   clear hnd'
   go_wp2_with fail
   go_ret2
   exact ⟨rfl, hbel.out⟩
  ·subst hc3
   go_wp2_with fail
   with_reducible refine hnd'.mono ?_
   rintro e wx ⟨rfl, rfl⟩
   clear hnd'
   go_wp2_with fail
   with_reducible refine hbk'.mono ?_
   rintro e wx ⟨rfl, rfl⟩
   clear hbk'
   go_wp2_with fail
   go_ret2
   exact ⟨rfl, hbel.out⟩
  ·have hw1 : IntKind.i64.wrap (x1 + 1) = x1 + 1 := IntWalk.i64_in _ (by omega)
   rw [hc4] at hc3
   go_wp2_with fail
   with_reducible refine hnd'.mono ?_
   rintro e wx ⟨rfl, rfl⟩
   clear hnd'
   go_wp2_with fail
   with_reducible refine hbk'.mono ?_
   rintro e wx ⟨rfl, rfl⟩
   clear hbk'
   go_wp2_with fail
   go_ret2
   exact ⟨rfl, hbel.out⟩
end
end
section
open Go.RowKit
theorem Try.infoPDev : (Try.prog.info? 54).map (fun i => (i.zero, i.size, i.bytes)) = some (some (.pointer none), 1, 8) := by kernel_rfl
theorem Try.infoPLog : (Try.prog.info? 99).map (fun i => (i.zero, i.size, i.bytes)) = some (some (.pointer none), 1, 8) := by kernel_rfl
structure BI (w0 W : World) (base : Nat) (u1 u2 v1 v2 : Value) (xs1 xs2 : List Value) (l1 l2 : Option Nat) (x1 x2 : Value) : Prop where
 o1 : OwnV W 54 base v1 xs1
 o2 : OwnV W 99 base v2 xs2
 ne : ∀ b, v1.ownBlock = some b → v2.ownBlock ≠ some b
 keep : ∀ b, b < w0.heap.size → u1.ownBlock ≠ some b → u2.ownBlock ≠ some b → W.heap[b]? = w0.heap[b]?
 size : w0.heap.size ≤ W.heap.size
 os : W.os = w0.os
 tape : W.tape = w0.tape
 output : W.output = w0.output
 s1 : ∀ b, v1.ownBlock = some b → u1.ownBlock = some b ∨ w0.heap.size ≤ b
 s2 : ∀ b, v2.ownBlock = some b → u2.ownBlock = some b ∨ w0.heap.size ≤ b
 q1 : ∀ g, l1 = some g → RdV W (some ⟨g, 0, none⟩) [x1] ∧ w0.heap.size ≤ g ∧ g < W.heap.size ∧ v1.ownBlock ≠ some g ∧ v2.ownBlock ≠ some g
 q2 : ∀ g, l2 = some g → RdV W (some ⟨g, 0, none⟩) [x2] ∧ w0.heap.size ≤ g ∧ g < W.heap.size ∧ v1.ownBlock ≠ some g ∧ v2.ownBlock ≠ some g
 b0 : base ≤ w0.heap.size
section
variable {w0 W W' : World} {base : Nat} {u1 u2 v1 v2 x1 x2 : Value} {xs1 xs2 : List Value} {l1 l2 : Option Nat}
theorem OwnV.lt' {E : Nat} {v : Value} {vs : List Value} (h : OwnV W E base v vs) : ∀ b, v.ownBlock = some b → base ≤ b ∧ b < W.heap.size := fun b hb => World.ownsRow.lt h b hb
theorem BI.alloc1 (h : BI w0 W base u1 u2 v1 v2 xs1 xs2 none l2 x1 x2) (E : Nat) : BI w0 (W.alloc (.cells #[x1] E)) base u1 u2 v1 v2 xs1 xs2 (some W.heap.size) l2 x1 x2 := by
 have hb := below_made' W (.cells #[x1] E)
 have hs : (W.alloc (.cells #[x1] E)).heap.size = W.heap.size + 1 := by simp
 refine ⟨h.o1.below hb, h.o2.below hb, h.ne, fun b hlt n1 n2 => (hb.block b (Nat.lt_of_lt_of_le hlt h.size)).trans (h.keep b hlt n1 n2), Nat.le_trans h.size hb.size, h.os, h.tape, h.output, h.s1, h.s2, fun g e => ?_, fun g e => ?_, h.b0⟩
 ·injection e with e
  subst e
  refine ⟨RdV.lit W E [x1] (by simp), h.size, by omega, fun e => ?_, fun e => ?_⟩
  ·have := (h.o1.lt' _ e).2; omega
  ·have := (h.o2.lt' _ e).2; omega
 ·obtain ⟨r1, r2, r3, r4⟩ := h.q2 g e
  exact ⟨r1.below hb, r2, by omega, r4⟩
theorem BI.alloc2 (h : BI w0 W base u1 u2 v1 v2 xs1 xs2 l1 none x1 x2) (E : Nat) : BI w0 (W.alloc (.cells #[x2] E)) base u1 u2 v1 v2 xs1 xs2 l1 (some W.heap.size) x1 x2 := by
 have hb := below_made' W (.cells #[x2] E)
 have hs : (W.alloc (.cells #[x2] E)).heap.size = W.heap.size + 1 := by simp
 refine ⟨h.o1.below hb, h.o2.below hb, h.ne, fun b hlt n1 n2 => (hb.block b (Nat.lt_of_lt_of_le hlt h.size)).trans (h.keep b hlt n1 n2), Nat.le_trans h.size hb.size, h.os, h.tape, h.output, h.s1, h.s2, fun g e => ?_, fun g e => ?_, h.b0⟩
 ·obtain ⟨r1, r2, r3, r4⟩ := h.q1 g e
  exact ⟨r1.below hb, r2, by omega, r4⟩
 ·injection e with e
  subst e
  refine ⟨RdV.lit W E [x2] (by simp), h.size, by omega, fun e => ?_, fun e => ?_⟩
  ·have := (h.o1.lt' _ e).2; omega
  ·have := (h.o2.lt' _ e).2; omega
theorem OwnV.blk {E : Nat} {v : Value} {vs : List Value} (h : OwnV W E base v vs) (hb : ∀ b, v.ownBlock = some b → W'.heap[b]? = W.heap[b]?) : OwnV W' E base v vs := by
 refine ⟨h.1, ?_⟩
 rcases h.2 with h0 | ⟨g, cap, cur, hv, hbg, hg, r⟩
 ·exact .inl h0
 ·refine .inr ⟨g, cap, cur, hv, hbg, (hb g ?_).trans hg, r⟩
  subst hv
  simp [Value.ownBlock]
theorem RdV.blkZ {A : Option Addr} {vs : List Value} (h : RdV W A vs) (hb : ∀ ad, A = some ad → W'.heap[ad.block]? = W.heap[ad.block]?) : RdV W' A vs :=
 ⟨h.1, h.2.1, fun ad e i hi => (World.cell?_of_block (by rw [add_block]; exact hb ad e)).trans (h.2.2 ad e i hi)⟩
theorem BI.app1 (h : BI w0 W base u1 u2 v1 v2 xs1 xs2 l1 l2 x1 x2) {v' : Value} {ys : List Value} (ho : OwnV W' 54 base v' ys) (hg : W.grownBy W' v1.ownBlock) (hv : v'.ownBlock = v1.ownBlock ∨ v'.ownBlock = some W.heap.size) :
  BI w0 W' base u1 u2 v' v2 ys xs2 l1 l2 x1 x2 := by
 have hk : ∀ b, b < W.heap.size → v1.ownBlock ≠ some b → W'.heap[b]? = W.heap[b]? := fun b hb hn => hg.block b hb fun e => hn e.symm
 have hs := hg.size
 refine ⟨ho, h.o2.blk fun b e => hk b (h.o2.lt' b e).2 fun e1 => h.ne b e1 e, fun b e e2 => ?_, fun b hlt n1 n2 => ?_, Nat.le_trans h.size hs, hg.os.trans h.os, hg.tape.trans h.tape, hg.output.trans h.output, fun b e => ?_, h.s2, fun g e => ?_, fun g e => ?_, h.b0⟩
 ·rcases hv with hv | hv
  ·exact h.ne b (hv ▸ e) e2
  ·rw [hv] at e
   injection e with e
   have := (h.o2.lt' b e2).2
   omega
 ·rw [hk b (Nat.lt_of_lt_of_le hlt h.size) fun e => ?_]
  ·exact h.keep b hlt n1 n2
  ·rcases h.s1 b e with e | e
   ·exact n1 e
   ·omega
 ·rcases hv with hv | hv
  ·exact h.s1 b (hv ▸ e)
  ·rw [hv] at e
   injection e with e
   have := h.size
   exact .inr (by omega)
 ·obtain ⟨r1, r2, r3, r4, r5⟩ := h.q1 g e
  refine ⟨r1.blkZ fun ad e => by injection e with e; subst e; exact hk g r3 r4, r2, by omega, fun e => ?_, r5⟩
  rcases hv with hv | hv
  ·exact r4 (hv ▸ e)
  ·rw [hv] at e; injection e with e; omega
 ·obtain ⟨r1, r2, r3, r4, r5⟩ := h.q2 g e
  refine ⟨r1.blkZ fun ad e => by injection e with e; subst e; exact hk g r3 r4, r2, by omega, fun e => ?_, r5⟩
  rcases hv with hv | hv
  ·exact r4 (hv ▸ e)
  ·rw [hv] at e; injection e with e; omega
theorem BI.app2 (h : BI w0 W base u1 u2 v1 v2 xs1 xs2 l1 l2 x1 x2) {v' : Value} {ys : List Value} (ho : OwnV W' 99 base v' ys) (hg : W.grownBy W' v2.ownBlock) (hv : v'.ownBlock = v2.ownBlock ∨ v'.ownBlock = some W.heap.size) :
  BI w0 W' base u1 u2 v1 v' xs1 ys l1 l2 x1 x2 := by
 have hk : ∀ b, b < W.heap.size → v2.ownBlock ≠ some b → W'.heap[b]? = W.heap[b]? := fun b hb hn => hg.block b hb fun e => hn e.symm
 have hs := hg.size
 refine ⟨h.o1.blk fun b e => hk b (h.o1.lt' b e).2 fun e1 => h.ne b e e1, ho, fun b e e2 => ?_, fun b hlt n1 n2 => ?_, Nat.le_trans h.size hs, hg.os.trans h.os, hg.tape.trans h.tape, hg.output.trans h.output, h.s1, fun b e => ?_, fun g e => ?_, fun g e => ?_, h.b0⟩
 ·rcases hv with hv | hv
  ·exact h.ne b e (hv ▸ e2)
  ·rw [hv] at e2
   injection e2 with e2
   have := (h.o1.lt' b e).2
   omega
 ·rw [hk b (Nat.lt_of_lt_of_le hlt h.size) fun e => ?_]
  ·exact h.keep b hlt n1 n2
  ·rcases h.s2 b e with e | e
   ·exact n2 e
   ·omega
 ·rcases hv with hv | hv
  ·exact h.s2 b (hv ▸ e)
  ·rw [hv] at e
   injection e with e
   have := h.size
   exact .inr (by omega)
 ·obtain ⟨r1, r2, r3, r4, r5⟩ := h.q1 g e
  refine ⟨r1.blkZ fun ad e => by injection e with e; subst e; exact hk g r3 r5, r2, by omega, r4, fun e => ?_⟩
  rcases hv with hv | hv
  ·exact r5 (hv ▸ e)
  ·rw [hv] at e; injection e with e; omega
 ·obtain ⟨r1, r2, r3, r4, r5⟩ := h.q2 g e
  refine ⟨r1.blkZ fun ad e => by injection e with e; subst e; exact hk g r3 r5, r2, by omega, r4, fun e => ?_⟩
  rcases hv with hv | hv
  ·exact r5 (hv ▸ e)
  ·rw [hv] at e; injection e with e; omega
end
def vbR (x : Sup) (g : Nat) (v1 v2 : Value) (bo bu ba : Nat) : Array Value := #[.int .i64 x.gen, .int .i64 x.members, .int .i64 x.disk, .int .i64 x.stripes, .int .i64 x.logs, .int .i64 x.spare, .int .i64 x.mark, .int .i64 x.cursor, .pointer (some ⟨g, 0, none⟩), v1, v2, .map (some bo), .map (some bu), .int .i64 (ba : Int)]
structure VB (w0 w : World) (s : ShM) (x : Sup) (g vb bo bu : Nat) (k : Nat) (v1 v2 : Value) (al bl : List Nat) : Prop where
 bel : Below w0.heap.size w0 w
 row : w.heap[vb]? = some (.cells (vbR x g v1 v2 bo bu (2 + 2 * x.logs.toNat)) 91)
 mo : MapSet natK smallN unitV w bo []
 mu : MapSet slotK smallP unitV w bu []
 o1 : OwnV w 54 w0.heap.size v1 (al.map ptrV)
 o2 : OwnV w 99 w0.heap.size v2 (bl.map ptrV)
 la : al.length = k
 ll : bl.length = k
 nd : (vb :: bo :: bu :: (al ++ bl)).Nodup
 n1 : ∀ b, v1.ownBlock = some b → b ∉ vb :: bo :: bu :: (al ++ bl)
 n2 : ∀ b, v2.ownBlock = some b → b ∉ vb :: bo :: bu :: (al ++ bl)
 ne : ∀ b, v1.ownBlock = some b → v2.ownBlock ≠ some b
 ge : ∀ b ∈ vb :: bo :: bu :: (al ++ bl), w0.heap.size ≤ b ∧ b < w.heap.size
 dev : ∀ i, i < k → w.heap[al.getD i 0]? = some (.cells (devR g ⟨i, (blocksI s.sectors).toNat, -1⟩) 119)
 log : ∀ i, i < k → LogRow w (bl.getD i 0) (al.getD i 0) x.logs.toNat
section
variable {w0 w w1 w2 W : World} {s : ShM} {x : Sup} {g vb bo bu k : Nat} {v1 v2 : Value} {al bl : List Nat}
theorem VB.below (h : VB w0 w s x g vb bo bu k v1 v2 al bl) (hb : Below w.heap.size w w1) : VB w0 w1 s x g vb bo bu k v1 v2 al bl :=
 ⟨h.bel.trans (hb.mono h.bel.size), hrow_keep h.row hb, h.mo.of_block (hb.block _ (h.ge _ (by simp)).2), h.mu.of_block (hb.block _ (h.ge _ (by simp)).2), h.o1.below hb, h.o2.below hb, h.la, h.ll, h.nd, h.n1, h.n2, h.ne,
  fun b hm => ⟨(h.ge b hm).1, Nat.lt_of_lt_of_le (h.ge b hm).2 hb.size⟩, fun i hi => hrow_keep (h.dev i hi) hb, fun i hi => (h.log i hi).below hb⟩
theorem getD_snoc {l : List Nat} {a i k : Nat} (hl : l.length = k) : (l ++ [a]).getD i 0 = if i < k then l.getD i 0 else if i = k then a else 0 := by
 subst hl
 by_cases h1 : i < l.length
 ·simp [List.getD, List.getElem?_append, h1]
 ·by_cases h2 : i = l.length
  ·subst h2; simp [List.getD]
  ·rw [if_neg h1, if_neg h2]
   have : (l ++ [a])[i]? = none := List.getElem?_eq_none (by simp; omega)
   simp [List.getD, this]
theorem VB.step (h : VB w0 w s x g vb bo bu k v1 v2 al bl) {a l : Nat} (hb1 : Below w.heap.size w w1) (ha : w.heap.size ≤ a) (hra : w1.heap[a]? = some (.cells (devR g ⟨k, (blocksI s.sectors).toNat, -1⟩) 119))
  (hb2 : Below w1.heap.size w1 w2) (hl : w1.heap.size ≤ l) (hrl : LogRow w2 l a x.logs.toNat) {v1' v2' : Value} {l1 l2 : Option Nat} {x1 x2 : Value} (hI : BI w2 W w0.heap.size v1 v2 v1' v2' ((al ++ [a]).map ptrV) ((bl ++ [l]).map ptrV) l1 l2 x1 x2) :
  VB w0 ((W.setCell ⟨vb, 9, none⟩ v1').setCell ⟨vb, 10, none⟩ v2') s x g vb bo bu (k + 1) v1' v2' (al ++ [a]) (bl ++ [l]) := by
 have h2 := (h.below hb1).below hb2
 have hs1 := hb1.size
 have hs2 := hb2.size
 have ha1 : a < w1.heap.size := lt_of_row hra
 have hl2 : l < w2.heap.size := lt_of_row hrl
 obtain ⟨Wf, hWf⟩ : ∃ Wf, Wf = (W.setCell ⟨vb, 9, none⟩ v1').setCell ⟨vb, 10, none⟩ v2' := ⟨_, rfl⟩
 have hoth : ∀ b, b ≠ vb → Wf.heap[b]? = W.heap[b]? := fun b hb => by
  rw [hWf]
  exact (heap_setCell_other _ ⟨vb, 10, none⟩ b _ (fun e => hb e)).trans (heap_setCell_other _ ⟨vb, 9, none⟩ b _ (fun e => hb e))
 have hsz : Wf.heap.size = W.heap.size := by rw [hWf]; simp [World.setCell]
 have hold : ∀ b ∈ vb :: bo :: bu :: (al ++ bl), W.heap[b]? = w2.heap[b]? := fun b hm => hI.keep b (h2.ge b hm).2 (fun e => h2.n1 b e hm) (fun e => h2.n2 b e hm)
 have hnew : ∀ b, w.heap.size ≤ b → b ∉ vb :: bo :: bu :: (al ++ bl) := fun b hb hm => by
  have := (h.ge b hm).2
  omega
 have hown1 : ∀ b, v1.ownBlock = some b → b < w.heap.size := fun b e => (h.o1.lt' b e).2
 have hown2 : ∀ b, v2.ownBlock = some b → b < w.heap.size := fun b e => (h.o2.lt' b e).2
 have hKa : W.heap[a]? = w2.heap[a]? := hI.keep a (by omega) (fun e => by have := hown1 a e; omega) (fun e => by have := hown2 a e; omega)
 have hKl : W.heap[l]? = w2.heap[l]? := hI.keep l hl2 (fun e => by have := hown1 l e; omega) (fun e => by have := hown2 l e; omega)
 have hmem : ∀ b, b ∈ vb :: bo :: bu :: ((al ++ [a]) ++ (bl ++ [l])) ↔ (b ∈ vb :: bo :: bu :: (al ++ bl) ∨ b = a ∨ b = l) := fun b => by
  simp only [List.mem_cons, List.mem_append, List.not_mem_nil, or_false]
  constructor
  ·rintro (h | h | h | (h | h) | h | h) <;> simp [h]
  ·rintro ((h | h | h | h | h) | h | h) <;> simp [h]
 have hva : a ≠ vb := fun e => hnew a ha (by simp [e])
 have hvl : l ≠ vb := fun e => hnew l (by omega) (by simp [e])
 have hown : ∀ (b : Nat) (v' v : Value), (v'.ownBlock = some b → v.ownBlock = some b ∨ w2.heap.size ≤ b) → (v.ownBlock = some b → b ∉ vb :: bo :: bu :: (al ++ bl)) → (v.ownBlock = some b → b < w.heap.size) → v'.ownBlock = some b → b ∉ vb :: bo :: bu :: ((al ++ [a]) ++ (bl ++ [l])) := fun b v' v q1 q2 q3 e hm => by
  rcases (hmem b).1 hm with hm | rfl | rfl
  ·rcases q1 e with e | e
   ·exact q2 e hm
   ·have := (h2.ge b hm).2; omega
  ·rcases q1 e with e | e
   ·have := q3 e; omega
   ·omega
  ·rcases q1 e with e | e
   ·have := q3 e; omega
   ·omega
 have hrowW : W.heap[vb]? = _ := (hold vb (by simp)).trans h2.row
 have hrow : Wf.heap[vb]? = some (.cells (vbR x g v1' v2' bo bu (2 + 2 * x.logs.toNat)) 91) := by
  rw [hWf]
  have r1 := (heap_setCell_same W vb 9 _ 91 v1' hrowW).trans (by rfl : _ = some (.cells (vbR x g v1' v2 bo bu (2 + 2 * x.logs.toNat)) 91))
  exact (heap_setCell_same _ vb 10 _ 91 v2' r1).trans (by rfl)
 have hnv1 : v1'.ownBlock ≠ some vb := fun e => hown vb v1' v1 (hI.s1 vb) (h.n1 vb) (hown1 vb) e (by simp)
 have hnv2 : v2'.ownBlock ≠ some vb := fun e => hown vb v2' v2 (hI.s2 vb) (h.n2 vb) (hown2 vb) e (by simp)
 have hvb0 := (h.ge vb (by simp)).1
 have hbo : bo ≠ vb := by
  have := h.nd
  simp only [List.nodup_cons, List.mem_cons, not_or] at this
  exact fun e => this.1.1 e.symm
 have hbu : bu ≠ vb := by
  have := h.nd
  simp only [List.nodup_cons, List.mem_cons, not_or] at this
  exact fun e => this.1.2.1 e.symm
 have hal : ∀ i, i < k → al.getD i 0 ∈ al := fun i hi => by
  have : i < al.length := by rw [h.la]; exact hi
  simp [List.getD, this]
 have hbl : ∀ i, i < k → bl.getD i 0 ∈ bl := fun i hi => by
  have : i < bl.length := by rw [h.ll]; exact hi
  simp [List.getD, this]
 have hvn : ∀ b, b ∈ al ∨ b ∈ bl → b ≠ vb := fun b hm e => by
  have := h.nd
  simp only [List.nodup_cons, List.mem_cons, List.mem_append, not_or] at this
  subst e
  rcases hm with hm | hm
  ·exact this.1.2.2.1 hm
  ·exact this.1.2.2.2 hm
 rw [← hWf]
 refine ⟨⟨?_, ?_, ?_, ?_, fun b hb => ?_⟩, hrow, ?_, ?_, ?_, ?_, by simp [h.la], by simp [h.ll], ?_, fun b e => hown b v1' v1 (hI.s1 b) (h.n1 b) (hown1 b) e, fun b e => hown b v2' v2 (hI.s2 b) (h.n2 b) (hown2 b) e, hI.ne, fun b hm => ?_, fun i hi => ?_, fun i hi => ?_⟩
 ·rw [hWf]; exact hI.os.trans h2.bel.os
 ·rw [hWf]; exact hI.tape.trans h2.bel.tape
 ·rw [hWf]; exact hI.output.trans h2.bel.output
 ·rw [hsz]; exact Nat.le_trans h2.bel.size hI.size
 ·rw [hoth b (by omega), hI.keep b (Nat.lt_of_lt_of_le hb h2.bel.size) (fun e => by have := (h.o1.lt' b e).1; omega) (fun e => by have := (h.o2.lt' b e).1; omega)]
  exact h2.bel.block b hb
 ·exact h2.mo.of_block ((hoth bo hbo).trans (hold bo (by simp)))
 ·exact h2.mu.of_block ((hoth bu hbu).trans (hold bu (by simp)))
 ·exact hI.o1.blk fun b e => hoth b fun e2 => hnv1 (e2 ▸ e)
 ·exact hI.o2.blk fun b e => hoth b fun e2 => hnv2 (e2 ▸ e)
 ·have hnd := h.nd
  simp only [List.nodup_cons, List.nodup_append, List.mem_cons, List.mem_append, not_or] at hnd
  obtain ⟨⟨a1, a2, a3, a4⟩, ⟨b1, b2, b3⟩, ⟨c1, c2⟩, d1, d2, d3⟩ := hnd
  have na := hnew a ha
  have nl := hnew l (by omega)
  simp only [List.mem_cons, List.mem_append, not_or] at na nl
  obtain ⟨p1, p2, p3, p4, p5⟩ := na
  obtain ⟨q1, q2, q3, q4, q5⟩ := nl
  have hne : a ≠ l := by omega
  simp only [List.nodup_cons, List.nodup_append, List.mem_cons, List.mem_append, not_or, List.not_mem_nil, or_false, not_false_eq_true, List.nodup_nil, and_true]
  refine ⟨⟨a1, a2, ⟨a3, fun e => p1 e.symm⟩, a4, fun e => q1 e.symm⟩, ⟨b1, ⟨b2, fun e => p2 e.symm⟩, b3, fun e => q2 e.symm⟩, ⟨⟨c1, fun e => p3 e.symm⟩, c2, fun e => q3 e.symm⟩, ⟨d1, trivial, fun y hy z hz => ?_⟩, ⟨d2, trivial, fun y hy z hz => ?_⟩, fun y hy z hz => ?_⟩
  ·subst hz; exact fun e => p4 (e ▸ hy)
  ·subst hz; exact fun e => q5 (e ▸ hy)
  ·rcases hy with hy | rfl
   ·rcases hz with hz | rfl
    ·exact d3 y hy z hz
    ·exact fun e => q4 (e ▸ hy)
   ·rcases hz with hz | rfl
    ·exact fun e => p5 (e ▸ hz)
    ·exact hne
 ·rw [hsz]
  have hsI := hI.size
  rcases (hmem b).1 hm with hm | rfl | rfl
  ·exact ⟨(h.ge b hm).1, by have := (h2.ge b hm).2; omega⟩
  ·exact ⟨by have := h.bel.size; omega, by omega⟩
  ·exact ⟨by have := h.bel.size; omega, by omega⟩
 ·rw [getD_snoc h.la]
  by_cases hik : i < k
  ·rw [if_pos hik, hoth _ (hvn _ (.inl (hal i hik))), hold _ (by simp only [List.mem_cons, List.mem_append]; exact .inr (.inr (.inr (.inl (hal i hik)))))]
   exact h2.dev i hik
  ·obtain rfl : i = k := by omega
   rw [if_neg hik, if_pos rfl, hoth _ hva, hKa]
   exact hrow_keep hra hb2
 ·rw [getD_snoc h.la, getD_snoc h.ll]
  by_cases hik : i < k
  ·rw [if_pos hik, if_pos hik]
   have := h2.log i hik
   unfold LogRow at *
   rw [hoth _ (hvn _ (.inr (hbl i hik))), hold _ (by simp only [List.mem_cons, List.mem_append]; exact .inr (.inr (.inr (.inr (hbl i hik)))))]
   exact this
  ·obtain rfl : i = k := by omega
   rw [if_neg hik, if_pos rfl, if_neg hik, if_pos rfl]
   unfold LogRow at *
   rw [hoth _ hvl, hKl]
   exact hrl
def vbF (g vb bo bu db dc lb lc : Nat) (al bl : List Nat) : VolF := ⟨vb, g, db, dc, lb, lc, bo, bu, al, bl⟩
theorem buildOk_vol {s : ShM} {x : Sup} (h : buildOk s x = true) (hk0 : 0 ≤ x.disk) (hkM : x.disk ≤ 16) (hg0 : 0 ≤ x.gen) (hgM : x.gen ≤ 4611686018427387904) (hsp0 : -1 ≤ x.spare) (hspM : x.spare < x.members) (hmk0 : 0 ≤ x.mark) (hmkS : x.mark ≤ x.stripes) (hmkN : x.spare < 0 → x.mark ≤ 0) (hcu0 : 0 ≤ x.cursor) (hcuS : x.cursor < x.stripes)
  (hsp : 0 ≤ x.spare → (s.disks.length : Int) = x.members + 1) : VolOk s (volBuild s x) := by
 obtain ⟨h1, h2, h3, h4, h5, h6, h7, h8⟩ := of_decide_eq_true h
 have hl : (volBuild s x).devs.length = s.disks.length := by simp [volBuild, devsOf]
 have hm : ((volBuild s x).m : Int) = x.members := by show ((x.members.toNat : Nat) : Int) = _; omega
 refine ⟨h5, h6, h3, h4, h1, h2, hsp0, hspM, hmk0, hmkS, hmkN, hcu0, hcuS, hg0, hgM, hk0, hkM, ?_, ?_, hl.symm, ?_, ?_, ?_⟩
 ·rw [hl]; omega
 ·intro h0; have := hsp h0; rw [hl]; omega
 ·intro i hi
  rw [hl] at hi
  simp [volBuild, devsOf, VolM.dev, List.getD, hi]
 ·intro i hi
  rw [hl] at hi
  simp [volBuild, devsOf, VolM.dev, List.getD, hi]
 ·show 2 + 2 * x.logs.toNat + x.stripes.toNat ≤ _
  omega
theorem VB.toVol {X : Nat → Prop} {db dc lb lc : Nat} (h : VB w0 w s x g vb bo bu s.disks.length (.slice (some ⟨db, 0, none⟩) s.disks.length dc) (.slice (some ⟨lb, 0, none⟩) s.disks.length lc) al bl) (hS : ShX X g w0 s) (hok : VolOk s (volBuild s x)) :
  VolX X (vbF g vb bo bu db dc lb lc al bl) w s (volBuild s x) := by
 have hl : (volBuild s x).devs.length = s.disks.length := by simp [volBuild, devsOf]
 have hown : ∀ b, b ∈ (vbF g vb bo bu db dc lb lc al bl).own ↔ (b ∈ vb :: bo :: bu :: (al ++ bl) ∨ b = db ∨ b = lb) := fun b => by
  simp only [VolF.own, vbF, List.mem_cons, List.mem_append]
  constructor
  ·rintro (h | h | h | h | h | h | h) <;> simp [h]
  ·rintro ((h | h | h | h | h) | h | h) <;> simp [h]
 have hge : ∀ b ∈ (vbF g vb bo bu db dc lb lc al bl).own, w0.heap.size ≤ b ∧ b < w.heap.size := fun b hb => by
  rcases (hown b).1 hb with hb | rfl | rfl
  ·exact h.ge b hb
  ·exact h.o1.lt' b rfl
  ·exact h.o2.lt' b rfl
 refine ⟨hS.more h.bel.size (fun b hb _ => h.bel.block b hb) (fun b hb => ?_), ?_, fun b hb hx => ?_, ?_, ?_, ?_, h.mo, h.mu, by rw [hl]; exact h.la, by rw [hl]; exact h.ll, fun i hi => ?_, fun i hi => ?_, hok⟩
 ·rcases hb with hb | hb
  ·exact ⟨Nat.lt_of_lt_of_le (hS.lt b hb) h.bel.size, .inl hb⟩
  ·exact ⟨(hge b hb).2, .inr (hge b hb).1⟩
 ·have hnd := h.nd
  have n1 := h.n1 db rfl
  have n2 := h.n2 lb rfl
  have n3 : db ≠ lb := fun e => h.ne db rfl (by rw [e]; rfl)
  simp only [List.nodup_cons, List.mem_cons, List.mem_append, not_or] at hnd n1 n2
  obtain ⟨⟨a1, a2, a3, a4⟩, ⟨b1, b2, b3⟩, ⟨c1, c2⟩, d1⟩ := hnd
  obtain ⟨p1, p2, p3, p4, p5⟩ := n1
  obtain ⟨q1, q2, q3, q4, q5⟩ := n2
  simp only [VolF.own, vbF, List.nodup_cons, List.mem_cons, List.mem_append, not_or]
  exact ⟨⟨fun e => p1 e.symm, fun e => q1 e.symm, a1, a2, a3, a4⟩, ⟨n3, p2, p3, p4, p5⟩, ⟨q2, q3, q4, q5⟩, ⟨b1, b2, b3⟩, ⟨c1, c2⟩, d1⟩
 ·have := hS.lt b hx
  have := (hge b hb).1
  omega
 ·rw [show (vbF g vb bo bu db dc lb lc al bl).v = vb from rfl, h.row]
  unfold volR vbR
  rw [hl]
  rfl
 ·exact h.o1.rd
 ·exact h.o2.rd
 ·rw [hl] at hi
  have := h.dev i hi
  have e : (volBuild s x).dev i = ⟨i, (blocksI s.sectors).toNat, -1⟩ := by simp [volBuild, devsOf, VolM.dev, List.getD, hi]
  rw [e]
  exact this
 ·rw [hl] at hi
  exact h.log i hi
end
end
section
open Go.RowKit
section
variable {X : Nat → Prop} {g : Nat} {w w' : World} {s : ShM}
def BuildPost (X : Nat → Prop) (g : Nat) (w : World) (s : ShM) (V : VolM) (e : Ending) (w' : World) : Prop :=
 ∃ F : VolF, e = .returned (.tuple #[.pointer (some ⟨F.v, 0, none⟩), .int .i64 0]) ∧ F.g = g ∧ VolX X F w' s V ∧ Below w.heap.size w w'
set_option maxHeartbeats 16000000 in
theorem ra_build (h : ShX X g w s) (x : Sup) (hb : buildOk s x = true) (hok : VolOk s (volBuild s x)) :
  Calls Try.prog 63 #[.pointer (some ⟨g, 0, none⟩), (.agg #[.int .i64 x.gen, .int .i64 x.members, .int .i64 x.disk, .int .i64 x.stripes, .int .i64 x.logs, .int .i64 x.spare, .int .i64 x.mark, .int .i64 x.cursor])] w (BuildPost X g w s (volBuild s x)) := by
 obtain ⟨k1, k2, k3, k4, k5, k6, k7, k8⟩ := of_decide_eq_true hb
 have hb0 := below_made' w (.cells #[.int .i64 x.gen, .int .i64 x.members, .int .i64 x.disk, .int .i64 x.stripes, .int .i64 x.logs, .int .i64 x.spare, .int .i64 x.mark, .int .i64 x.cursor] 53)
 have hd17 := h.ok.disks17
 have hd1 := h.ok.disks1
 have h4096 := h.ok.sectors4096
 have hsz := lx_size (h.below hb0)
 have hnd := fun W => lay_need x.stripes x.logs (by omega) (by omega) W
 have hbs := fun W => lay_base x.logs (by omega) (by omega) W
 have hbk := fun W => su_blocks s.sectors W (by omega) (by omega)
 have hbb := blocksI_bounds s.sectors h4096
 have hbox : (w.alloc (.cells #[.int .i64 x.gen, .int .i64 x.members, .int .i64 x.disk, .int .i64 x.stripes, .int .i64 x.logs, .int .i64 x.spare, .int .i64 x.mark, .int .i64 x.cursor] 53)).heap[w.heap.size]? = some (.cells #[.int .i64 x.gen, .int .i64 x.members, .int .i64 x.disk, .int .i64 x.stripes, .int .i64 x.logs, .int .i64 x.spare, .int .i64 x.mark, .int .i64 x.cursor] 53) := heap_alloc_new _ _
 obtain ⟨L, hL⟩ := Int.eq_ofNat_of_zero_le (show 0 ≤ x.logs by omega)
 have hL1 : 1 ≤ L ∧ L ≤ 8 := by omega
 have hLn : x.logs.toNat = L := by omega
 have hfin : ∀ W vb bo bu v1 v2 al bl, VB w W s x g vb bo bu s.disks.length v1 v2 al bl → BuildPost X g w s (volBuild s x) (.returned (.tuple #[.pointer (some ⟨vb, 0, none⟩), .int .i64 0])) W := fun W vb bo bu v1 v2 al bl hV => by
  obtain ⟨A1, c1, rfl, hr1, hz1⟩ := hV.o1.form
  obtain ⟨A2, c2, rfl, hr2, hz2⟩ := hV.o2.form
  obtain ⟨a1, rfl⟩ := hr1.some_ (i := 0) (by rw [List.length_map, hV.la]; omega)
  obtain ⟨a2, rfl⟩ := hr2.some_ (i := 0) (by rw [List.length_map, hV.ll]; omega)
  obtain ⟨db, rfl, _⟩ := hz1 a1 rfl
  obtain ⟨lb, rfl, _⟩ := hz2 a2 rfl
  have e1 : (al.map ptrV).length = s.disks.length := by rw [List.length_map, hV.la]
  have e2 : (bl.map ptrV).length = s.disks.length := by rw [List.length_map, hV.ll]
  rw [e1, e2] at hV
  exact ⟨_, rfl, rfl, hV.toVol h hok, hV.bel⟩
 have hopen : ∀ W (k : Nat), Below w.heap.size w W → k < s.disks.length → Calls Try.prog 18 #[.pointer (some ⟨g, 0, none⟩), .int .i64 (k : Int)] W fun e w' =>
   ∃ a, e = .returned (.tuple #[.pointer (some ⟨a, 0, none⟩), .int .i64 0]) ∧ W.heap.size ≤ a ∧ DvX X a g w' s (freshDev s k) ∧ Below W.heap.size W w' := fun W k hB hk => su_open (h.below hB) k hk
 have hneed : 2 + 2 * L ≤ (blocksI s.sectors).toNat := by omega
 replace hfin := Lib.hid hfin
 replace hopen := Lib.hid hopen
 replace hneed := Lib.hid hneed
 clear hok hb h
 generalize hbke : blocksI s.sectors = bk at *
 replace hbke := Lib.hid hbke
 obtain ⟨n, hn⟩ : ∃ n, n = s.disks.length := ⟨_, rfl⟩
 rw [← hn] at hsz hfin hopen hd17 hd1 k7
 obtain ⟨x0, x1, x2, x3, x4, x5, x6, x7⟩ := x
 dsimp only at *
 subst hL
 replace hLn := Lib.hid hLn
 replace hbox := Lib.hid hbox
 replace hb0 := Lib.hid hb0
 clear hn
 go_enter Try.func63, Try.ntmps63
 go_wp2_with fail
 with_reducible refine hsz.mono ?_
 rintro e w1 ⟨rfl, hb1⟩
 have hbox1 := hrow_keep hbox.out hb1
 obtain ⟨d0, d1, d2, d3, d4, d5, d6, d7, df⟩ := row8_cells w1 _ _ _ _ _ _ _ _ _ _ hbox1
 have hblt := lt_of_row hbox1
 have hbel : Hid (Below w.heap.size w w1) := Lib.hid (below_to hb0.out hb1)
 replace hbox1 := Lib.hid hbox1
 clear hsz hb1 hbox
 have hnd' := hnd w1
 rw [if_pos ⟨k1, k2, k3, k4⟩, if_pos ⟨k1, k2, k3, k4⟩] at hnd'
 have hbk' := hbk w1
 have hnb : (-9223372036854775808 : Int) ≤ 2 + 2 * (L : Int) + x3 ∧ 2 + 2 * (L : Int) + x3 ≤ 2000 := by omega
 have hk8 : ¬ bk < 2 + 2 * (L : Int) + x3 := by omega
 generalize 2 + 2 * (L : Int) + x3 = nd at *
 clear hnd hbk
 have hw1 : IntKind.i64.wrap (x1 + 1) = x1 + 1 := IntWalk.i64_in _ (by omega)
 have hx3 : ¬ x1 < 3 := by omega
 have hx16 : ¬ 16 < x1 := by omega
 go_wp2_with fail
 with_reducible refine hnd'.mono ?_
 rintro e wx ⟨rfl, rfl⟩
 clear hnd'
 go_upto_region 3 with (fail)
 go_cut [59] (fun c wc => c = .bool false ∧ wc = w1)
 case first =>
  rcases k7 with k7 | k7
  ·have hq1 : ((n : Int) != x1) = false := by rw [bne_eq_false_iff_eq]; exact k7
   clear k7
   go_wp2_with fail
   with_reducible refine hbk'.mono ?_
   rintro e wx ⟨rfl, rfl⟩
   go_wp2_with fail
   go_meet
   exact ⟨congrArg Value.bool (by simp [hx3, hx16, hk8]), rfl⟩
  ·have hq1 : ((n : Int) != x1) = true := by rw [bne_iff_ne]; omega
   have hq2 : ((n : Int) != x1 + 1) = false := by rw [bne_eq_false_iff_eq]; exact k7
   clear k7
   go_wp2_with fail
   with_reducible refine hbk'.mono ?_
   rintro e wx ⟨rfl, rfl⟩
   go_wp2_with fail
   go_meet
   exact ⟨congrArg Value.bool (by simp [hx3, hx16, hk8]), rfl⟩
 case rest =>
  obtain ⟨rfl, rfl⟩ := hcut
  have hbs' := fun W => hbs W
  rw [if_pos ⟨k1, k2⟩, if_pos ⟨k1, k2⟩] at hbs'
  clear hbs hbk' k7 k8 hw1 hx3 hx16
  have hmm := @run_makeMap Try.prog
  obtain ⟨W0, hW0⟩ : ∃ W0, W0 = ((wc.alloc (.map #[] 0)).alloc (.map #[] 0)).alloc (.cells #[.int .i64 x0, .int .i64 x1, .int .i64 x2, .int .i64 x3, .int .i64 (L : Int), .int .i64 x5, .int .i64 x6, .int .i64 x7, .pointer (some ⟨g, 0, none⟩), .slice none 0 0, .slice none 0 0, .map (some wc.heap.size), .map (some (wc.heap.size + 1)), .int .i64 (2 + 2 * (L : Int))] 91) := ⟨_, rfl⟩
  have hbel0 := hbel.out
  have hge := hbel0.size
  have hbW : Below wc.heap.size wc W0 := by
   rw [hW0]
   exact (((Below.refl _ _).alloc (Nat.le_refl _) _).alloc (by simp) _).alloc (by simp; omega) _
  have hszW : W0.heap.size = wc.heap.size + 3 := by rw [hW0]; simp
  have hVB0 : VB w W0 s ⟨x0, x1, x2, x3, L, x5, x6, x7⟩ g (wc.heap.size + 1 + 1) wc.heap.size (wc.heap.size + 1) 0 (.slice none 0 0) (.slice none 0 0) [] [] := by
   refine ⟨below_to hbel0 hbW, ?_, ?_, ?_, World.ownsRow_nil _ _ _ _, World.ownsRow_nil _ _ _ _, rfl, rfl, ?_, (fun b e => by cases e), (fun b e => by cases e), (fun b e => by cases e), fun b hb => ?_, fun i hi => absurd hi (by omega), fun i hi => absurd hi (by omega)⟩
   ·rw [hW0]
    have := heap_alloc_new ((wc.alloc (.map #[] 0)).alloc (.map #[] 0)) (.cells #[.int .i64 x0, .int .i64 x1, .int .i64 x2, .int .i64 x3, .int .i64 (L : Int), .int .i64 x5, .int .i64 x6, .int .i64 x7, .pointer (some ⟨g, 0, none⟩), .slice none 0 0, .slice none 0 0, .map (some wc.heap.size), .map (some (wc.heap.size + 1)), .int .i64 (2 + 2 * (L : Int))] 91)
    have e : ((wc.alloc (.map #[] 0)).alloc (.map #[] 0)).heap.size = wc.heap.size + 1 + 1 := by simp
    rw [e] at this
    rw [this]
    unfold vbR
    dsimp only
    rw [Int.toNat_natCast]
    rfl
   ·rw [hW0]
    exact (MapSet.made wc).of_block ((((Below.refl _ _).alloc (Nat.le_refl _) _).alloc (by simp) _).block _ (by simp))
   ·rw [hW0]
    have := MapSet.made (kv := slotK) (sm := smallP) (uv := unitV) (wc.alloc (.map #[] 0))
    have e : (wc.alloc (.map #[] 0)).heap.size = wc.heap.size + 1 := by simp
    rw [e] at this
    exact this.of_block (((Below.refl _ _).alloc (Nat.le_refl _) _).block _ (by simp))
   ·show List.Nodup [_, _, _]
    simp only [List.nodup_cons, List.mem_cons, List.not_mem_nil, or_false, not_or, List.nodup_nil, and_true, not_false_eq_true]
    omega
   ·simp only [List.append_nil, List.mem_cons, List.not_mem_nil, or_false] at hb
    omega
  have hboxW := hrow_keep hbox1.out hbW
  have hd4 : (((wc.alloc (.map #[] 0)).alloc (.map #[] 0)).alloc (.cells #[.int .i64 x0, .int .i64 x1, .int .i64 x2, .int .i64 x3, .int .i64 (L : Int), .int .i64 x5, .int .i64 x6, .int .i64 x7, .pointer (some ⟨g, 0, none⟩), .slice none 0 0, .slice none 0 0, .map (some wc.heap.size), .map (some (wc.heap.size + 1)), .int .i64 0] 91)).cell? ⟨w.heap.size, 4, none⟩ = some (.int .i64 (L : Int)) := by
   have hb : Below wc.heap.size wc (((wc.alloc (.map #[] 0)).alloc (.map #[] 0)).alloc (.cells #[.int .i64 x0, .int .i64 x1, .int .i64 x2, .int .i64 x3, .int .i64 (L : Int), .int .i64 x5, .int .i64 x6, .int .i64 x7, .pointer (some ⟨g, 0, none⟩), .slice none 0 0, .slice none 0 0, .map (some wc.heap.size), .map (some (wc.heap.size + 1)), .int .i64 0] 91)) := (((Below.refl _ _).alloc (Nat.le_refl _) _).alloc (by simp) _).alloc (by simp; omega) _
   exact (hb.cell hblt).trans d4
  replace hVB0 := Lib.hid hVB0
  replace hboxW := Lib.hid hboxW
  replace hW0 := Lib.hid hW0
  clear hbW hbel0
  go_wp2_with fail
  with_reducible refine (hbs' _).mono ?_
  rintro e wx ⟨rfl, rfl⟩
  clear hbs'
  go_wp2_with fail
  rw [← hW0.out]
  have hvb9 : w.heap.size < wc.heap.size := hblt
  clear hd4 d0 d1 d2 d3 d4 d5 d6 d7 df hmm hW0 hbel hblt hbox1 hszW
  obtain ⟨vb, hvb⟩ : ∃ vb, vb = wc.heap.size + 1 + 1 := ⟨_, rfl⟩
  have hvbne : w.heap.size ≠ vb := by omega
  rw [← hvb] at hVB0 ⊢
  clear hvb
  go_loopw [76] (fun q wr => ∃ (k : Nat) (A1 A2 : Option Addr) (c1 c2 : Nat) (al bl : List Nat), q = .int .i64 k ∧ k ≤ n ∧ Hid (VB w wr s ⟨x0, x1, x2, x3, L, x5, x6, x7⟩ g vb wc.heap.size (wc.heap.size + 1) k (.slice A1 k c1) (.slice A2 k c2) al bl) ∧ Hid (wr.heap[w.heap.size]? = some (.cells #[.int .i64 x0, .int .i64 x1, .int .i64 x2, .int .i64 x3, .int .i64 (L : Int), .int .i64 x5, .int .i64 x6, .int .i64 x7] 53)) ∧ Hid ((Value.slice A1 k c1).ownBlock ≠ some w.heap.size ∧ (Value.slice A2 k c2).ownBlock ≠ some w.heap.size))
   (fun q _ => n - (intOf q).toNat)
  case atStart => exact ⟨0, none, none, 0, 0, [], [], by go_num, by omega, hVB0, hboxW, Lib.hid ⟨(by simp [Value.ownBlock]), (by simp [Value.ownBlock])⟩⟩
  case round =>
   clear hVB0 hboxW
   obtain ⟨k, A1, A2, c1, c2, al, bl, rfl, hk, hVB, hbox, hne⟩ := hrel
   by_cases hlk : k < n
   ·have hct := hopen.out wr k hVB.out.bel hlk
    go_wp2_with fail
    with_reducible refine hct.mono ?_
    rintro e wa ⟨a, rfl, ha, hDv, hba⟩
    have hra := hDv.row
    have hboxa := hrow_keep hbox.out hba
    have hlg := lg_open hDv L hL1.1 hL1.2 (by show 2 + 2 * L ≤ (blocksI s.sectors).toNat; rw [hbke.out]; exact hneed.out)
    have d4 := cell_of_row wa w.heap.size 4 _ _ _ hboxa
    have hblta := lt_of_row hboxa
    replace hba := Lib.hid hba
    replace hra := Lib.hid hra
    replace ha := Lib.hid ha
    clear hct hDv
    go_wp2_with fail
    with_reducible refine hlg.mono ?_
    rintro e wb ⟨l, rfl, hl, hrl, hbb2⟩
    have hboxb := hrow_keep hboxa hbb2
    have hVb := ((hVB.out.below hba.out).below hbb2)
    have hlz : al.length = k := hVb.la
    have hlz2 : bl.length = k := hVb.ll
    have hI0 : BI wb wb.drew w.heap.size (.slice A1 k c1) (.slice A2 k c2) (.slice A1 k c1) (.slice A2 k c2) (al.map ptrV) (bl.map ptrV) none none (ptrV a) (ptrV l) :=
     ⟨hVb.o1.drew, hVb.o2.drew, hVb.ne, fun b _ _ _ => rfl, Nat.le_refl _, rfl, rfl, rfl, fun b e => .inl e, fun b e => .inl e, (fun g e => by cases e), (fun g e => by cases e), hVb.bel.size⟩
    have hvm : vb ∈ vb :: wc.heap.size :: (wc.heap.size + 1) :: (al ++ bl) := by simp
    have hSk : ∀ (W : World) (v1' v2' : Value) (ys1 ys2 : List Value) (l1 l2 : Option Nat), BI wb W w.heap.size (.slice A1 k c1) (.slice A2 k c2) v1' v2' ys1 ys2 l1 l2 (ptrV a) (ptrV l) →
      (W.cell? ⟨vb, 9, none⟩ = some (.slice A1 k c1) ∧ W.cell? ⟨vb, 10, none⟩ = some (.slice A2 k c2)) ∧ W.frozen? ⟨vb, 9, none⟩ = false ∧ ∀ u, (W.setCell ⟨vb, 9, none⟩ u).cell? ⟨vb, 10, none⟩ = some (.slice A2 k c2) ∧ (W.setCell ⟨vb, 9, none⟩ u).frozen? ⟨vb, 10, none⟩ = false := fun W v1' v2' ys1 ys2 l1 l2 hI => by
     have hr := (hI.keep vb (hVb.ge vb hvm).2 (fun e => hVb.n1 vb e hvm) (fun e => hVb.n2 vb e hvm)).trans hVb.row
     refine ⟨⟨cell_of_row W vb 9 _ _ _ hr, cell_of_row W vb 10 _ _ _ hr⟩, frozen_of_row W vb 9 _ _ hr, fun u => ?_⟩
     have hr2 := (heap_setCell_same W vb 9 _ 91 u hr).trans (by rfl : _ = some (.cells (vbR ⟨x0, x1, x2, x3, L, x5, x6, x7⟩ g u (.slice A2 k c2) wc.heap.size (wc.heap.size + 1) (2 + 2 * (L : Int).toNat)) 91))
     exact ⟨cell_of_row _ vb 10 _ _ _ hr2, frozen_of_row _ vb 10 _ _ hr2⟩
    have hS0 := (hSk _ _ _ _ _ _ _ hI0).1.2
    have hS9 : wb.cell? ⟨vb, 9, none⟩ = some (.slice A1 k c1) := (hSk _ _ _ _ _ _ _ hI0).1.1
    have hstep : ∀ (W : World) (v1' v2' : Value) (l1 l2 : Option Nat), BI wb W w.heap.size (.slice A1 k c1) (.slice A2 k c2) v1' v2' (al.map ptrV ++ [ptrV a]) (bl.map ptrV ++ [ptrV l]) l1 l2 (ptrV a) (ptrV l) →
      VB w ((W.setCell ⟨vb, 9, none⟩ v1').setCell ⟨vb, 10, none⟩ v2') s ⟨x0, x1, x2, x3, L, x5, x6, x7⟩ g vb wc.heap.size (wc.heap.size + 1) (k + 1) v1' v2' (al ++ [a]) (bl ++ [l]) ∧
      ((W.setCell ⟨vb, 9, none⟩ v1').setCell ⟨vb, 10, none⟩ v2').heap[w.heap.size]? = some (.cells #[.int .i64 x0, .int .i64 x1, .int .i64 x2, .int .i64 x3, .int .i64 (L : Int), .int .i64 x5, .int .i64 x6, .int .i64 x7] 53) ∧ v1'.ownBlock ≠ some w.heap.size ∧ v2'.ownBlock ≠ some w.heap.size := fun W v1' v2' l1 l2 hI => by
     have hbs := lt_of_row hboxb
     have hbw := hI.keep w.heap.size hbs hne.out.1 hne.out.2
     refine ⟨hVB.out.step hba.out ha.out hra.out hbb2 hl (by rw [hLn.out]; exact hrl) (by rw [List.map_append, List.map_append]; exact hI), ?_, fun e => ?_, fun e => ?_⟩
     ·rw [heap_setCell_other _ ⟨vb, 10, none⟩ _ _ (fun e => hvbne e), heap_setCell_other _ ⟨vb, 9, none⟩ _ _ (fun e => hvbne e), hbw]
      exact hboxb
     ·rcases hI.s1 _ e with e | e
      ·exact hne.out.1 e
      ·omega
     ·rcases hI.s2 _ e with e | e
      ·exact hne.out.2 e
      ·omega
    have hvlt : vb < wb.heap.size := (hVb.ge vb hvm).2
    have hone : ∀ p : Nat, ∀ u ∈ [ptrV p], u.oneCell' = true := fun p u hu => by
     simp only [List.mem_singleton] at hu
     subst hu
     rfl
    have hml : (al.map ptrV).length = k := by rw [List.length_map]; exact hlz
    have hml2 : (bl.map ptrV).length = k := by rw [List.length_map]; exact hlz2
    have hOa : ∀ (W : World) (v : Value), OwnV W 54 w.heap.size v (al.map ptrV) → W.ownsRow w.heap.size 54 1 v k (al.map ptrV) := fun W v h => by
     unfold OwnV at h
     rw [hml] at h
     exact h
    have hOb : ∀ (W : World) (v : Value), OwnV W 99 w.heap.size v (bl.map ptrV) → W.ownsRow w.heap.size 99 1 v k (bl.map ptrV) := fun W v h => by
     unfold OwnV at h
     rw [hml2] at h
     exact h
    have hOa' : ∀ (W : World) (v : Value), W.ownsRow w.heap.size 54 1 v (k + 1) (al.map ptrV ++ [ptrV a]) → OwnV W 54 w.heap.size v (al.map ptrV ++ [ptrV a]) := fun W v h => by
     unfold OwnV
     rw [List.length_append, hml]
     exact h
    have hOb' : ∀ (W : World) (v : Value), W.ownsRow w.heap.size 99 1 v (k + 1) (bl.map ptrV ++ [ptrV l]) → OwnV W 99 w.heap.size v (bl.map ptrV ++ [ptrV l]) := fun W v h => by
     unfold OwnV
     rw [List.length_append, hml2]
     exact h
    have hnum : k + 1 ≤ maxLen ∧ (k + 1) * 8 ≤ 140737488355328 := ⟨by simp [maxLen]; omega, by omega⟩
    have hI := Lib.hid hI0
    replace hSk := Lib.hid hSk
    replace hstep := Lib.hid hstep
    replace hone := Lib.hid hone
    replace hOa := Lib.hid hOa
    replace hOb := Lib.hid hOb
    replace hOa' := Lib.hid hOa'
    replace hOb' := Lib.hid hOb'
    replace hnum := Lib.hid hnum
    clear hlg d4 hblta hboxa hboxb hVb hlz hlz2 hvm hml hml2 hl hrl hbb2 hI0
    go_wp2_with fail
    refine wp_region_held_tail (S := (fun W => W.cell? ⟨vb, 10, none⟩ = some (.slice A2 k c2))) 19 (by kernel_rfl) (by decide) ?_ (fun hHeld => ?_)
    ·(try dsimp only)
     exact hS0
    refine tkT 0 ?_
    refine tkT 1 ?_
    refine tkT 2 ?_
    refine tkT 3 ?_
    refine tkT 4 ?_
    refine tkT 6 ?_
    refine tkT 9 ?_
    refine tkT 10 ?_
    refine tkT 11 ?_
    refine tkT 12 ?_
    refine tkT 13 ?_
    refine wt_ready (rs := [5, 7, 14]) (by kernel_rfl) (by simp) (by decide) ?_
    refine AllReadyT.cons (o := ⟨_, _, _, _, _, _⟩) rfl (fun K hK => ?_) (AllReadyT.cons (o := ⟨_, _, _, _, _, _⟩) rfl (fun K hK => ?_) (AllReadyT.cons (o := ⟨_, _, _, _, _, _⟩) rfl (fun K hK => ?_) AllReadyT.nil))
    ·
     have hz5 := (hSk.out _ _ _ _ _ _ _ hI.out).1.1
     go_simp
     clear hz5
     refine hK.out _ _ ?_ (fun hHeld2 => ?_)
     ·(try dsimp only)
      first | exact (hSk.out _ _ _ _ _ _ _ hI.out).1.2 | exact hS18
     clear hK K
     replace hHeld := hHeld2
     clear hHeld2
     (try simp only [pA, pN, pB, pC, pD])
     refine wt_ready (rs := [7, 14]) (by kernel_rfl) (by simp) (by decide) ?_
     refine AllReadyT.cons (o := ⟨_, _, _, _, _, _⟩) rfl (fun K hK => ?_) (AllReadyT.cons (o := ⟨_, _, _, _, _, _⟩) rfl (fun K hK => ?_) AllReadyT.nil)
     ·
      go_simp
      replace hI := Lib.hid (hI.out.alloc1 54)
      refine hK.out _ _ ?_ (fun hHeld2 => ?_)
      ·(try dsimp only)
       first | exact (hSk.out _ _ _ _ _ _ _ hI.out).1.2 | exact hS18
      clear hK K
      replace hHeld := hHeld2
      clear hHeld2
      (try simp only [pA, pN, pB, pC, pD])
      refine wt_ready (rs := [8, 14]) (by kernel_rfl) (by simp) (by decide) ?_
      refine AllReadyT.cons (o := ⟨_, _, _, _, _, _⟩) rfl (fun K hK => ?_) (AllReadyT.cons (o := ⟨_, _, _, _, _, _⟩) rfl (fun K hK => ?_) AllReadyT.nil)
      ·
       refine step_append_at (by rfl) _ _ 86 rfl w.heap.size 54 (.pointer none) 1 8 Try.underlying86 Try.infoPDev rfl (by omega) (.slice A1 k c1) k (al.map ptrV) [ptrV a] (some ⟨_, 0, none⟩) 1 1 rfl rfl (hOa.out _ _ hI.out.o1) (hI.out.q1 _ (by simp)).1 (hone.out a) rfl hnum.out.1 hnum.out.2 (Nat.le_trans hI.out.b0 hI.out.size) ?_
       intro v8 w8 ho8 hg8 hw8
       replace hI := Lib.hid (hI.out.app1 (hOa'.out _ _ ho8) hg8 hw8)
       obtain ⟨A8, c8, rfl, _⟩ := ownsRow_form ho8
       clear ho8 hg8 hw8
       refine hK.out _ _ ?_ (fun hHeld2 => ?_)
       ·(try dsimp only)
        first | exact (hSk.out _ _ _ _ _ _ _ hI.out).1.2 | exact hS18
       clear hK K
       replace hHeld := hHeld2
       clear hHeld2
       (try simp only [pA, pN, pB, pC, pD])
       refine rkT 14 (fun K hK => ?_)
       go_simp
       replace hI := Lib.hid (hI.out.alloc2 99)
       refine hK.out _ _ ?_ (fun hHeld2 => ?_)
       ·(try dsimp only)
        first | exact (hSk.out _ _ _ _ _ _ _ hI.out).1.2 | exact hS18
       clear hK K
       replace hHeld := hHeld2
       clear hHeld2
       (try simp only [pA, pN, pB, pC, pD])
       refine rkT 15 (fun K hK => ?_)
       refine step_append_at (by rfl) _ _ 87 rfl w.heap.size 99 (.pointer none) 1 8 Try.underlying87 Try.infoPLog rfl (by omega) (.slice A2 k c2) k (bl.map ptrV) [ptrV l] (some ⟨_, 0, none⟩) 1 1 rfl rfl (hOb.out _ _ hI.out.o2) (hI.out.q2 _ (by simp)).1 (hone.out l) rfl hnum.out.1 hnum.out.2 (Nat.le_trans hI.out.b0 hI.out.size) ?_
       intro v15 w15 ho15 hg15 hw15
       replace hI := Lib.hid (hI.out.app2 (hOb'.out _ _ ho15) hg15 hw15)
       obtain ⟨A15, c15, rfl, _⟩ := ownsRow_form ho15
       clear ho15 hg15 hw15
       refine hK.out _ _ ?_ (fun hHeld2 => ?_)
       ·(try dsimp only)
        first | exact (hSk.out _ _ _ _ _ _ _ hI.out).1.2 | exact hS18
       clear hK K
       replace hHeld := hHeld2
       clear hHeld2
       (try simp only [pA, pN, pB, pC, pD])
       refine tkT 16 ?_
       refine tkT 17 ?_
       refine rkT 18 (fun K hK => ?_)
       obtain ⟨⟨z9, z10⟩, f9, f10⟩ := hSk.out _ _ _ _ _ _ _ hI.out
       have hvl : vb < w15.heap.size := Nat.lt_of_lt_of_le hvlt hI.out.size
       have hS18 := (f10 (.slice A8 (k + 1) c8)).1
       go_simp
       refine hK.out _ _ ?_ (fun hHeld2 => ?_)
       ·(try dsimp only)
        first | exact (hSk.out _ _ _ _ _ _ _ hI.out).1.2 | exact hS18
       clear hK K
       replace hHeld := hHeld2
       clear hHeld2
       (try simp only [pA, pN, pB, pC, pD])
       refine wt_tail (by kernel_rfl) ?_
       simp only [List.drop_succ_cons, List.drop_zero]
       obtain ⟨r1, r2, r3, r4⟩ := hstep.out _ _ _ _ _ hI.out
       obtain ⟨g10, g11⟩ := f10 (.slice A8 (k + 1) c8)
       replace r1 := Lib.hid r1
       replace r2 := Lib.hid r2
       have r34 := Lib.hid (And.intro r3 r4)
       clear r3 r4 hSk hstep hI hOa hOb hOa' hOb' hone hS0 hS9 hHeld hS18 f10 f9 z9 z10
       go_wp2_with fail
       go_roundw
       case rel => exact ⟨k + 1, A8, A15, c8, c15, al ++ [a], bl ++ [l], by go_num, by omega, r1, r2, r34⟩
       case measure => simp [intOf]; omega
      ·
       go_simp
       replace hI := Lib.hid (hI.out.alloc2 99)
       refine hK.out _ _ ?_ (fun hHeld2 => ?_)
       ·(try dsimp only)
        first | exact (hSk.out _ _ _ _ _ _ _ hI.out).1.2 | exact hS18
       clear hK K
       replace hHeld := hHeld2
       clear hHeld2
       (try simp only [pA, pN, pB, pC, pD])
       refine rkT 8 (fun K hK => ?_)
       refine step_append_at (by rfl) _ _ 86 rfl w.heap.size 54 (.pointer none) 1 8 Try.underlying86 Try.infoPDev rfl (by omega) (.slice A1 k c1) k (al.map ptrV) [ptrV a] (some ⟨_, 0, none⟩) 1 1 rfl rfl (hOa.out _ _ hI.out.o1) (hI.out.q1 _ (by simp)).1 (hone.out a) rfl hnum.out.1 hnum.out.2 (Nat.le_trans hI.out.b0 hI.out.size) ?_
       intro v8 w8 ho8 hg8 hw8
       replace hI := Lib.hid (hI.out.app1 (hOa'.out _ _ ho8) hg8 hw8)
       obtain ⟨A8, c8, rfl, _⟩ := ownsRow_form ho8
       clear ho8 hg8 hw8
       refine hK.out _ _ ?_ (fun hHeld2 => ?_)
       ·(try dsimp only)
        first | exact (hSk.out _ _ _ _ _ _ _ hI.out).1.2 | exact hS18
       clear hK K
       replace hHeld := hHeld2
       clear hHeld2
       (try simp only [pA, pN, pB, pC, pD])
       refine rkT 15 (fun K hK => ?_)
       refine step_append_at (by rfl) _ _ 87 rfl w.heap.size 99 (.pointer none) 1 8 Try.underlying87 Try.infoPLog rfl (by omega) (.slice A2 k c2) k (bl.map ptrV) [ptrV l] (some ⟨_, 0, none⟩) 1 1 rfl rfl (hOb.out _ _ hI.out.o2) (hI.out.q2 _ (by simp)).1 (hone.out l) rfl hnum.out.1 hnum.out.2 (Nat.le_trans hI.out.b0 hI.out.size) ?_
       intro v15 w15 ho15 hg15 hw15
       replace hI := Lib.hid (hI.out.app2 (hOb'.out _ _ ho15) hg15 hw15)
       obtain ⟨A15, c15, rfl, _⟩ := ownsRow_form ho15
       clear ho15 hg15 hw15
       refine hK.out _ _ ?_ (fun hHeld2 => ?_)
       ·(try dsimp only)
        first | exact (hSk.out _ _ _ _ _ _ _ hI.out).1.2 | exact hS18
       clear hK K
       replace hHeld := hHeld2
       clear hHeld2
       (try simp only [pA, pN, pB, pC, pD])
       refine tkT 16 ?_
       refine tkT 17 ?_
       refine rkT 18 (fun K hK => ?_)
       obtain ⟨⟨z9, z10⟩, f9, f10⟩ := hSk.out _ _ _ _ _ _ _ hI.out
       have hvl : vb < w15.heap.size := Nat.lt_of_lt_of_le hvlt hI.out.size
       have hS18 := (f10 (.slice A8 (k + 1) c8)).1
       go_simp
       refine hK.out _ _ ?_ (fun hHeld2 => ?_)
       ·(try dsimp only)
        first | exact (hSk.out _ _ _ _ _ _ _ hI.out).1.2 | exact hS18
       clear hK K
       replace hHeld := hHeld2
       clear hHeld2
       (try simp only [pA, pN, pB, pC, pD])
       refine wt_tail (by kernel_rfl) ?_
       simp only [List.drop_succ_cons, List.drop_zero]
       obtain ⟨r1, r2, r3, r4⟩ := hstep.out _ _ _ _ _ hI.out
       obtain ⟨g10, g11⟩ := f10 (.slice A8 (k + 1) c8)
       replace r1 := Lib.hid r1
       replace r2 := Lib.hid r2
       have r34 := Lib.hid (And.intro r3 r4)
       clear r3 r4 hSk hstep hI hOa hOb hOa' hOb' hone hS0 hS9 hHeld hS18 f10 f9 z9 z10
       go_wp2_with fail
       go_roundw
       case rel => exact ⟨k + 1, A8, A15, c8, c15, al ++ [a], bl ++ [l], by go_num, by omega, r1, r2, r34⟩
       case measure => simp [intOf]; omega
     ·
      go_simp
      replace hI := Lib.hid (hI.out.alloc2 99)
      refine hK.out _ _ ?_ (fun hHeld2 => ?_)
      ·(try dsimp only)
       first | exact (hSk.out _ _ _ _ _ _ _ hI.out).1.2 | exact hS18
      clear hK K
      replace hHeld := hHeld2
      clear hHeld2
      (try simp only [pA, pN, pB, pC, pD])
      refine rkT 7 (fun K hK => ?_)
      go_simp
      replace hI := Lib.hid (hI.out.alloc1 54)
      refine hK.out _ _ ?_ (fun hHeld2 => ?_)
      ·(try dsimp only)
       first | exact (hSk.out _ _ _ _ _ _ _ hI.out).1.2 | exact hS18
      clear hK K
      replace hHeld := hHeld2
      clear hHeld2
      (try simp only [pA, pN, pB, pC, pD])
      refine rkT 8 (fun K hK => ?_)
      refine step_append_at (by rfl) _ _ 86 rfl w.heap.size 54 (.pointer none) 1 8 Try.underlying86 Try.infoPDev rfl (by omega) (.slice A1 k c1) k (al.map ptrV) [ptrV a] (some ⟨_, 0, none⟩) 1 1 rfl rfl (hOa.out _ _ hI.out.o1) (hI.out.q1 _ (by simp)).1 (hone.out a) rfl hnum.out.1 hnum.out.2 (Nat.le_trans hI.out.b0 hI.out.size) ?_
      intro v8 w8 ho8 hg8 hw8
      replace hI := Lib.hid (hI.out.app1 (hOa'.out _ _ ho8) hg8 hw8)
      obtain ⟨A8, c8, rfl, _⟩ := ownsRow_form ho8
      clear ho8 hg8 hw8
      refine hK.out _ _ ?_ (fun hHeld2 => ?_)
      ·(try dsimp only)
       first | exact (hSk.out _ _ _ _ _ _ _ hI.out).1.2 | exact hS18
      clear hK K
      replace hHeld := hHeld2
      clear hHeld2
      (try simp only [pA, pN, pB, pC, pD])
      refine rkT 15 (fun K hK => ?_)
      refine step_append_at (by rfl) _ _ 87 rfl w.heap.size 99 (.pointer none) 1 8 Try.underlying87 Try.infoPLog rfl (by omega) (.slice A2 k c2) k (bl.map ptrV) [ptrV l] (some ⟨_, 0, none⟩) 1 1 rfl rfl (hOb.out _ _ hI.out.o2) (hI.out.q2 _ (by simp)).1 (hone.out l) rfl hnum.out.1 hnum.out.2 (Nat.le_trans hI.out.b0 hI.out.size) ?_
      intro v15 w15 ho15 hg15 hw15
      replace hI := Lib.hid (hI.out.app2 (hOb'.out _ _ ho15) hg15 hw15)
      obtain ⟨A15, c15, rfl, _⟩ := ownsRow_form ho15
      clear ho15 hg15 hw15
      refine hK.out _ _ ?_ (fun hHeld2 => ?_)
      ·(try dsimp only)
       first | exact (hSk.out _ _ _ _ _ _ _ hI.out).1.2 | exact hS18
      clear hK K
      replace hHeld := hHeld2
      clear hHeld2
      (try simp only [pA, pN, pB, pC, pD])
      refine tkT 16 ?_
      refine tkT 17 ?_
      refine rkT 18 (fun K hK => ?_)
      obtain ⟨⟨z9, z10⟩, f9, f10⟩ := hSk.out _ _ _ _ _ _ _ hI.out
      have hvl : vb < w15.heap.size := Nat.lt_of_lt_of_le hvlt hI.out.size
      have hS18 := (f10 (.slice A8 (k + 1) c8)).1
      go_simp
      refine hK.out _ _ ?_ (fun hHeld2 => ?_)
      ·(try dsimp only)
       first | exact (hSk.out _ _ _ _ _ _ _ hI.out).1.2 | exact hS18
      clear hK K
      replace hHeld := hHeld2
      clear hHeld2
      (try simp only [pA, pN, pB, pC, pD])
      refine wt_tail (by kernel_rfl) ?_
      simp only [List.drop_succ_cons, List.drop_zero]
      obtain ⟨r1, r2, r3, r4⟩ := hstep.out _ _ _ _ _ hI.out
      obtain ⟨g10, g11⟩ := f10 (.slice A8 (k + 1) c8)
      replace r1 := Lib.hid r1
      replace r2 := Lib.hid r2
      have r34 := Lib.hid (And.intro r3 r4)
      clear r3 r4 hSk hstep hI hOa hOb hOa' hOb' hone hS0 hS9 hHeld hS18 f10 f9 z9 z10
      go_wp2_with fail
      go_roundw
      case rel => exact ⟨k + 1, A8, A15, c8, c15, al ++ [a], bl ++ [l], by go_num, by omega, r1, r2, r34⟩
      case measure => simp [intOf]; omega
    ·
     go_simp
     replace hI := Lib.hid (hI.out.alloc1 54)
     refine hK.out _ _ ?_ (fun hHeld2 => ?_)
     ·(try dsimp only)
      first | exact (hSk.out _ _ _ _ _ _ _ hI.out).1.2 | exact hS18
     clear hK K
     replace hHeld := hHeld2
     clear hHeld2
     (try simp only [pA, pN, pB, pC, pD])
     refine wt_ready (rs := [5, 14]) (by kernel_rfl) (by simp) (by decide) ?_
     refine AllReadyT.cons (o := ⟨_, _, _, _, _, _⟩) rfl (fun K hK => ?_) (AllReadyT.cons (o := ⟨_, _, _, _, _, _⟩) rfl (fun K hK => ?_) AllReadyT.nil)
     ·
      have hz5 := (hSk.out _ _ _ _ _ _ _ hI.out).1.1
      go_simp
      clear hz5
      refine hK.out _ _ ?_ (fun hHeld2 => ?_)
      ·(try dsimp only)
       first | exact (hSk.out _ _ _ _ _ _ _ hI.out).1.2 | exact hS18
      clear hK K
      replace hHeld := hHeld2
      clear hHeld2
      (try simp only [pA, pN, pB, pC, pD])
      refine wt_ready (rs := [8, 14]) (by kernel_rfl) (by simp) (by decide) ?_
      refine AllReadyT.cons (o := ⟨_, _, _, _, _, _⟩) rfl (fun K hK => ?_) (AllReadyT.cons (o := ⟨_, _, _, _, _, _⟩) rfl (fun K hK => ?_) AllReadyT.nil)
      ·
       refine step_append_at (by rfl) _ _ 86 rfl w.heap.size 54 (.pointer none) 1 8 Try.underlying86 Try.infoPDev rfl (by omega) (.slice A1 k c1) k (al.map ptrV) [ptrV a] (some ⟨_, 0, none⟩) 1 1 rfl rfl (hOa.out _ _ hI.out.o1) (hI.out.q1 _ (by simp)).1 (hone.out a) rfl hnum.out.1 hnum.out.2 (Nat.le_trans hI.out.b0 hI.out.size) ?_
       intro v8 w8 ho8 hg8 hw8
       replace hI := Lib.hid (hI.out.app1 (hOa'.out _ _ ho8) hg8 hw8)
       obtain ⟨A8, c8, rfl, _⟩ := ownsRow_form ho8
       clear ho8 hg8 hw8
       refine hK.out _ _ ?_ (fun hHeld2 => ?_)
       ·(try dsimp only)
        first | exact (hSk.out _ _ _ _ _ _ _ hI.out).1.2 | exact hS18
       clear hK K
       replace hHeld := hHeld2
       clear hHeld2
       (try simp only [pA, pN, pB, pC, pD])
       refine rkT 14 (fun K hK => ?_)
       go_simp
       replace hI := Lib.hid (hI.out.alloc2 99)
       refine hK.out _ _ ?_ (fun hHeld2 => ?_)
       ·(try dsimp only)
        first | exact (hSk.out _ _ _ _ _ _ _ hI.out).1.2 | exact hS18
       clear hK K
       replace hHeld := hHeld2
       clear hHeld2
       (try simp only [pA, pN, pB, pC, pD])
       refine rkT 15 (fun K hK => ?_)
       refine step_append_at (by rfl) _ _ 87 rfl w.heap.size 99 (.pointer none) 1 8 Try.underlying87 Try.infoPLog rfl (by omega) (.slice A2 k c2) k (bl.map ptrV) [ptrV l] (some ⟨_, 0, none⟩) 1 1 rfl rfl (hOb.out _ _ hI.out.o2) (hI.out.q2 _ (by simp)).1 (hone.out l) rfl hnum.out.1 hnum.out.2 (Nat.le_trans hI.out.b0 hI.out.size) ?_
       intro v15 w15 ho15 hg15 hw15
       replace hI := Lib.hid (hI.out.app2 (hOb'.out _ _ ho15) hg15 hw15)
       obtain ⟨A15, c15, rfl, _⟩ := ownsRow_form ho15
       clear ho15 hg15 hw15
       refine hK.out _ _ ?_ (fun hHeld2 => ?_)
       ·(try dsimp only)
        first | exact (hSk.out _ _ _ _ _ _ _ hI.out).1.2 | exact hS18
       clear hK K
       replace hHeld := hHeld2
       clear hHeld2
       (try simp only [pA, pN, pB, pC, pD])
       refine tkT 16 ?_
       refine tkT 17 ?_
       refine rkT 18 (fun K hK => ?_)
       obtain ⟨⟨z9, z10⟩, f9, f10⟩ := hSk.out _ _ _ _ _ _ _ hI.out
       have hvl : vb < w15.heap.size := Nat.lt_of_lt_of_le hvlt hI.out.size
       have hS18 := (f10 (.slice A8 (k + 1) c8)).1
       go_simp
       refine hK.out _ _ ?_ (fun hHeld2 => ?_)
       ·(try dsimp only)
        first | exact (hSk.out _ _ _ _ _ _ _ hI.out).1.2 | exact hS18
       clear hK K
       replace hHeld := hHeld2
       clear hHeld2
       (try simp only [pA, pN, pB, pC, pD])
       refine wt_tail (by kernel_rfl) ?_
       simp only [List.drop_succ_cons, List.drop_zero]
       obtain ⟨r1, r2, r3, r4⟩ := hstep.out _ _ _ _ _ hI.out
       obtain ⟨g10, g11⟩ := f10 (.slice A8 (k + 1) c8)
       replace r1 := Lib.hid r1
       replace r2 := Lib.hid r2
       have r34 := Lib.hid (And.intro r3 r4)
       clear r3 r4 hSk hstep hI hOa hOb hOa' hOb' hone hS0 hS9 hHeld hS18 f10 f9 z9 z10
       go_wp2_with fail
       go_roundw
       case rel => exact ⟨k + 1, A8, A15, c8, c15, al ++ [a], bl ++ [l], by go_num, by omega, r1, r2, r34⟩
       case measure => simp [intOf]; omega
      ·
       go_simp
       replace hI := Lib.hid (hI.out.alloc2 99)
       refine hK.out _ _ ?_ (fun hHeld2 => ?_)
       ·(try dsimp only)
        first | exact (hSk.out _ _ _ _ _ _ _ hI.out).1.2 | exact hS18
       clear hK K
       replace hHeld := hHeld2
       clear hHeld2
       (try simp only [pA, pN, pB, pC, pD])
       refine rkT 8 (fun K hK => ?_)
       refine step_append_at (by rfl) _ _ 86 rfl w.heap.size 54 (.pointer none) 1 8 Try.underlying86 Try.infoPDev rfl (by omega) (.slice A1 k c1) k (al.map ptrV) [ptrV a] (some ⟨_, 0, none⟩) 1 1 rfl rfl (hOa.out _ _ hI.out.o1) (hI.out.q1 _ (by simp)).1 (hone.out a) rfl hnum.out.1 hnum.out.2 (Nat.le_trans hI.out.b0 hI.out.size) ?_
       intro v8 w8 ho8 hg8 hw8
       replace hI := Lib.hid (hI.out.app1 (hOa'.out _ _ ho8) hg8 hw8)
       obtain ⟨A8, c8, rfl, _⟩ := ownsRow_form ho8
       clear ho8 hg8 hw8
       refine hK.out _ _ ?_ (fun hHeld2 => ?_)
       ·(try dsimp only)
        first | exact (hSk.out _ _ _ _ _ _ _ hI.out).1.2 | exact hS18
       clear hK K
       replace hHeld := hHeld2
       clear hHeld2
       (try simp only [pA, pN, pB, pC, pD])
       refine rkT 15 (fun K hK => ?_)
       refine step_append_at (by rfl) _ _ 87 rfl w.heap.size 99 (.pointer none) 1 8 Try.underlying87 Try.infoPLog rfl (by omega) (.slice A2 k c2) k (bl.map ptrV) [ptrV l] (some ⟨_, 0, none⟩) 1 1 rfl rfl (hOb.out _ _ hI.out.o2) (hI.out.q2 _ (by simp)).1 (hone.out l) rfl hnum.out.1 hnum.out.2 (Nat.le_trans hI.out.b0 hI.out.size) ?_
       intro v15 w15 ho15 hg15 hw15
       replace hI := Lib.hid (hI.out.app2 (hOb'.out _ _ ho15) hg15 hw15)
       obtain ⟨A15, c15, rfl, _⟩ := ownsRow_form ho15
       clear ho15 hg15 hw15
       refine hK.out _ _ ?_ (fun hHeld2 => ?_)
       ·(try dsimp only)
        first | exact (hSk.out _ _ _ _ _ _ _ hI.out).1.2 | exact hS18
       clear hK K
       replace hHeld := hHeld2
       clear hHeld2
       (try simp only [pA, pN, pB, pC, pD])
       refine tkT 16 ?_
       refine tkT 17 ?_
       refine rkT 18 (fun K hK => ?_)
       obtain ⟨⟨z9, z10⟩, f9, f10⟩ := hSk.out _ _ _ _ _ _ _ hI.out
       have hvl : vb < w15.heap.size := Nat.lt_of_lt_of_le hvlt hI.out.size
       have hS18 := (f10 (.slice A8 (k + 1) c8)).1
       go_simp
       refine hK.out _ _ ?_ (fun hHeld2 => ?_)
       ·(try dsimp only)
        first | exact (hSk.out _ _ _ _ _ _ _ hI.out).1.2 | exact hS18
       clear hK K
       replace hHeld := hHeld2
       clear hHeld2
       (try simp only [pA, pN, pB, pC, pD])
       refine wt_tail (by kernel_rfl) ?_
       simp only [List.drop_succ_cons, List.drop_zero]
       obtain ⟨r1, r2, r3, r4⟩ := hstep.out _ _ _ _ _ hI.out
       obtain ⟨g10, g11⟩ := f10 (.slice A8 (k + 1) c8)
       replace r1 := Lib.hid r1
       replace r2 := Lib.hid r2
       have r34 := Lib.hid (And.intro r3 r4)
       clear r3 r4 hSk hstep hI hOa hOb hOa' hOb' hone hS0 hS9 hHeld hS18 f10 f9 z9 z10
       go_wp2_with fail
       go_roundw
       case rel => exact ⟨k + 1, A8, A15, c8, c15, al ++ [a], bl ++ [l], by go_num, by omega, r1, r2, r34⟩
       case measure => simp [intOf]; omega
     ·
      go_simp
      replace hI := Lib.hid (hI.out.alloc2 99)
      refine hK.out _ _ ?_ (fun hHeld2 => ?_)
      ·(try dsimp only)
       first | exact (hSk.out _ _ _ _ _ _ _ hI.out).1.2 | exact hS18
      clear hK K
      replace hHeld := hHeld2
      clear hHeld2
      (try simp only [pA, pN, pB, pC, pD])
      refine rkT 5 (fun K hK => ?_)
      have hz5 := (hSk.out _ _ _ _ _ _ _ hI.out).1.1
      go_simp
      clear hz5
      refine hK.out _ _ ?_ (fun hHeld2 => ?_)
      ·(try dsimp only)
       first | exact (hSk.out _ _ _ _ _ _ _ hI.out).1.2 | exact hS18
      clear hK K
      replace hHeld := hHeld2
      clear hHeld2
      (try simp only [pA, pN, pB, pC, pD])
      refine rkT 8 (fun K hK => ?_)
      refine step_append_at (by rfl) _ _ 86 rfl w.heap.size 54 (.pointer none) 1 8 Try.underlying86 Try.infoPDev rfl (by omega) (.slice A1 k c1) k (al.map ptrV) [ptrV a] (some ⟨_, 0, none⟩) 1 1 rfl rfl (hOa.out _ _ hI.out.o1) (hI.out.q1 _ (by simp)).1 (hone.out a) rfl hnum.out.1 hnum.out.2 (Nat.le_trans hI.out.b0 hI.out.size) ?_
      intro v8 w8 ho8 hg8 hw8
      replace hI := Lib.hid (hI.out.app1 (hOa'.out _ _ ho8) hg8 hw8)
      obtain ⟨A8, c8, rfl, _⟩ := ownsRow_form ho8
      clear ho8 hg8 hw8
      refine hK.out _ _ ?_ (fun hHeld2 => ?_)
      ·(try dsimp only)
       first | exact (hSk.out _ _ _ _ _ _ _ hI.out).1.2 | exact hS18
      clear hK K
      replace hHeld := hHeld2
      clear hHeld2
      (try simp only [pA, pN, pB, pC, pD])
      refine rkT 15 (fun K hK => ?_)
      refine step_append_at (by rfl) _ _ 87 rfl w.heap.size 99 (.pointer none) 1 8 Try.underlying87 Try.infoPLog rfl (by omega) (.slice A2 k c2) k (bl.map ptrV) [ptrV l] (some ⟨_, 0, none⟩) 1 1 rfl rfl (hOb.out _ _ hI.out.o2) (hI.out.q2 _ (by simp)).1 (hone.out l) rfl hnum.out.1 hnum.out.2 (Nat.le_trans hI.out.b0 hI.out.size) ?_
      intro v15 w15 ho15 hg15 hw15
      replace hI := Lib.hid (hI.out.app2 (hOb'.out _ _ ho15) hg15 hw15)
      obtain ⟨A15, c15, rfl, _⟩ := ownsRow_form ho15
      clear ho15 hg15 hw15
      refine hK.out _ _ ?_ (fun hHeld2 => ?_)
      ·(try dsimp only)
       first | exact (hSk.out _ _ _ _ _ _ _ hI.out).1.2 | exact hS18
      clear hK K
      replace hHeld := hHeld2
      clear hHeld2
      (try simp only [pA, pN, pB, pC, pD])
      refine tkT 16 ?_
      refine tkT 17 ?_
      refine rkT 18 (fun K hK => ?_)
      obtain ⟨⟨z9, z10⟩, f9, f10⟩ := hSk.out _ _ _ _ _ _ _ hI.out
      have hvl : vb < w15.heap.size := Nat.lt_of_lt_of_le hvlt hI.out.size
      have hS18 := (f10 (.slice A8 (k + 1) c8)).1
      go_simp
      refine hK.out _ _ ?_ (fun hHeld2 => ?_)
      ·(try dsimp only)
       first | exact (hSk.out _ _ _ _ _ _ _ hI.out).1.2 | exact hS18
      clear hK K
      replace hHeld := hHeld2
      clear hHeld2
      (try simp only [pA, pN, pB, pC, pD])
      refine wt_tail (by kernel_rfl) ?_
      simp only [List.drop_succ_cons, List.drop_zero]
      obtain ⟨r1, r2, r3, r4⟩ := hstep.out _ _ _ _ _ hI.out
      obtain ⟨g10, g11⟩ := f10 (.slice A8 (k + 1) c8)
      replace r1 := Lib.hid r1
      replace r2 := Lib.hid r2
      have r34 := Lib.hid (And.intro r3 r4)
      clear r3 r4 hSk hstep hI hOa hOb hOa' hOb' hone hS0 hS9 hHeld hS18 f10 f9 z9 z10
      go_wp2_with fail
      go_roundw
      case rel => exact ⟨k + 1, A8, A15, c8, c15, al ++ [a], bl ++ [l], by go_num, by omega, r1, r2, r34⟩
      case measure => simp [intOf]; omega
    ·
     go_simp
     replace hI := Lib.hid (hI.out.alloc2 99)
     refine hK.out _ _ ?_ (fun hHeld2 => ?_)
     ·(try dsimp only)
      first | exact (hSk.out _ _ _ _ _ _ _ hI.out).1.2 | exact hS18
     clear hK K
     replace hHeld := hHeld2
     clear hHeld2
     (try simp only [pA, pN, pB, pC, pD])
     refine wt_ready (rs := [5, 7]) (by kernel_rfl) (by simp) (by decide) ?_
     refine AllReadyT.cons (o := ⟨_, _, _, _, _, _⟩) rfl (fun K hK => ?_) (AllReadyT.cons (o := ⟨_, _, _, _, _, _⟩) rfl (fun K hK => ?_) AllReadyT.nil)
     ·
      have hz5 := (hSk.out _ _ _ _ _ _ _ hI.out).1.1
      go_simp
      clear hz5
      refine hK.out _ _ ?_ (fun hHeld2 => ?_)
      ·(try dsimp only)
       first | exact (hSk.out _ _ _ _ _ _ _ hI.out).1.2 | exact hS18
      clear hK K
      replace hHeld := hHeld2
      clear hHeld2
      (try simp only [pA, pN, pB, pC, pD])
      refine rkT 7 (fun K hK => ?_)
      go_simp
      replace hI := Lib.hid (hI.out.alloc1 54)
      refine hK.out _ _ ?_ (fun hHeld2 => ?_)
      ·(try dsimp only)
       first | exact (hSk.out _ _ _ _ _ _ _ hI.out).1.2 | exact hS18
      clear hK K
      replace hHeld := hHeld2
      clear hHeld2
      (try simp only [pA, pN, pB, pC, pD])
      refine rkT 8 (fun K hK => ?_)
      refine step_append_at (by rfl) _ _ 86 rfl w.heap.size 54 (.pointer none) 1 8 Try.underlying86 Try.infoPDev rfl (by omega) (.slice A1 k c1) k (al.map ptrV) [ptrV a] (some ⟨_, 0, none⟩) 1 1 rfl rfl (hOa.out _ _ hI.out.o1) (hI.out.q1 _ (by simp)).1 (hone.out a) rfl hnum.out.1 hnum.out.2 (Nat.le_trans hI.out.b0 hI.out.size) ?_
      intro v8 w8 ho8 hg8 hw8
      replace hI := Lib.hid (hI.out.app1 (hOa'.out _ _ ho8) hg8 hw8)
      obtain ⟨A8, c8, rfl, _⟩ := ownsRow_form ho8
      clear ho8 hg8 hw8
      refine hK.out _ _ ?_ (fun hHeld2 => ?_)
      ·(try dsimp only)
       first | exact (hSk.out _ _ _ _ _ _ _ hI.out).1.2 | exact hS18
      clear hK K
      replace hHeld := hHeld2
      clear hHeld2
      (try simp only [pA, pN, pB, pC, pD])
      refine rkT 15 (fun K hK => ?_)
      refine step_append_at (by rfl) _ _ 87 rfl w.heap.size 99 (.pointer none) 1 8 Try.underlying87 Try.infoPLog rfl (by omega) (.slice A2 k c2) k (bl.map ptrV) [ptrV l] (some ⟨_, 0, none⟩) 1 1 rfl rfl (hOb.out _ _ hI.out.o2) (hI.out.q2 _ (by simp)).1 (hone.out l) rfl hnum.out.1 hnum.out.2 (Nat.le_trans hI.out.b0 hI.out.size) ?_
      intro v15 w15 ho15 hg15 hw15
      replace hI := Lib.hid (hI.out.app2 (hOb'.out _ _ ho15) hg15 hw15)
      obtain ⟨A15, c15, rfl, _⟩ := ownsRow_form ho15
      clear ho15 hg15 hw15
      refine hK.out _ _ ?_ (fun hHeld2 => ?_)
      ·(try dsimp only)
       first | exact (hSk.out _ _ _ _ _ _ _ hI.out).1.2 | exact hS18
      clear hK K
      replace hHeld := hHeld2
      clear hHeld2
      (try simp only [pA, pN, pB, pC, pD])
      refine tkT 16 ?_
      refine tkT 17 ?_
      refine rkT 18 (fun K hK => ?_)
      obtain ⟨⟨z9, z10⟩, f9, f10⟩ := hSk.out _ _ _ _ _ _ _ hI.out
      have hvl : vb < w15.heap.size := Nat.lt_of_lt_of_le hvlt hI.out.size
      have hS18 := (f10 (.slice A8 (k + 1) c8)).1
      go_simp
      refine hK.out _ _ ?_ (fun hHeld2 => ?_)
      ·(try dsimp only)
       first | exact (hSk.out _ _ _ _ _ _ _ hI.out).1.2 | exact hS18
      clear hK K
      replace hHeld := hHeld2
      clear hHeld2
      (try simp only [pA, pN, pB, pC, pD])
      refine wt_tail (by kernel_rfl) ?_
      simp only [List.drop_succ_cons, List.drop_zero]
      obtain ⟨r1, r2, r3, r4⟩ := hstep.out _ _ _ _ _ hI.out
      obtain ⟨g10, g11⟩ := f10 (.slice A8 (k + 1) c8)
      replace r1 := Lib.hid r1
      replace r2 := Lib.hid r2
      have r34 := Lib.hid (And.intro r3 r4)
      clear r3 r4 hSk hstep hI hOa hOb hOa' hOb' hone hS0 hS9 hHeld hS18 f10 f9 z9 z10
      go_wp2_with fail
      go_roundw
      case rel => exact ⟨k + 1, A8, A15, c8, c15, al ++ [a], bl ++ [l], by go_num, by omega, r1, r2, r34⟩
      case measure => simp [intOf]; omega
     ·
      go_simp
      replace hI := Lib.hid (hI.out.alloc1 54)
      refine hK.out _ _ ?_ (fun hHeld2 => ?_)
      ·(try dsimp only)
       first | exact (hSk.out _ _ _ _ _ _ _ hI.out).1.2 | exact hS18
      clear hK K
      replace hHeld := hHeld2
      clear hHeld2
      (try simp only [pA, pN, pB, pC, pD])
      refine rkT 5 (fun K hK => ?_)
      have hz5 := (hSk.out _ _ _ _ _ _ _ hI.out).1.1
      go_simp
      clear hz5
      refine hK.out _ _ ?_ (fun hHeld2 => ?_)
      ·(try dsimp only)
       first | exact (hSk.out _ _ _ _ _ _ _ hI.out).1.2 | exact hS18
      clear hK K
      replace hHeld := hHeld2
      clear hHeld2
      (try simp only [pA, pN, pB, pC, pD])
      refine rkT 8 (fun K hK => ?_)
      refine step_append_at (by rfl) _ _ 86 rfl w.heap.size 54 (.pointer none) 1 8 Try.underlying86 Try.infoPDev rfl (by omega) (.slice A1 k c1) k (al.map ptrV) [ptrV a] (some ⟨_, 0, none⟩) 1 1 rfl rfl (hOa.out _ _ hI.out.o1) (hI.out.q1 _ (by simp)).1 (hone.out a) rfl hnum.out.1 hnum.out.2 (Nat.le_trans hI.out.b0 hI.out.size) ?_
      intro v8 w8 ho8 hg8 hw8
      replace hI := Lib.hid (hI.out.app1 (hOa'.out _ _ ho8) hg8 hw8)
      obtain ⟨A8, c8, rfl, _⟩ := ownsRow_form ho8
      clear ho8 hg8 hw8
      refine hK.out _ _ ?_ (fun hHeld2 => ?_)
      ·(try dsimp only)
       first | exact (hSk.out _ _ _ _ _ _ _ hI.out).1.2 | exact hS18
      clear hK K
      replace hHeld := hHeld2
      clear hHeld2
      (try simp only [pA, pN, pB, pC, pD])
      refine rkT 15 (fun K hK => ?_)
      refine step_append_at (by rfl) _ _ 87 rfl w.heap.size 99 (.pointer none) 1 8 Try.underlying87 Try.infoPLog rfl (by omega) (.slice A2 k c2) k (bl.map ptrV) [ptrV l] (some ⟨_, 0, none⟩) 1 1 rfl rfl (hOb.out _ _ hI.out.o2) (hI.out.q2 _ (by simp)).1 (hone.out l) rfl hnum.out.1 hnum.out.2 (Nat.le_trans hI.out.b0 hI.out.size) ?_
      intro v15 w15 ho15 hg15 hw15
      replace hI := Lib.hid (hI.out.app2 (hOb'.out _ _ ho15) hg15 hw15)
      obtain ⟨A15, c15, rfl, _⟩ := ownsRow_form ho15
      clear ho15 hg15 hw15
      refine hK.out _ _ ?_ (fun hHeld2 => ?_)
      ·(try dsimp only)
       first | exact (hSk.out _ _ _ _ _ _ _ hI.out).1.2 | exact hS18
      clear hK K
      replace hHeld := hHeld2
      clear hHeld2
      (try simp only [pA, pN, pB, pC, pD])
      refine tkT 16 ?_
      refine tkT 17 ?_
      refine rkT 18 (fun K hK => ?_)
      obtain ⟨⟨z9, z10⟩, f9, f10⟩ := hSk.out _ _ _ _ _ _ _ hI.out
      have hvl : vb < w15.heap.size := Nat.lt_of_lt_of_le hvlt hI.out.size
      have hS18 := (f10 (.slice A8 (k + 1) c8)).1
      go_simp
      refine hK.out _ _ ?_ (fun hHeld2 => ?_)
      ·(try dsimp only)
       first | exact (hSk.out _ _ _ _ _ _ _ hI.out).1.2 | exact hS18
      clear hK K
      replace hHeld := hHeld2
      clear hHeld2
      (try simp only [pA, pN, pB, pC, pD])
      refine wt_tail (by kernel_rfl) ?_
      simp only [List.drop_succ_cons, List.drop_zero]
      obtain ⟨r1, r2, r3, r4⟩ := hstep.out _ _ _ _ _ hI.out
      obtain ⟨g10, g11⟩ := f10 (.slice A8 (k + 1) c8)
      replace r1 := Lib.hid r1
      replace r2 := Lib.hid r2
      have r34 := Lib.hid (And.intro r3 r4)
      clear r3 r4 hSk hstep hI hOa hOb hOa' hOb' hone hS0 hS9 hHeld hS18 f10 f9 z9 z10
      go_wp2_with fail
      go_roundw
      case rel => exact ⟨k + 1, A8, A15, c8, c15, al ++ [a], bl ++ [l], by go_num, by omega, r1, r2, r34⟩
      case measure => simp [intOf]; omega
   ·obtain rfl : k = n := by omega
    have hfin2 := Lib.hid (hfin.out wr _ _ _ _ _ _ _ hVB.out)
    clear hfin hVB hbox hne hopen
    go_wp2_with fail
    go_ret2
    exact hfin2.out
end
end
section
open Go.RowKit
section
variable {X : Nat → Prop} {F : VolF} {g : Nat} {w w' : World} {s : ShM} {V : VolM}
theorem bytes_of_str (W : World) (bs : Bytes) (hl : bs.length ≤ 9223372036854775807) : ∃ c W', (convert 9 32 (.string ⟨bs.toArray⟩)).run Try.prog W = .ok (.slice (some ⟨W.heap.size, 0, none⟩) bs.length c) W' ∧ Rd W' (some ⟨W.heap.size, 0, none⟩) bs ∧ Below W.heap.size W W' ∧ W'.heap.size = W.heap.size + 1 := by
 refine ⟨_, _, Lib.run_convert_string_bytes W 9 32 5 ⟨bs.toArray⟩ Try.underlying9 Try.underlying32 Try.underlying5, ⟨hl, (fun e => by cases e), fun ad e i hi => ?_⟩, ⟨rfl, rfl, rfl, by rw [Lib.bytesWorld_size]; omega, fun k hk => Lib.bytesWorld_at_old W _ _ k hk⟩, Lib.bytesWorld_size _ _ _⟩
 injection e with e
 subst e
 have e2 : (⟨W.heap.size, 0, none⟩ : Addr).add i = ⟨W.heap.size, i, none⟩ := by unfold Addr.add; split <;> simp_all
 have h1 : i < (⟨bs.toArray⟩ : ByteArray).size := by simpa [ByteArray.size] using hi
 rw [e2, Lib.bytesWorld_cell W 5 ⟨bs.toArray⟩ i h1]
 simp [List.getD, hi]
theorem ra_dread (h : VolX X F w s V) (hroom : Room 1000000000000 s) {i : Nat} (hi : i < V.devs.length) (n : Int) (hn0 : -9223372036854775808 ≤ n) (hn1 : n ≤ 9223372036854775807) :
  Calls Try.prog 70 #[.pointer (some ⟨F.a i, 0, none⟩), .int .i64 n] w (BytesPost X F w ((devRead s (V.dev i) n).1, (devRead s (V.dev i) n).2.1, (devRead s (V.dev i) n).2.2, V)) := by
 refine (su_read (h.toDev hi) hroom n hn0 hn1).mono ?_
 rintro e w' ⟨v, rfl, hf, hD, hK⟩
 obtain ⟨h1, h2⟩ := h.read hi hf hD hK
 exact GetPost.bytes ⟨v, rfl, hf, h1, h2⟩ (by have := devRead_le h.sh.ok (V.dev i) n; omega)
theorem ra_ddead (h : VolX X F w s V) {i : Nat} (hi : i < V.devs.length) : Calls Try.prog 69 #[.pointer (some ⟨F.a i, 0, none⟩)] w fun e w' => e = .returned (.bool (s.disk i).dead) ∧ ∃ n, w' = w.drewN n := by
 have := su_dead (h.toDev hi)
 rw [h.ok.dd i hi] at this
 exact this
theorem zeroIn_step (s : ShM) (V : VolM) (d n f : Nat) : zeroIn s V d n (f + 1) = if (devRead s (V.dev d) n).2.1 = 0 ∧ (devRead s (V.dev d) n).1 = zeroSec then zeroIn (devRead s (V.dev d) n).2.2 V d (n + 1) f else if (devRead s (V.dev d) n).2.1 = 0 ∨ (devRead s (V.dev d) n).2.1 = 5 then (if (volWr (devRead s (V.dev d) n).2.2 V d n zeroSec).1 = 0 then zeroIn (volWr (devRead s (V.dev d) n).2.2 V d n zeroSec).2.1 (volWr (devRead s (V.dev d) n).2.2 V d n zeroSec).2.2 d (n + 1) f else volWr (devRead s (V.dev d) n).2.2 V d n zeroSec) else ((devRead s (V.dev d) n).2.1, (devRead s (V.dev d) n).2.2, V) := rfl
theorem zeroFrom_step (s : ShM) (V : VolM) (d f : Nat) : zeroFrom s V d (f + 1) = if (zeroIn s V d 0 (V.base + V.stripes)).1 = 0 then zeroFrom (zeroIn s V d 0 (V.base + V.stripes)).2.1 (zeroIn s V d 0 (V.base + V.stripes)).2.2 (d + 1) f else zeroIn s V d 0 (V.base + V.stripes) := rfl
def MakePost (X : Nat → Prop) (g : Nat) (w : World) (r : Int × ShM × VolM) (e : Ending) (w' : World) : Prop :=
 (r.1 = 0 → ∃ F : VolF, e = .returned (.tuple #[.pointer (some ⟨F.v, 0, none⟩), .int .i64 0]) ∧ F.g = g ∧ VolX X F w' r.2.1 r.2.2) ∧
 (r.1 ≠ 0 → e = .returned (.tuple #[.pointer none, .int .i64 r.1]) ∧ ShX X g w' r.2.1) ∧ Kept X w w'
theorem VolX.shelf (h : VolX X F w s V) : ShX X F.g w s := h.sh.mono fun b hb => .inl hb
theorem anyDead_none {s : ShM} (h : ∀ k, k < s.disks.length → (s.disk k).dead = false) : anyDead s = false := by
 unfold anyDead
 rw [List.any_eq_false]
 intro d hd
 obtain ⟨k, hk, rfl⟩ := List.getElem_of_mem hd
 have := h k hk
 rw [disk_getD' hk] at this
 simp [this]
where
 disk_getD' {s : ShM} {d : Nat} (hd : d < s.disks.length) : s.disk d = s.disks[d] := by simp [ShM.disk, List.getD, hd]
theorem anyDead_some {s : ShM} {k : Nat} (hk : k < s.disks.length) (h : (s.disk k).dead = true) : anyDead s = true := by
 unfold anyDead
 rw [List.any_eq_true]
 refine ⟨s.disks[k], List.getElem_mem hk, ?_⟩
 have e : s.disk k = s.disks[k] := by simp [ShM.disk, List.getD, hk]
 rw [← e]
 exact h
set_option maxHeartbeats 16000000 in
theorem ra_create (h : ShX X g w s) (hroom : Room 999999900000 s) (m st l : Int) (hb : buildOk s (newSup m st l) = true) :
  Calls Try.prog 26 #[.pointer (some ⟨g, 0, none⟩), .int .i64 m, .int .i64 st, .int .i64 l] w (MakePost X g w (volMake s (volBuild s (newSup m st l)))) := by
 obtain ⟨k1, k2, k3, k4, k5, k6, k7, k8⟩ := of_decide_eq_true hb
 have hok : VolOk s (volBuild s (newSup m st l)) := by
  unfold newSup at *
  dsimp only at *
  exact buildOk_vol hb (by dsimp only; omega) (by dsimp only; omega) (by dsimp only; omega) (by dsimp only; omega) (by dsimp only; omega) (by dsimp only; omega) (by dsimp only; omega) (by dsimp only; omega) (by dsimp only; omega) (by dsimp only; omega) (by dsimp only; omega) (by dsimp only; omega)
 have hbd := ra_build h (newSup m st l) hb hok
 have hlt := h.lt
 unfold newSup at hbd
 dsimp only at hbd
 change Calls _ _ _ _ (BuildPost X g w s (volBuild s (newSup m st l))) at hbd
 obtain ⟨V0, hV0⟩ : ∃ V0, V0 = volBuild s (newSup m st l) := ⟨_, rfl⟩
 have hst0 : (V0.stripes : Int) = st := by
  rw [hV0]
  show ((st.toNat : Nat) : Int) = st
  have : 1 ≤ st := k3
  omega
 rw [← hV0] at hbd
 rw [← hV0]
 obtain ⟨T, hT⟩ : ∃ T, T = volMake s V0 := ⟨_, rfl⟩
 rw [← hT]
 replace hT := Lib.hid hT
 replace hlt := Lib.hid hlt
 have hst1 : 1 ≤ V0.stripes ∧ V0.stripes ≤ 1024 := by
  have : (1 : Int) ≤ st := k3
  have : st ≤ 1024 := k4
  omega
 subst hst0
 clear hok hb h k1 k2 k3 k4 k5 k6 k7 k8 hV0
 go_enter Try.func26, Try.ntmps26
 go_wp2_with fail
 with_reducible refine hbd.mono ?_
 rintro e w1 ⟨F, rfl, rfl, hV1, hb1⟩
 clear hbd
 have hmk := made_zero
 have hr1 : Rd (w1.alloc (.cells (bVs zeroSec).toArray 5)) (some ⟨w1.heap.size, 0, none⟩) zeroSec := (Own.made w1 5 128 (by omega)).rd
 have hcs := run_string_rd (P := Try.prog) (w1.alloc (.cells (bVs zeroSec).toArray 5)) 32 9 5 Try.underlying32 Try.underlying5 Try.underlying9 (some ⟨w1.heap.size, 0, none⟩) 128 128 zeroSec hr1 zeroSec_len
 have hV2 := hV1.alloc (.cells (bVs zeroSec).toArray 5)
 have hK2 : Kept X w (w1.alloc (.cells (bVs zeroSec).toArray 5)) := (Kept.of_below hb1 hlt.out).trans (Kept.of_below (below_made' _ _) hV1.lt)
 have c9 := hV2.c 9
 have hvlt := hV2.vlt
 have hl17 := hV2.ok.len17
 simp only [volR] at c9
 obtain ⟨n, hn⟩ : ∃ n, n = V0.devs.length := ⟨_, rfl⟩
 rw [← hn] at c9 hl17
 obtain ⟨W, hW⟩ : ∃ W, W = w1.alloc (.cells (bVs zeroSec).toArray 5) := ⟨_, rfl⟩
 rw [← hW] at hcs hV2 hK2 c9 hvlt
 have hmk1 : (Instr.makeSlice 32 (.int .i64 128) (.int .i64 128)).run Try.prog w1 = .ok (.slice (some ⟨w1.heap.size, 0, none⟩) 128 128) W := by rw [hW]; exact made_zero w1
 clear hr1 hb1 hmk hW hV1
 replace hV2 := Lib.hid hV2
 replace hK2 := Lib.hid hK2
 replace hn := Lib.hid hn
 obtain ⟨zs, hzs⟩ : ∃ zs, zs = zeroSec := ⟨_, rfl⟩
 rw [← hzs] at hcs
 replace hzs := Lib.hid hzs
 go_wp2_with fail
 go_loopw [42] (fun q wr => ∃ (k j : Nat), q = .int .i64 k ∧ k ≤ n ∧ wr = W.drewN j ∧ Hid (∀ i, i < k → (s.disk i).dead = false))
  (fun q _ => n - (intOf q).toNat)
 case atStart => exact ⟨0, 0, by go_num, by omega, rfl, Lib.hid fun i hi => absurd hi (by omega)⟩
 case round =>
  obtain ⟨k, j, rfl, hk, rfl, hal⟩ := hrel
  by_cases hlk : k < n
  ·have hkl : k < V0.devs.length := by rw [← hn.out]; exact hlk
   have hVj := hV2.out.below (below_drewN (Below.refl _ W) j)
   have hcell : W.cell? ⟨F.db, k, none⟩ = _ := hVj.cDev hkl
   unfold ptrV at hcell
   have hct := ra_ddead hVj hkl
   have hdl2 : s.disks.length = n := by rw [hn.out]; exact hVj.ok.slen
   cases hdd : (s.disk k).dead with
   | true =>
    rw [hdd] at hct
    have hT1 : T = (4, s, V0) := by
     rw [hT.out]
     unfold volMake
     rw [anyDead_some (by rw [hdl2]; exact hlk) hdd, if_pos rfl]
    have hfin : ∀ j, MakePost X F.g w T (.returned (.tuple #[.pointer none, .int .i64 4])) (W.drewN j) := fun j => by
     rw [hT1]
     have hb := below_drewN (Below.refl W.heap.size W) j
     exact ⟨fun h => absurd h (show ¬ (4 : Int) = 0 by decide), fun _ => ⟨rfl, (hV2.out.below hb).shelf⟩, hK2.out.trans (Kept.of_below hb hV2.out.lt)⟩
    replace hfin := Lib.hid hfin
    clear hT1 hVj hkl hdd hal hdl2
    go_wp2_with fail
    with_reducible refine hct.mono ?_
    rintro e wx ⟨rfl, j2, rfl⟩
    rw [World.drewN_drewN]
    replace hfin := Lib.hid (hfin.out (j + j2))
    clear hct
    go_wp2_with fail
    go_ret2
    exact hfin.out
   | false =>
    rw [hdd] at hct
    have hal' : Hid (∀ i, i < k + 1 → (s.disk i).dead = false) := Lib.hid fun i hi => by
     by_cases h : i < k
     ·exact hal.out i h
     ·have : i = k := by omega
      subst this
      exact hdd
    clear hVj hkl hdd hal hdl2
    go_wp2_with fail
    with_reducible refine hct.mono ?_
    rintro e wx ⟨rfl, j2, rfl⟩
    rw [World.drewN_drewN]
    clear hct
    go_wp2_with fail
    go_roundw
    case rel => exact ⟨k + 1, j + j2, by go_num, by omega, rfl, hal'⟩
    case measure => simp [intOf]; omega
  ·obtain rfl : k = n := by omega
   have hb := below_drewN (Below.refl W.heap.size W) j
   have hVj := hV2.out.below hb
   have hKj := hK2.out.trans (Kept.of_below hb hV2.out.lt)
   have hsl : s.disks.length = k := by rw [hn.out]; exact hVj.ok.slen
   have hnd : anyDead s = false := anyDead_none fun i hi => hal.out i (by omega)
   obtain ⟨Z, hZ⟩ : ∃ Z, Z = zeroFrom s V0 0 k := ⟨_, rfl⟩
   have hT2 : Hid (T = if Z.1 = 0 then (if (volSync Z.2.1 Z.2.2).1 = 0 then volSave (volSync Z.2.1 Z.2.2).2.1 (volSync Z.2.1 Z.2.2).2.2 (volSync Z.2.1 Z.2.2).2.2.sup else volSync Z.2.1 Z.2.2) else Z) := Lib.hid (by
    rw [hT.out, hZ, hn.out]
    unfold volMake
    rw [hnd]
    rfl)
   have hZ0 : Hid (Z = zeroFrom s V0 0 (k - 0)) := Lib.hid hZ
   have c9j : (W.drewN j).cell? ⟨F.v, 9, none⟩ = _ := c9
   have hvltj : F.v < (W.drewN j).heap.size := hvlt
   have hba : V0.base ≤ 18 := hVj.ok.baseN
   clear hZ hnd hal hb hV2 hK2 hlk hmk1 hsl
   generalize W.drewN j = Wj at *
   replace hVj := Lib.hid hVj
   replace hKj := Lib.hid hKj
   clear c9 hvlt
   go_wp2_with fail
   go_loopw [54] (fun q wr => ∃ (d : Nat) (s' : ShM) (V' : VolM), q = .int .i64 d ∧ d ≤ k ∧ Hid (k = V'.devs.length) ∧ Hid (V'.sup = V0.sup) ∧ Hid (Z = zeroFrom s' V' d (k - d)) ∧ Hid (VolX X F wr s' V') ∧ Hid (Kept X w wr) ∧ Hid (Room (999999900000 + 5000 * d) s'))
    (fun q _ => k - (intOf q).toNat)
   case atStart => exact ⟨0, s, V0, by go_num, by omega, hn, Lib.hid rfl, hZ0, hVj, hKj, Lib.hid (hroom.mono (by omega))⟩
   case round =>
    clear hZ0 hVj hKj c9j hvltj
    obtain ⟨d, s', V', rfl, hd, hn', hsup, hZ, hV, hK, hroom⟩ := hrel
    by_cases hdk : d < k
    ·have hdl0 : d < V'.devs.length := by rw [← hn'.out]; exact hdk
     have hcell := hV.out.cDev hdl0
     unfold ptrV at hcell
     have c13 := hV.out.c 13
     simp only [volR] at c13
     have hbV : V'.base = V0.base := by unfold VolM.base; rw [hsup.out]
     have hsV : V'.stripes = V0.stripes := by unfold VolM.stripes; rw [hsup.out]
     rw [hbV] at c13
     have hvlt := hV.out.vlt
     obtain ⟨N, hN⟩ : ∃ N, N = V0.base + V0.stripes := ⟨_, rfl⟩
     have hN1 : N ≤ 1100 := by omega
     have hwN : IntKind.i64.wrap ((V0.base : Int) + (V0.stripes : Int)) = (N : Int) := by rw [hN]; exact IntWalk.i64_in _ (by omega)
     obtain ⟨D, hD⟩ : ∃ D, D = zeroIn s' V' d 0 N := ⟨_, rfl⟩
     have hZs : Hid (Z = if D.1 = 0 then zeroFrom D.2.1 D.2.2 (d + 1) (k - (d + 1)) else D) := Lib.hid (hZ.out.trans (by rw [show k - d = (k - (d + 1)) + 1 by omega, zeroFrom_step, hbV, hsV, ← hN, ← hD]))
     have hD0 : Hid (D = zeroIn s' V' d 0 (N - 0)) := Lib.hid hD
     obtain ⟨da, hda⟩ : ∃ da, da = F.a d := ⟨_, rfl⟩
     rw [← hda] at hcell
     replace hda := Lib.hid hda
     have hdl17 : d ≤ 17 := by omega
     generalize V0.base = ba at *
     generalize V0.stripes = sps at *
     clear hD hZ hdl0 hbV hsV hN
     go_wp2_with fail
     go_loopw [64] (fun q wr => ∃ (k2 : Nat) (s' : ShM) (V' : VolM), q = .int .i64 k2 ∧ k2 ≤ N ∧ Hid (k = V'.devs.length) ∧ Hid (V'.sup = V0.sup) ∧ Hid (D = zeroIn s' V' d k2 (N - k2)) ∧ Hid (VolX X F wr s' V') ∧ Hid (Kept X w wr) ∧ Hid (Room (999999900000 + 5000 * d + 4 * k2) s'))
      (fun q _ => N - (intOf q).toNat)
     case atStart => exact ⟨0, s', V', by go_num, by omega, hn', hsup, hD0, hV, hK, hroom⟩
     case round =>
      clear hD0 hV hK hroom hcell c13 hvlt hn' hsup
      obtain ⟨k2, s9, V9, rfl, hk2, hn', hsup, hD, hV, hK, hroom⟩ := hrel
      by_cases hkN : k2 < N
      ·have hdl := Lib.hid (show d < V9.devs.length by rw [← hn'.out]; exact hdk)
       have hrd := ra_dread hV.out (hroom.out.mono (by omega)) hdl.out (k2 : Int) (by omega) (by omega)
       rw [← hda.out] at hrd
       have hstep : Hid (D = _) := Lib.hid (hD.out.trans (by rw [show N - k2 = (N - (k2 + 1)) + 1 by omega, zeroIn_step]))
       have hroom1 := Lib.hid (room_dread hroom.out (V9.dev d) (k2 : Int))
       have hokl := Lib.hid fun h0 => devRead_ok (D := V9.dev d) (n := (k2 : Int)) hV.out.sh.ok h0
       generalize devRead s9 (V9.dev d) (k2 : Int) = r at *
       obtain ⟨rb, er, s2⟩ := r
       dsimp only at hrd hstep hroom1 hokl
       clear hV hroom hD
       go_wp2_with fail
       with_reducible refine hrd.mono ?_
       rintro e w1 ⟨A1, c1, rfl, hR1, hc1, hA1, hV1, hK1⟩
       dsimp only at hR1 hc1 hV1
       replace hK1 := Lib.hid (hK.out.trans hK1)
       replace hV1 := Lib.hid (hV1.mono fun b hb => .inl hb : VolX X F w1 s2 V9)
       clear hrd hK hA1 hc1
       by_cases e0 : er = 0
       ·subst e0
        have hl1 := hokl.out rfl
        have hcv := run_string_rd (P := Try.prog) w1 32 9 5 Try.underlying32 Try.underlying5 Try.underlying9 A1 128 c1 rb hR1 hl1
        rw [hl1]
        clear hl1 hokl hR1
        cases hz : (rb == zs) with
        | true =>
         have hrz : rb = zeroSec := by rw [← hzs.out]; exact eq_of_beq hz
         have hD2 := Lib.hid (hstep.out.trans (if_pos ⟨rfl, hrz⟩))
         clear hstep hrz
         go_wp2_with fail
         go_roundw
         case rel => exact ⟨k2 + 1, s2, V9, by go_num, by omega, hn', hsup, hD2, hV1, hK1, Lib.hid (hroom1.out.mono (by omega))⟩
         case measure => simp [intOf]; omega
        | false =>
         have hrz : ¬ rb = zeroSec := by rw [← hzs.out]; exact ne_of_beq_false hz
         replace hstep := Lib.hid (hstep.out.trans ((if_neg fun h => hrz h.2).trans (if_pos (.inl rfl))))
         clear hrz
         rw [← hzs.out] at hstep
         have hcb := bytes_of_str w1 zs (by rw [hzs.out]; simp [zeroSec])
         obtain ⟨c2, W2, hrun, hrd2, hb2, hsz2⟩ := hcb
         have hzl : zs.length = 128 := by rw [hzs.out]; exact zeroSec_len
         rw [hzl] at hrun
         have hV2' := hV1.out.join (A := some ⟨w1.heap.size, 0, none⟩) hb2 (fun ad e => by injection e with e; subst e; exact ⟨Nat.le_refl _, by dsimp only; omega⟩)
         have hdw := ra_dwrite hV2' (hroom1.out.mono (by omega)) hdl.out (k2 : Int) (by omega) (by omega) (some ⟨w1.heap.size, 0, none⟩) 128 c2 zs hrd2 hzl (fun ad e => .inr ⟨ad, e, rfl⟩)
         rw [← hda.out] at hdw
         have hKw2 := Lib.hid (hK1.out.trans (Kept.of_below hb2 fun b hb => hV1.out.lt b hb))
         have hrm2 := Lib.hid (room_vwr hroom1.out V9 d (k2 : Int) zs)
         have hln2 : (volWr s2 V9 d (k2 : Int) zs).2.2.devs.length = V9.devs.length := setDev_len V9 d _
         have hsp2 : (volWr s2 V9 d (k2 : Int) zs).2.2.sup = V9.sup := rfl
         generalize volWr s2 V9 d (k2 : Int) zs = y at *
         obtain ⟨ey, s3, V3⟩ := y
         dsimp only at hdw hstep hrm2 hln2 hsp2
         have hn3 := Lib.hid (hn'.out.trans hln2.symm)
         have hs3 := Lib.hid (hsp2.trans hsup.out)
         clear hb2 hsz2 hzl hV2' hln2 hsp2 hV1 hK1 hroom1 hrd2
         go_wp2_with fail
         with_reducible refine hdw.mono ?_
         rintro e w5 ⟨rfl, hV5, hK5⟩
         dsimp only at hV5
         have hV6 := Lib.hid (hV5.mono fun b hb => .inl hb : VolX X F w5 s3 V3)
         have hK6 := Lib.hid (hKw2.out.trans (hK5.mono fun b hb => .inl hb))
         clear hdw hV5 hK5 hrun hKw2
         by_cases e9 : ey = 0
         ·subst e9
          have hD2 := Lib.hid (hstep.out.trans (if_pos rfl))
          clear hstep
          go_wp2_with fail
          go_roundw
          case rel => exact ⟨k2 + 1, s3, V3, by go_num, by omega, hn3, hs3, hD2, hV6, hK6, Lib.hid (hrm2.out.mono (by omega))⟩
          case measure => simp [intOf]; omega
         ·have hb9 : (ey != 0) = true := by rw [bne_iff_ne]; exact e9
          have hD2 : D = (ey, s3, V3) := hstep.out.trans (if_neg e9)
          have hfin : MakePost X F.g w T (.returned (.tuple #[.pointer none, .int .i64 ey])) w5 := by
           rw [hT2.out, hZs.out, hD2, if_neg e9]
           simp only [if_neg e9]
           exact ⟨fun h => absurd h e9, fun _ => ⟨rfl, hV6.out.shelf⟩, hK6.out⟩
          replace hfin := Lib.hid hfin
          clear hstep hD2 hV6 hK6 e9
          go_wp2_with fail
          go_ret2
          exact hfin.out
       ·have hb0 : (er == 0) = false := by rw [beq_eq_false_iff_ne]; exact e0
        have hb0' : (er != 0) = true := by rw [bne_iff_ne]; exact e0
        by_cases e5 : er = 5
        ·subst e5
         replace hstep := Lib.hid (hstep.out.trans ((if_neg fun h => e0 h.1).trans (if_pos (.inr rfl))))
         clear e0 hb0 hb0' hokl hR1
         rw [← hzs.out] at hstep
         have hcb := bytes_of_str w1 zs (by rw [hzs.out]; simp [zeroSec])
         obtain ⟨c2, W2, hrun, hrd2, hb2, hsz2⟩ := hcb
         have hzl : zs.length = 128 := by rw [hzs.out]; exact zeroSec_len
         rw [hzl] at hrun
         have hV2' := hV1.out.join (A := some ⟨w1.heap.size, 0, none⟩) hb2 (fun ad e => by injection e with e; subst e; exact ⟨Nat.le_refl _, by dsimp only; omega⟩)
         have hdw := ra_dwrite hV2' (hroom1.out.mono (by omega)) hdl.out (k2 : Int) (by omega) (by omega) (some ⟨w1.heap.size, 0, none⟩) 128 c2 zs hrd2 hzl (fun ad e => .inr ⟨ad, e, rfl⟩)
         rw [← hda.out] at hdw
         have hKw2 := Lib.hid (hK1.out.trans (Kept.of_below hb2 fun b hb => hV1.out.lt b hb))
         have hrm2 := Lib.hid (room_vwr hroom1.out V9 d (k2 : Int) zs)
         have hln2 : (volWr s2 V9 d (k2 : Int) zs).2.2.devs.length = V9.devs.length := setDev_len V9 d _
         have hsp2 : (volWr s2 V9 d (k2 : Int) zs).2.2.sup = V9.sup := rfl
         generalize volWr s2 V9 d (k2 : Int) zs = y at *
         obtain ⟨ey, s3, V3⟩ := y
         dsimp only at hdw hstep hrm2 hln2 hsp2
         have hn3 := Lib.hid (hn'.out.trans hln2.symm)
         have hs3 := Lib.hid (hsp2.trans hsup.out)
         clear hb2 hsz2 hzl hV2' hln2 hsp2 hV1 hK1 hroom1 hrd2
         go_wp2_with fail
         with_reducible refine hdw.mono ?_
         rintro e w5 ⟨rfl, hV5, hK5⟩
         dsimp only at hV5
         have hV6 := Lib.hid (hV5.mono fun b hb => .inl hb : VolX X F w5 s3 V3)
         have hK6 := Lib.hid (hKw2.out.trans (hK5.mono fun b hb => .inl hb))
         clear hdw hV5 hK5 hrun hKw2
         by_cases e9 : ey = 0
         ·subst e9
          have hD2 := Lib.hid (hstep.out.trans (if_pos rfl))
          clear hstep
          go_wp2_with fail
          go_roundw
          case rel => exact ⟨k2 + 1, s3, V3, by go_num, by omega, hn3, hs3, hD2, hV6, hK6, Lib.hid (hrm2.out.mono (by omega))⟩
          case measure => simp [intOf]; omega
         ·have hb9 : (ey != 0) = true := by rw [bne_iff_ne]; exact e9
          have hD2 : D = (ey, s3, V3) := hstep.out.trans (if_neg e9)
          have hfin : MakePost X F.g w T (.returned (.tuple #[.pointer none, .int .i64 ey])) w5 := by
           rw [hT2.out, hZs.out, hD2, if_neg e9]
           simp only [if_neg e9]
           exact ⟨fun h => absurd h e9, fun _ => ⟨rfl, hV6.out.shelf⟩, hK6.out⟩
          replace hfin := Lib.hid hfin
          clear hstep hD2 hV6 hK6 e9
          go_wp2_with fail
          go_ret2
          exact hfin.out
        ·have hb5 : (er != 5) = true := by rw [bne_iff_ne]; exact e5
         have hD2 : D = (er, s2, V9) := hstep.out.trans ((if_neg fun h => e0 h.1).trans (if_neg fun h => h.elim e0 e5))
         have hfin : MakePost X F.g w T (.returned (.tuple #[.pointer none, .int .i64 er])) w1 := by
          rw [hT2.out, hZs.out, hD2, if_neg e0]
          simp only [if_neg e0]
          exact ⟨fun h => absurd h e0, fun _ => ⟨rfl, hV1.out.shelf⟩, hK1.out⟩
         replace hfin := Lib.hid hfin
         clear hstep hD2 hV1 hK1 e0 e5 hR1 hokl
         go_wp2_with fail
         go_ret2
         exact hfin.out
      ·obtain rfl : k2 = N := by omega
       have hD1 : D = (0, s9, V9) := by
        rw [hD.out, Nat.sub_self]
        rfl
       have hZ2 : Hid (Z = zeroFrom s9 V9 (d + 1) (k - (d + 1))) := Lib.hid (hZs.out.trans (by rw [hD1]; exact if_pos rfl))
       have hrm2 := Lib.hid (hroom.out.mono (show 999999900000 + 5000 * d + 4 * k2 ≤ 999999900000 + 5000 * (d + 1) by omega))
       clear hD1 hD hZs hroom hkN
       go_wp2_with fail
       go_roundw
       case rel => exact ⟨d + 1, s9, V9, by go_num, by omega, hn', hsup, hZ2, hV, hK, hrm2⟩
       case measure => simp [intOf]; omega
    ·obtain rfl : d = k := by omega
     have hZ1 : Z = (0, s', V') := by
      rw [hZ.out, Nat.sub_self]
      rfl
     have hsy := ra_sync hV.out (hroom.out.mono (by omega))
     have hrm1 := Lib.hid (volSync_room hroom.out V')
     have hT3 : Hid (T = if (volSync s' V').1 = 0 then volSave (volSync s' V').2.1 (volSync s' V').2.2 (volSync s' V').2.2.sup else volSync s' V') := Lib.hid (hT2.out.trans (by rw [hZ1]; exact if_pos rfl))
     clear hZ hZ1 hV hroom hT2
     generalize volSync s' V' = y at *
     obtain ⟨ey, s3, V3⟩ := y
     dsimp only at hT3 hrm1
     go_wp2_with fail
     with_reducible refine hsy.mono ?_
     rintro e w3 ⟨rfl, hV3, hK3⟩
     dsimp only at hV3
     replace hK3 := Lib.hid (hK.out.trans hK3)
     clear hsy hK
     by_cases e9 : ey = 0
     ·subst e9
      replace hT3 := Lib.hid (hT3.out.trans (if_pos rfl))
      have hnx : NextOk V3 V3.sup := ⟨rfl, rfl, rfl, rfl, hV3.ok.sp0, hV3.ok.spM, hV3.ok.mk0, hV3.ok.mkS, hV3.ok.mkN, hV3.ok.cu0, hV3.ok.cuS, hV3.ok.sp⟩
      have hsv := ra_save hV3 (hrm1.out.mono (by omega)) V3.sup hnx
      have c0 := hV3.c 0
      have c1 := hV3.c 1
      have c2 := hV3.c 2
      have c3 := hV3.c 3
      have c4 := hV3.c 4
      have c5 := hV3.c 5
      have c6 := hV3.c 6
      have c7 := hV3.c 7
      have hvlt := hV3.vlt
      simp only [volR] at c0 c1 c2 c3 c4 c5 c6 c7
      generalize volSave s3 V3 V3.sup = z at *
      obtain ⟨ez, s4, V4⟩ := z
      generalize V3.sup = sp at *
      obtain ⟨y0, y1, y2, y3, y4, y5, y6, y7⟩ := sp
      dsimp only at *
      clear hV3 hnx hrm1
      go_wp2_with fail
      with_reducible refine hsv.mono ?_
      rintro e w4 ⟨rfl, hV4, hK4⟩
      dsimp only at hV4
      replace hK4 := Lib.hid (hK3.out.trans hK4)
      clear hsv c0 c1 c2 c3 c4 c5 c6 c7 hK3
      by_cases e8 : ez = 0
      ·subst e8
       have hfin : MakePost X F.g w T (.returned (.tuple #[.pointer (some ⟨F.v, 0, none⟩), .int .i64 0])) w4 := by
        rw [hT3.out]
        exact ⟨fun _ => ⟨F, rfl, rfl, hV4⟩, fun h => absurd rfl h, hK4.out⟩
       replace hfin := Lib.hid hfin
       clear hT3 hV4 hK4
       go_wp2_with fail
       go_ret2
       exact hfin.out
      ·have hb8 : (ez != 0) = true := by rw [bne_iff_ne]; exact e8
       have hfin : MakePost X F.g w T (.returned (.tuple #[.pointer none, .int .i64 ez])) w4 := by
        rw [hT3.out]
        exact ⟨fun h => absurd h e8, fun _ => ⟨rfl, hV4.shelf⟩, hK4.out⟩
       replace hfin := Lib.hid hfin
       clear hT3 hV4 hK4 e8
       go_wp2_with fail
       go_ret2
       exact hfin.out
     ·have hb9 : (ey != 0) = true := by rw [bne_iff_ne]; exact e9
      have hfin : MakePost X F.g w T (.returned (.tuple #[.pointer none, .int .i64 ey])) w3 := by
       rw [hT3.out, if_neg e9]
       exact ⟨fun h => absurd h e9, fun _ => ⟨rfl, hV3.shelf⟩, hK3.out⟩
      replace hfin := Lib.hid hfin
      clear hT3 hV3 hK3 e9 hrm1
      go_wp2_with fail
      go_ret2
      exact hfin.out
end
end
end Go.Proofs.Ytajnlhalanhicaa

/-
 Several texts of this work in one (merge.py): Del, RaC, RaD, RaE, RaF, RaG.
-/
import Derived.Test.YtajnlhalanhicaaHeldTail
import Derived.Test.YtajnlhalanhicaaProg
import Derived.Test.YtajnlhalanhicaaRgA
import Derived.Test.YtajnlhalanhicaaBase
import Derived.Shelf.SlicesE.DeleteFunc
namespace Go.Proofs.Ytajnlhalanhicaa
set_option linter.all false
set_option maxRecDepth 20000
section
open Go.RowKit Go.Shelf Go.Sort
def delRen : Ren := ⟨fun k => if k = 6 then 80 else if k = 10 then 38 else k, fun k => if k = 0 then 0 else if k = 3 then 3 else if k = 4 then 4 else if k = 22 then 61 else if k = 23 then 3 else if k = 25 then 95 else k, fun k => k⟩
theorem delLays : SlLaysH.n10 Try.prog delRen where
 mixed := by kernel_rfl
 f6 := ⟨Try.f80.name, by kernel_rfl, by kernel_rfl⟩
 f10 := ⟨Try.f38.name, by kernel_rfl, by kernel_rfl⟩
 t0 := Try.underlying0
 a0 := Try.isAgg0
 z0 := Try.sizeOf0
 v0 := Try.zeroValue0
 t3 := Try.underlying3
 a3 := Try.isAgg3
 z3 := Try.sizeOf3
 v3 := Try.zeroValue3
 t4 := Try.underlying4
 a4 := Try.isAgg4
 z4 := Try.sizeOf4
 v4 := Try.zeroValue4
 t22 := Try.underlying61
 a22 := Try.isAgg61
 z22 := Try.sizeOf61
 v22 := Try.zeroValue61
 a23 := Try.isAgg3
 z23 := Try.sizeOf3
 t25 := Try.underlying95
 a25 := Try.isAgg95
 z25 := Try.sizeOf95
 v25 := Try.zeroValue95
theorem natK_one : OneCell natK := fun _ => rfl
theorem heap_other {α : Type} [Inhabited α] (enc : α → Value) (w : World) (q blk : Nat) (d : Array α) (b : Nat) (h : b ≠ blk) : (putRow enc (Sort.ahead w q) blk 0 d).heap[b]? = w.heap[b]? := by
 simp only [putRow, mapBlock, Sort.ahead, Array.getElem?_modify]
 rw [if_neg (fun e => h e.symm)]
theorem del_any (G : Nat) (lb : Array Value) (eg : ∀ args w, (callFunc G args).run Try.prog w = .ok (.enter G args) w) (mem : Nat) (w : World) (gb n c : Nat) (ms : List Nat) (hn : ms.length = n) (hnc : n ≤ c) (hm : n ≤ 1000)
  (hr : ∀ i (h : i < ms.length), w.cell? ⟨gb, i, none⟩ = some (natK ms[i]) ∧ w.frozen? ⟨gb, i, none⟩ = false)
  (hG : ∀ W : World, (∀ b, b < w.heap.size → b ≠ gb → W.heap[b]? = w.heap[b]?) → ∀ x : Nat, Go.Proofs.FnGives Try.prog G lb #[natK x] (.bool (x == mem)) W) :
  Calls Try.prog 38 #[.slice (some ⟨gb, 0, none⟩) n c, .func (.func G) #[] lb] w fun e w' =>
   e = .returned (.slice (some ⟨gb, 0, none⟩) (ms.filter fun x => !(x == mem)).length c) ∧ RdV w' (some ⟨gb, 0, none⟩) ((ms.filter fun x => !(x == mem)).map natK) ∧
   w'.os = w.os ∧ w'.tape = w.tape ∧ w'.output = w.output ∧ w'.heap.size = w.heap.size ∧ ∀ b, b ≠ gb → w'.heap[b]? = w.heap[b]? := by
 subst hn
 have hH : Go.Sort.Holds natK w gb 0 ms.toArray := fun j hj => by
  have hj' : j < ms.length := by simpa using hj
  have := hr j hj'
  rw [Nat.zero_add]
  have e : ms.toArray[j]! = ms[j] := by
   rw [getElem!_pos ms.toArray j hj]
   simp
  rw [e]
  exact this
 have h := AnyE.slices_DeleteFunc delLays natK natK_one (fun x => x == mem) G lb eg 0 (fun w => Try.zeroValue3 w) gb 0 c ms.toArray w
  (fun W x hb => hG W (fun b hb1 _ => hb.block b hb1) x)
  (fun m os dk x _ => hG _ (fun b hb1 hb2 => by
   unfold sortWorld grow
   show ((putRow natK (Sort.ahead w m) gb 0 dk).heap ++ os)[b]? = _
   rw [Array.getElem?_append_left (by rw [size_putRow]; exact hb1), heap_other _ _ _ _ _ _ hb2]) x) hH (by simp; omega) (by simpa using hnc)
 simp only [List.size_toArray] at h
 refine Calls.mono h ?_
 rintro e w' ⟨rfl, q, rfl⟩
 have hlen : ((ms.filter fun x => !(x == mem)) ++ List.replicate (ms.length - (ms.filter fun x => !(x == mem)).length) 0).toArray.size = ms.toArray.size := by
  have := List.length_filter_le (fun x => !(x == mem)) ms
  simp only [List.size_toArray, List.length_append, List.length_replicate]
  omega
 refine ⟨rfl, ⟨by simp; have := List.length_filter_le (fun x => !(x == mem)) ms; omega, (fun e => by cases e), fun ad e i hi => ?_⟩, rfl, rfl, rfl, by simp [putRow, mapBlock, Sort.ahead], fun b hb => heap_other _ _ _ _ _ _ hb⟩
 injection e with e
 subst e
 have hi' : i < (ms.filter fun x => !(x == mem)).length := by simpa using hi
 have hH' : Go.Sort.Holds natK (Sort.ahead w q) gb 0 ms.toArray := hH
 have := cell?_putRow natK (Sort.ahead w q) gb 0 ms.toArray ((ms.filter fun x => !(x == mem)) ++ List.replicate (ms.length - (ms.filter fun x => !(x == mem)).length) 0).toArray hH' hlen i (by simp; omega)
 rw [Nat.zero_add] at this
 have e2 : (⟨gb, 0, none⟩ : Addr).add i = ⟨gb, i, none⟩ := by unfold Addr.add; split <;> simp_all
 rw [e2, this, getElem!_pos _ i (by simp; omega)]
 simp [List.getElem_append_left hi']
end
section
open Go.RowKit
section
variable {X : Nat → Prop} {F : VolF} {w w' : World} {s : ShM} {V : VolM}
def BytesPost (X : Nat → Prop) (F : VolF) (w : World) (r : Bytes × Int × ShM × VolM) (e : Ending) (w' : World) : Prop :=
 ∃ A c, e = .returned (.tuple #[.slice A r.1.length c, .int .i64 r.2.1]) ∧ Rd w' A r.1 ∧ r.1.length ≤ c ∧ (∀ ad, A = some ad → w.heap.size ≤ ad.block) ∧ VolX (fun b => X b ∨ ∃ ad, A = some ad ∧ ad.block = b) F w' r.2.2.1 r.2.2.2 ∧ Kept X w w'
theorem Fresh.parts {v : Value} {bs : Bytes} (h : Fresh w w' v bs) (hl : bs.length ≤ 9223372036854775807) : ∃ A c, v = .slice A bs.length c ∧ Rd w' A bs ∧ bs.length ≤ c ∧ (∀ ad, A = some ad → w.heap.size ≤ ad.block) ∧ ∀ b, v.ownBlock = some b ↔ ∃ ad, A = some ad ∧ ad.block = b := by
 obtain ⟨A, c, rfl, hr, ha⟩ := h.form hl
 have h' := h
 obtain ⟨A', c', hv, hx⟩ := h'
 injection hv with e1 e2 e3
 subst e1 e3
 refine ⟨A, c, rfl, hr, ?_, ha, fun b => ?_⟩
 ·rcases hx with ⟨_, rfl⟩ | ⟨g, _, ⟨_, h2⟩, _⟩
  ·simp
  ·exact h2
 ·rcases hx with ⟨rfl, rfl⟩ | ⟨g, rfl, _, _⟩
  ·simp [Value.ownBlock]
  ·simp [Value.ownBlock]
theorem GetPost.bytes {r : Bytes × Int × ShM} {e : Ending} (h : GetPost X F w V r e w') (hl : r.1.length ≤ 9223372036854775807) : BytesPost X F w (r.1, r.2.1, r.2.2, V) e w' := by
 obtain ⟨v, rfl, hf, hV, hK⟩ := h
 obtain ⟨A, c, rfl, hr, hc, ha, hb⟩ := hf.parts hl
 exact ⟨A, c, rfl, hr, hc, ha, hV.mono fun b h => h.imp id fun h => (hb b).2 h, hK⟩
theorem devRead_le {s : ShM} (hok : s.Ok) (D : DevM) (n : Int) : (devRead s D n).1.length ≤ 128 := by
 by_cases h : (devRead s D n).2.1 = 0
 ·rw [devRead_ok hok h]
  omega
 ·have : (devRead s D n).1 = [] := by
   unfold devRead at h ⊢
   dsimp only at h ⊢
   split
   ·rename_i h1
    rw [if_pos h1] at h
    split
    ·rename_i h2
     rw [if_pos h2] at h
     exact absurd rfl h
    ·rfl
   ·rfl
  rw [this]
  simp
theorem ra_getB (h : VolX X F w s V) (hroom : Room 1000000000000 s) (member st : Nat) (hm : member < V.m) (hst : st ≤ 1000000) : Calls Try.prog 33 #[.pointer (some ⟨F.v, 0, none⟩), .int .i64 (member : Int), .int .i64 (st : Int)] w (BytesPost X F w ((volGet s V member st).1, (volGet s V member st).2.1, (volGet s V member st).2.2, V)) :=
 (ra_get h hroom member st hm hst).mono fun e w' hg => hg.bytes (by have := devRead_le h.sh.ok (V.dev (V.diskOf member st)) ((V.base + st : Nat) : Int); unfold volGet; omega)
theorem VolX.noneX {Z : Nat → Prop} (h : VolX Z F w s V) (hX : ∀ b, X b → Z b) : VolX (fun b => X b ∨ ∃ ad, (none : Option Addr) = some ad ∧ ad.block = b) F w s V :=
 h.mono fun b hb => by
  rcases hb with hb | ⟨ad, e, _⟩
  ·exact hX b hb
  ·cases e
theorem room_get {N : Nat} (h : Room N s) (V : VolM) (m st : Nat) : Room N (volGet s V m st).2.2 := room_dread h _ _
theorem volGet_ok (hok : s.Ok) {m st : Nat} (h : (volGet s V m st).2.1 = 0) : (volGet s V m st).1.length = 128 := devRead_ok hok h
theorem xorB_len {xs ys : Bytes} (h1 : xs.length = 128) (h2 : ys.length = 128) : (xorB xs ys).length = 128 := by simp [xorB, h1, h2]
theorem togL_step (s : ShM) (V : VolM) (st : Nat) (sum : Bytes) (m : Nat) (l : List Nat) : togL s V st sum (m :: l) = (if (volGet s V m st).2.1 = 3 then ([], 3, (volGet s V m st).2.2) else if (volGet s V m st).2.1 ≠ 0 then ([], 10, (volGet s V m st).2.2) else togL (volGet s V m st).2.2 V st (xorB sum (volGet s V m st).1) l) := rfl
set_option maxHeartbeats 4000000 in
theorem ra_together (h : VolX X F w s V) (hroom : Room 1000000000000 s) (st : Nat) (hst : st ≤ 1000000) (ms : List Nat) (hms : ∀ m ∈ ms, m < V.m) (B : Option Addr) (n cb : Nat) (hB : RdV w B (ms.map natK)) (hn : ms.length = n) (hn1 : n ≤ 100) (hX : ∀ ad, B = some ad → X ad.block) :
  Calls Try.prog 75 #[.pointer (some ⟨F.v, 0, none⟩), .int .i64 (st : Int), .slice B n cb] w (BytesPost X F w ((volTog s V st ms).1, (volTog s V st ms).2.1, (volTog s V st ms).2.2, V)) := by
 unfold volTog
 have hT0 : Hid (togL s V st zeroSec ms = togL s V st zeroSec (ms.drop 0)) := Lib.hid rfl
 obtain ⟨T, hT⟩ : ∃ T, T = togL s V st zeroSec ms := ⟨_, rfl⟩
 rw [← hT] at hT0
 rw [← hT]
 have hmk := made_zero
 have hO := Own.made w 5 128 (by omega)
 have hb0 : Below w.heap.size w (w.alloc (.cells (bVs zeroSec).toArray 5)) := (Below.refl _ _).alloc (Nat.le_refl _) _
 have hV0 : VolX (fun b => X b ∨ ∃ ad, (some ⟨w.heap.size, 0, none⟩ : Option Addr) = some ad ∧ ad.block = b) F (w.alloc (.cells (bVs zeroSec).toArray 5)) s V := h.more hb0 fun b hb => by
  rcases hb with hb | ⟨ad, e, rfl⟩
  ·exact ⟨Nat.lt_of_lt_of_le (h.lt b hb) hb0.size, .inl hb⟩
  ·injection e with e
   subst e
   exact ⟨by simp, .inr (Nat.le_refl _)⟩
 have hK0 : Kept X w (w.alloc (.cells (bVs zeroSec).toArray 5)) := Kept.of_below hb0 h.lt
 have hR0 : Rd (w.alloc (.cells (bVs zeroSec).toArray 5)) (some ⟨w.heap.size, 0, none⟩) zeroSec := by
  have := hO.rd
  exact this
 have hlt := h.lt
 have hz : zeroSec.length = 128 := by simp [zeroSec]
 replace hV0 := Lib.hid hV0
 replace hB := Lib.hid hB
 replace hX := Lib.hid hX
 replace hms := Lib.hid hms
 replace hR0 := Lib.hid hR0
 replace hz := Lib.hid hz
 replace hn := Lib.hid hn
 replace hlt := Lib.hid hlt
 clear h hT hb0 hO
 go_enter Try.func75, Try.ntmps75
 go_wp2_with fail
 go_loopw [8, 16] (fun p q wr => ∃ (k : Nat) (sum : Bytes) (s' : ShM) (A : Option Addr) (c : Nat), p = .slice A 128 c ∧ q = .int .i64 k ∧ k ≤ n ∧ Hid (T = togL s' V st sum (ms.drop k)) ∧ Hid (sum.length = 128 ∧ 128 ≤ c) ∧ Hid (Rd wr A sum) ∧ Hid (∀ ad, A = some ad → w.heap.size ≤ ad.block) ∧ Hid (VolX (fun b => X b ∨ ∃ ad, A = some ad ∧ ad.block = b) F wr s' V) ∧ Hid (Kept X w wr) ∧ Hid (Room 1000000000000 s'))
  (fun _ q _ => n - (intOf q).toNat)
 case atStart => exact ⟨0, zeroSec, s, _, 128, rfl, by go_num, by omega, hT0, Lib.hid ⟨hz.out, by omega⟩, hR0, Lib.hid (fun ad e => by injection e with e; subst e; exact Nat.le_refl _), hV0, Lib.hid hK0, Lib.hid hroom⟩
 case round =>
  clear hT0 hV0 hR0 hz hK0 hroom hmk
  obtain ⟨k, sum, s', A, c, rfl, rfl, hk, hT, hsl, hR, hA, hV, hK, hroom⟩ := hrel
  by_cases hlk : k < n
  ·have hkl : k < ms.length := by rw [hn.out]; exact hlk
   have hmk : ms[k] < V.m := hms.out _ (List.getElem_mem hkl)
   obtain ⟨bd, rfl⟩ := hB.out.some_ (i := k) (by simpa using hkl)
   have hcell : wr.cell? (bd.add k) = some (.int .i64 (ms[k] : Int)) := by
    have h1 := hB.out.cell k (by simpa using hkl)
    rw [World.cell?_of_block (hK.out.block _ (by rw [add_block]; exact hX.out bd rfl)), h1]
    simp [natK]
   have hct := ra_getB hV.out hroom.out ms[k] st hmk hst
   have hstep : Hid (T = _) := Lib.hid (hT.out.trans (by rw [List.drop_eq_getElem_cons hkl, togL_step]))
   have hok : (volGet s' V ms[k] st).2.1 = 0 → (volGet s' V ms[k] st).1.length = 128 := fun h => volGet_ok hV.out.sh.ok h
   have hroom' := Lib.hid (room_get hroom.out V ms[k] st)
   have hm16 := hV.out.ok.m16N
   generalize volGet s' V ms[k] st = r at *
   generalize ms[k] = m at *
   obtain ⟨rb, er, s2⟩ := r
   dsimp only at hct hstep hok hroom'
   replace hok := Lib.hid hok
   clear hT hroom hkl
   go_wp2_with fail
   with_reducible refine hct.mono ?_
   rintro e w1 ⟨A1, c1, rfl, hR1, hc1, hA1, hV1, hK1⟩
   dsimp only at hR1 hc1 hV1
   have hK01 : Kept X w w1 := hK.out.trans (hK1.mono fun b hb => .inl hb)
   have hRs1 : Rd w1 A sum := hK1.rd hR.out fun ad e => .inr ⟨ad, e, rfl⟩
   have hws : w.heap.size ≤ wr.heap.size := hK.out.size
   clear hct hR hK
   by_cases h3 : er = 3
   ·subst h3
    have hT3 : T = ([], 3, s2) := hstep.out.trans (if_pos rfl)
    have hfin : BytesPost X F w (T.1, T.2.1, T.2.2, V) (.returned (.tuple #[.slice none 0 0, .int .i64 3])) w1 := by
     rw [hT3]
     exact ⟨none, 0, rfl, Rd.nil _, Nat.le_refl _, (fun ad e => by cases e), hV1.noneX fun b hb => .inl (.inl hb), hK01⟩
    replace hfin := Lib.hid hfin
    clear hV1 hK01 hRs1 hstep hT3 hR1 hc1 hA1 hK1
    go_wp2_with fail
    go_ret2
    exact hfin.out
   ·have h3' : (er == 3) = false := by rw [beq_eq_false_iff_ne]; exact h3
    by_cases h0 : er = 0
    ·subst h0
     have hl1 : rb.length = 128 := hok.out rfl
     have hT4 : Hid (T = togL s2 V st (xorB sum rb) (ms.drop (k + 1))) := Lib.hid (hstep.out.trans (by rw [if_neg (by decide), if_neg (by simp)]))
     have hx := xor_ok A A1 128 128 c c1 sum rb w1 hRs1 hR1 hsl.out.1 hl1 rfl (by omega)
     have hxl := xorB_len hsl.out.1 hl1
     rw [hl1]
     replace hV1 := Lib.hid hV1
     replace hK01 := Lib.hid hK01
     replace hxl := Lib.hid hxl
     clear hstep hok hR1 hc1 hA1 hRs1 hl1 hsl hV h3 hK1
     go_wp2_with fail
     with_reducible refine hx.mono ?_
     rintro e w5 ⟨A5, c5, rfl, ho5, hb5⟩
     have hc5 : 128 ≤ c5 := ho5.cap
     have hown5 : ∀ ad, A5 = some ad → w1.heap.size ≤ ad.block ∧ ad.block < w5.heap.size := by
      intro ad e
      obtain ⟨A', c', hv, _, h2⟩ := ho5.form
      injection hv with e1
      subst e1
      obtain ⟨x, rfl, h4, h5⟩ := h2 ad e
      exact ⟨h4, h5⟩
     have hV5 : Hid (VolX (fun b => X b ∨ ∃ ad, A5 = some ad ∧ ad.block = b) F w5 s2 V) := Lib.hid (hV1.out.more hb5 fun b hb => by
      rcases hb with hb | ⟨ad, e, rfl⟩
      ·exact ⟨Nat.lt_of_lt_of_le (hV1.out.lt b (.inl (.inl hb))) hb5.size, .inl (.inl (.inl hb))⟩
      ·exact ⟨(hown5 ad e).2, .inr (hown5 ad e).1⟩)
     have hK5 : Hid (Kept X w w5) := Lib.hid (hK01.out.trans (Kept.of_below hb5 fun b hb => hV1.out.lt b (.inl (.inl hb))))
     have hA5 : Hid (∀ ad, A5 = some ad → w.heap.size ≤ ad.block) := Lib.hid fun ad e => Nat.le_trans hK01.out.size (hown5 ad e).1
     have hR5 := Lib.hid ho5.rd
     clear hx hV1 hK01 hb5 ho5 hown5
     go_wp2_with fail
     go_roundw
     case rel => exact ⟨k + 1, xorB sum rb, s2, A5, c5, rfl, by go_num, by omega, hT4, Lib.hid ⟨hxl.out, hc5⟩, hR5, hA5, hV5, hK5, hroom'⟩
     case measure => simp [intOf]; omega
    ·have h0' : (er != 0) = true := by rw [bne_iff_ne]; exact h0
     have hT3 : T = ([], 10, s2) := hstep.out.trans (by rw [if_neg h3, if_pos h0])
     have hfin : BytesPost X F w (T.1, T.2.1, T.2.2, V) (.returned (.tuple #[.slice none 0 0, .int .i64 10])) w1 := by
      rw [hT3]
      exact ⟨none, 0, rfl, Rd.nil _, Nat.le_refl _, (fun ad e => by cases e), hV1.noneX fun b hb => .inl (.inl hb), hK01⟩
     replace hfin := Lib.hid hfin
     clear hV1 hK01 hRs1 hstep hT3 hR1 hc1 hA1 hK1 h0 h3
     go_wp2_with fail
     go_ret2
     exact hfin.out
  ·obtain rfl : k = n := by omega
   have hT1 : T = (sum, 0, s') := by
    rw [hT.out, List.drop_eq_nil_of_le (by rw [hn.out]; exact Nat.le_refl _)]
    rfl
   have hfin : BytesPost X F w (T.1, T.2.1, T.2.2, V) (.returned (.tuple #[.slice A 128 c, .int .i64 0])) wr := by
    rw [hT1]
    exact ⟨A, c, by rw [hsl.out.1], hR.out, by rw [hsl.out.1]; exact hsl.out.2, hA.out, hV.out, hK.out⟩
   replace hfin := Lib.hid hfin
   clear hT hT1 hR hA hV hK hroom hsl
   go_wp2_with fail
   go_ret2
   exact hfin.out
theorem lost_fn (W : World) (B x mem : Nat) (hc : W.cell? ⟨B, 0, none⟩ = some (.int .i64 (mem : Int))) : Go.Proofs.FnGives Try.prog 78 #[.pointer (some ⟨B, 0, none⟩)] #[natK x] (.bool (x == mem)) W := by
 show Calls Try.prog 78 #[natK x, .pointer (some ⟨B, 0, none⟩)] W _
 unfold natK
 go_enter Try.func78, Try.ntmps78
 go_wp2
 go_ret
 exact ⟨by simp [Bool.beq_eq_decide_eq]; omega, 0, rfl⟩
theorem OwnV.cap {w : World} {E base n c : Nat} {A : Option Addr} {vs : List Value} (h : OwnV w E base (.slice A n c) vs) : n ≤ c := by
 rcases h.2 with ⟨hv, h0⟩ | ⟨g, cap, cur, hv, _, _, hc, _⟩
 ·injection hv with _ h1 h2
  omega
 ·injection hv with _ h1 h2
  omega
theorem memL_len (m st : Nat) : (memL m st).length = m := by simp [memL]
theorem memL_lt {m st k : Nat} (h : k ∈ memL m st) : k < m := by
 simp only [memL, List.mem_map, List.mem_range] at h
 obtain ⟨j, hj, rfl⟩ := h
 exact Nat.mod_lt _ (by omega)
set_option maxHeartbeats 4000000 in
theorem ra_lost (h : VolX X F w s V) (hroom : Room 1000000000000 s) (member st : Nat) (hst : st ≤ 1000000) :
  Calls Try.prog 34 #[.pointer (some ⟨F.v, 0, none⟩), .int .i64 (member : Int), .int .i64 (st : Int)] w (BytesPost X F w ((volLost s V member st).1, (volLost s V member st).2.1, (volLost s V member st).2.2, V)) := by
 unfold volLost
 have hm3 := h.ok.m3N
 have hm16 := h.ok.m16N
 have hb0 := below_made' w (.cells #[.int .i64 (member : Int)] 3)
 have hV0 := h.below hb0
 have hK0 : Kept X w (w.alloc (.cells #[.int .i64 (member : Int)] 3)) := Kept.of_below hb0 h.lt
 have hbox : (w.alloc (.cells #[.int .i64 (member : Int)] 3)).heap[w.heap.size]? = some (.cells #[.int .i64 (member : Int)] 3) := heap_alloc_new _ _
 have c1 : (w.alloc (.cells #[.int .i64 (member : Int)] 3)).cell? ⟨F.v, 1, none⟩ = some (.int .i64 (V.m : Int)) := by
  have := hV0.c 1
  rw [h.ok.mN]
  exact this
 have hmem := lay_members V.m st hm3 hm16 hst (w.alloc (.cells #[.int .i64 (member : Int)] 3))
 have eg : ∀ args w, (callFunc 78 args).run Try.prog w = .ok (.enter 78 args) w := enters_of Try.func78 (by kernel_rfl) rfl
 have hsz0 : (w.alloc (.cells #[.int .i64 (member : Int)] 3)).heap.size = w.heap.size + 1 := by simp
 have hvlt := hV0.vlt
 replace hV0 := Lib.hid hV0
 replace hK0 := Lib.hid hK0
 replace hbox := Lib.hid hbox
 replace eg := Lib.hid eg
 clear hb0
 obtain ⟨m, hm⟩ : ∃ m, m = V.m := ⟨_, rfl⟩
 rw [← hm] at c1 hmem hm3 hm16
 rw [← hm]
 replace hm := Lib.hid hm
 replace h := Lib.hid h
 go_enter Try.func34, Try.ntmps34
 go_wp2_with fail
 with_reducible refine hmem.mono ?_
 rintro e w1 ⟨A, c, rfl, hO, hb1⟩
 obtain ⟨x0, hx0⟩ : ∃ x, x = memL m st := ⟨_, rfl⟩
 have hxl : x0.length = m := by rw [hx0]; exact memL_len m st
 obtain ⟨hleft, gb, rfl, hg0, hg1⟩ := hO.some_ (i := 0) (by rw [List.length_map, memL_len]; omega)
 clear hleft
 have hbox1 := (hb1.block w.heap.size (by omega)).trans hbox.out
 have hV1 := hV0.out.below hb1
 have hdel := del_any 78 #[.pointer (some ⟨w.heap.size, 0, none⟩)] eg.out member w1 gb m c (memL m st) (memL_len m st) hO.cap (by omega) (fun i hi => by
    have hi' : i < ((memL m st).map natK).length := by simpa using hi
    exact ⟨by have := hO.cellN i hi'; simpa using this, hO.frozenN i⟩)
  (fun W hW x => lost_fn W w.heap.size x member (by
   have := hW w.heap.size (by omega) (by omega)
   rw [World.cell?_of_block this]
   exact cell_of_row w1 w.heap.size 0 _ _ _ hbox1))
 have hlow : ∀ k ∈ (memL m st).filter (fun k => !(k == member)), k < V.m := fun k hk => by rw [← hm.out]; exact memL_lt (List.mem_filter.1 hk).1
 have hVY : VolX (fun b => X b ∨ b = gb) F w1 s V := hV0.out.more hb1 fun b hb => by
  rcases hb with hb | rfl
  ·exact ⟨Nat.lt_of_lt_of_le (hV0.out.lt b hb) hb1.size, .inl hb⟩
  ·exact ⟨hg1, .inr hg0⟩
 have hK1 : Kept X w w1 := hK0.out.trans (Kept.of_below hb1 hV0.out.lt)
 have hfl := List.length_filter_le (fun k => !(k == member)) (memL m st)
 rw [memL_len] at hfl
 obtain ⟨ms, hms⟩ : ∃ ms, ms = (memL m st).filter (fun k => !(k == member)) := ⟨_, rfl⟩
 rw [← hms] at hdel hlow hfl
 replace hms := Lib.hid hms
 replace hVY := Lib.hid hVY
 replace hK1 := Lib.hid hK1
 replace hlow := Lib.hid hlow
 have hg2 : w.heap.size < gb := by omega
 clear hmem hO hb1 hbox1 hV1 hx0 hxl hbox hV0 hK0 c1 hsz0 hg0
 go_wp2_with fail
 with_reducible refine hdel.mono ?_
 rintro e w2 ⟨rfl, hr2, ho2, ht2, hp2, hs2, hx2⟩
 have hV2 := hVY.out.other (w' := w2) (by omega) fun b hb hnx => hx2 b fun e => hnx (.inr e)
 have hK2 : Kept X w w2 := hK1.out.trans ⟨ho2, ht2, hp2, by omega, fun k hk => hx2 k fun e => by have := h.out.lt k hk; omega⟩
 have htg := ra_together hV2 hroom st hst ms hlow.out _ ms.length c hr2 rfl (by omega) (fun ad e => by injection e with e; subst e; exact .inr rfl)
 replace hK2 := Lib.hid hK2
 clear hdel hV2 hr2 ho2 ht2 hp2 hs2 hx2 hVY hK1 hlow
 go_wp2_with fail
 with_reducible refine htg.mono ?_
 rintro e w3 ⟨A3, c3, rfl, hR3, hc3, hA3, hV3, hK3⟩
 have hfin : BytesPost X F w ((volTog s V st ms).1, (volTog s V st ms).2.1, (volTog s V st ms).2.2, V) (.returned (.tuple #[.slice A3 (volTog s V st ms).1.length c3, .int .i64 (volTog s V st ms).2.1])) w3 :=
  ⟨A3, c3, rfl, hR3, hc3, fun ad e => Nat.le_trans hK2.out.size (hA3 ad e), hV3.mono fun b hb => hb.imp .inl id, hK2.out.trans (hK3.mono fun b hb => .inl hb)⟩
 replace hfin := Lib.hid hfin
 clear htg hR3 hc3 hA3 hV3 hK3 hK2
 go_wp2_with fail
 go_ret2
 have hm' := hms.out
 subst hm'
 exact hfin.out
end
end
section
open Go.RowKit
section
variable {X : Nat → Prop} {F : VolF} {w w' : World} {s : ShM} {V : VolM}
theorem syncFrom_step (s : ShM) (V : VolM) (i f : Nat) : syncFrom s V i (f + 1) = if (volFl s V i).1 = 0 ∨ (volFl s V i).1 = 4 then syncFrom (volFl s V i).2.1 (volFl s V i).2.2 (i + 1) f else volFl s V i := rfl
theorem room_vfl {N : Nat} (h : Room N s) (V : VolM) (i : Nat) : Room N (volFl s V i).2.1 := room_dflush h _
theorem setDev_len (V : VolM) (i : Nat) (D : DevM) : (V.setDev i D).devs.length = V.devs.length := by simp [VolM.setDev]
theorem ra_dflush (h : VolX X F w s V) {i : Nat} (hi : i < V.devs.length) : Calls Try.prog 21 #[.pointer (some ⟨F.a i, 0, none⟩)] w (PutPost_ X F w (volFl s V i)) := by
 refine (su_flush (h.toDev hi)).mono ?_
 rintro e w' ⟨rfl, hD, hK⟩
 have hf := fits_flush s (V.dev i)
 obtain ⟨h1, h2⟩ := h.wrote hi hD hK hf.n hf.z hf.d hf.b
 exact ⟨rfl, h1, h2⟩
theorem ra_sync (h : VolX X F w s V) (hroom : Room 999999999990 s) : Calls Try.prog 43 #[.pointer (some ⟨F.v, 0, none⟩)] w (PutPost_ X F w (volSync s V)) := by
 unfold volSync
 have c9 := h.c 9
 have hvlt := h.vlt
 have hl17 := h.ok.len17
 simp only [volR] at c9
 obtain ⟨n, hn⟩ : ∃ n, n = V.devs.length := ⟨_, rfl⟩
 rw [← hn] at c9 hl17
 rw [← hn]
 obtain ⟨T, hT⟩ : ∃ T, T = syncFrom s V 0 n := ⟨_, rfl⟩
 rw [← hT]
 have hT0 : Hid (T = syncFrom s V 0 (n - 0)) := Lib.hid hT
 have hK0 : Kept X w w := Kept.refl _ _
 replace h := Lib.hid h
 replace hn := Lib.hid hn
 clear hT
 go_enter Try.func43, Try.ntmps43
 go_wp2_with fail
 go_loopw [11] (fun q wr => ∃ (k : Nat) (s' : ShM) (V' : VolM), q = .int .i64 k ∧ k ≤ n ∧ Hid (n = V'.devs.length) ∧ Hid (T = syncFrom s' V' k (n - k)) ∧ Hid (VolX X F wr s' V') ∧ Hid (Kept X w wr) ∧ Hid (Room 999999999990 s'))
  (fun q _ => n - (intOf q).toNat)
 case atStart => exact ⟨0, s, V, by go_num, by omega, hn, hT0, h, Lib.hid hK0, Lib.hid hroom⟩
 case round =>
  clear hT0 h hK0 hroom c9 hvlt hn
  obtain ⟨k, s', V', rfl, hk, hn, hT, hV, hK, hroom⟩ := hrel
  by_cases hlk : k < n
  ·have hkl : k < V'.devs.length := by rw [← hn.out]; exact hlk
   have hcell := hV.out.cDev hkl
   unfold ptrV at hcell
   have hct := ra_dflush hV.out hkl
   have hstep : Hid (T = _) := Lib.hid (hT.out.trans (by rw [show n - k = (n - (k + 1)) + 1 by omega, syncFrom_step]))
   have hroom' := Lib.hid (room_vfl hroom.out V' k)
   have hn' : Hid (n = (volFl s' V' k).2.2.devs.length) := Lib.hid (by rw [hn.out]; exact (setDev_len V' k _).symm)
   generalize volFl s' V' k = r at *
   obtain ⟨er, s2, V2⟩ := r
   dsimp only at hct hstep hroom' hn'
   clear hT hroom hkl hn hV
   go_wp2_with fail
   with_reducible refine hct.mono ?_
   rintro e w1 ⟨rfl, hV1, hK1⟩
   dsimp only at hV1
   have hK01 : Hid (Kept X w w1) := Lib.hid (hK.out.trans hK1)
   replace hV1 := Lib.hid hV1
   clear hct hK hK1 hcell
   by_cases h0 : er = 0
   ·subst h0
    have hT4 : Hid (T = syncFrom s2 V2 (k + 1) (n - (k + 1))) := Lib.hid (hstep.out.trans (if_pos (.inl rfl)))
    clear hstep
    go_wp2_with fail
    go_roundw
    case rel => exact ⟨k + 1, s2, V2, by go_num, by omega, hn', hT4, hV1, hK01, hroom'⟩
    case measure => simp [intOf]; omega
   ·have h0' : (er != 0) = true := by rw [bne_iff_ne]; exact h0
    by_cases h4 : er = 4
    ·subst h4
     have hT4 : Hid (T = syncFrom s2 V2 (k + 1) (n - (k + 1))) := Lib.hid (hstep.out.trans (if_pos (.inr rfl)))
     clear hstep h0 h0'
     go_wp2_with fail
     go_roundw
     case rel => exact ⟨k + 1, s2, V2, by go_num, by omega, hn', hT4, hV1, hK01, hroom'⟩
     case measure => simp [intOf]; omega
    ·have h4' : (er != 4) = true := by rw [bne_iff_ne]; exact h4
     have hT4 : T = (er, s2, V2) := hstep.out.trans (if_neg (by simp [h0, h4]))
     have hfin : PutPost_ X F w T (.returned (.int .i64 er)) w1 := by
      rw [hT4]
      exact ⟨rfl, hV1.out, hK01.out⟩
     replace hfin := Lib.hid hfin
     clear hstep h0 h4 hT4 hV1 hK01
     go_wp2_with fail
     go_ret
     exact hfin.out
  ·obtain rfl : k = n := by omega
   have hT1 : T = (0, s', V') := by
    rw [hT.out, Nat.sub_self]
    rfl
   have hfin : PutPost_ X F w T (.returned (.int .i64 0)) wr := by
    rw [hT1]
    exact ⟨rfl, hV.out, hK.out⟩
   replace hfin := Lib.hid hfin
   clear hT hT1 hV hK hroom hn
   go_wp2_with fail
   go_ret
   exact hfin.out
end
end
section
open Go.RowKit
section
variable {X : Nat → Prop} {F : VolF} {w w' : World} {s : ShM} {V : VolM}
theorem clrIn_step (s : ShM) (V : VolM) (i n f : Nat) : clrIn s V i n (f + 1) = if V.used.contains (i, n) then (if (volClr s V i n).1 = 0 ∨ (volClr s V i n).1 = 4 then clrIn (volClr s V i n).2.1 (volClr s V i n).2.2 i (n + 1) f else volClr s V i n) else clrIn s V i (n + 1) f := rfl
theorem clrFrom_step (s : ShM) (V : VolM) (i f : Nat) : clrFrom s V i (f + 1) = if (clrIn s V i 0 V.logs).1 = 0 then clrFrom (clrIn s V i 0 V.logs).2.1 (clrIn s V i 0 V.logs).2.2 (i + 1) f else clrIn s V i 0 V.logs := rfl
theorem room_vclr {N : Nat} (h : Room N s) (V : VolM) (d n : Nat) : Room (N + 4) (volClr s V d n).2.1 := by
 unfold volClr logClear
 split
 ·exact room_dwrite h _ _ _
 ·exact h.mono (by omega)
theorem fits_clear (s : ShM) (D : DevM) (k : Nat) (slot : Int) : Fits s D (logClear s D k slot) := by
 unfold logClear
 split
 ·exact fits_dwrite _ _ _ _
 ·exact Fits.refl _ _ _
theorem ra_clear (h : VolX X F w s V) (hroom : Room 999999999980 s) {i : Nat} (hi : i < V.devs.length) (n : Nat) : Calls Try.prog 44 #[.pointer (some ⟨F.l i, 0, none⟩), .int .i64 (n : Int)] w (PutPost_ X F w (volClr s V i n)) := by
 have hl8 : V.logs ≤ 8 := by have := h.ok.lN; have := h.ok.l8; omega
 have hlin : F.l i ∈ F.own := F.l_in (by rw [h.llen]; exact hi)
 refine (lg_clear (h.toDev hi) (h.log i hi) (.inr ⟨hlin, fun e => (h.a_other hi).2.2.2.2.2 i hi e.symm⟩) hl8 hroom n).mono ?_
 rintro e w' ⟨rfl, hD, hK⟩
 have hf := fits_clear s (V.dev i) V.logs n
 obtain ⟨h1, h2⟩ := h.wrote hi hD hK hf.n hf.z hf.d hf.b
 exact ⟨rfl, h1, h2⟩
theorem volFlush_err (h : ¬ (volSync s V).1 = 0) : volFlush s V = volSync s V := by unfold volFlush; rw [if_neg h]
theorem volFlush_none (h : (volSync s V).1 = 0) (h2 : (volSync s V).2.2.used = []) : volFlush s V = (0, (volSync s V).2.1, (volSync s V).2.2.clean) := by unfold volFlush; rw [if_pos h, if_pos h2]
theorem volFlush_some (h : (volSync s V).1 = 0) (h2 : ¬ (volSync s V).2.2.used = []) : volFlush s V = (let c := clrFrom (volSync s V).2.1 (volSync s V).2.2 0 (volSync s V).2.2.devs.length
  if c.1 = 0 then (let q := volSync c.2.1 c.2.2; if q.1 = 0 then (0, q.2.1, q.2.2.clean) else q) else c) := by unfold volFlush; rw [if_pos h, if_neg h2]
theorem syncFrom_room {N : Nat} : ∀ (f : Nat) (s : ShM) (V : VolM) (i : Nat), Room N s → Room N (syncFrom s V i f).2.1
 | 0, _, _, _, h => h
 | f + 1, s, V, i, h => by
  rw [syncFrom_step]
  split
  ·exact syncFrom_room f _ _ _ (room_vfl h V i)
  ·exact room_vfl h V i
theorem volSync_room {N : Nat} (h : Room N s) (V : VolM) : Room N (volSync s V).2.1 := syncFrom_room _ _ _ _ h
theorem VolX.cleaned (h : VolX X F w s V) {o1 o2 : Obj} (h1 : MapSet natK smallN unitV (setBlk w F.bo o1) F.bo []) (h2 : MapSet slotK smallP unitV (setBlk (setBlk w F.bo o1) F.bu o2) F.bu []) : VolX X F (setBlk (setBlk w F.bo o1) F.bu o2) s V.clean ∧ Kept X w (setBlk (setBlk w F.bo o1) F.bu o2) := by
 obtain ⟨a1, a2⟩ := h.setOpens h1
 obtain ⟨b1, b2⟩ := a1.setUsed h2
 exact ⟨b1, a2.trans b2⟩
theorem VolX.slots8 (h : VolX X F w s V) : V.logs ≤ 8 := by have := h.ok.lN; have := h.ok.l8; omega
theorem VolX.cLogs (h : VolX X F w s V) : w.cell? ⟨F.v, 4, none⟩ = some (.int .i64 (V.logs : Int)) := by
 have := h.c 4
 rw [h.ok.lN]
 exact this
set_option maxHeartbeats 8000000 in
theorem ra_flush (h : VolX X F w s V) (hroom : Room 999999990000 s) : Calls Try.prog 13 #[.pointer (some ⟨F.v, 0, none⟩)] w (PutPost_ X F w (volFlush s V)) := by
 have hsy := ra_sync h (hroom.mono (by omega))
 have hroom1 := volSync_room hroom V
 obtain ⟨T, hT⟩ : ∃ T, T = volFlush s V := ⟨_, rfl⟩
 rw [← hT]
 have hE := fun h => hT.trans (volFlush_err (s := s) (V := V) h)
 have hN := fun h h2 => hT.trans (volFlush_none (s := s) (V := V) h h2)
 have hS := fun h h2 => hT.trans (volFlush_some (s := s) (V := V) h h2)
 clear h hT hroom
 generalize volSync s V = r at *
 obtain ⟨er, s1, V1⟩ := r
 dsimp only at hE hN hS hroom1
 replace hE := Lib.hid hE
 replace hN := Lib.hid hN
 replace hS := Lib.hid hS
 replace hroom1 := Lib.hid hroom1
 go_enter Try.func13, Try.ntmps13
 go_wp2_with fail
 with_reducible refine hsy.mono ?_
 rintro e w1 ⟨rfl, hV1, hK1⟩
 dsimp only at hV1
 clear hsy
 by_cases h0 : er = 0
 ·subst h0
  have c12 := hV1.c 12
  have hvlt := hV1.vlt
  simp only [volR] at c12
  have hlen := hV1.used.len_eq 3 Try.setSlot
  by_cases hu : V1.used = []
  ·have hTn := hN.out rfl hu
   rw [hu] at hlen
   obtain ⟨o1, hr1, hM1⟩ := hV1.opens.clear 0 Try.setInt
   have hu1 : MapSet slotK smallP unitV (setBlk w1 F.bo o1) F.bu V1.used := hV1.used.of_block (setBlk_ne _ _ _ _ hV1.bobu.symm)
   obtain ⟨o2, hr2, hM2⟩ := hu1.clear 0 Try.setSlot
   have c11 := hV1.c 11
   simp only [volR] at c11
   obtain ⟨hV2, hK2⟩ := hV1.cleaned hM1 hM2
   have c12' : (setBlk w1 F.bo o1).cell? ⟨F.v, 12, none⟩ = some (.map (some F.bu)) := by
    rw [World.cell?_of_block (setBlk_ne w1 F.bo F.v o1 (by have := hV1.nd; simp only [VolF.own, List.nodup_cons, List.mem_cons, not_or] at this; exact this.1.2.2.1))]
    exact c12
   have hfin : PutPost_ X F w T (.returned (.int .i64 0)) (setBlk (setBlk w1 F.bo o1) F.bu o2) := by
    rw [hTn]
    exact ⟨rfl, hV2, hK1.trans hK2⟩
   replace hfin := Lib.hid hfin
   clear hV1 hK1 hV2 hK2 hM1 hM2 hu1 hTn hu
   go_wp2_with fail
   go_ret
   exact hfin.out
  ·have hTs := hS.out rfl hu
   have hpos : (0 < V1.used.length) = True := by simp [List.length_pos_iff.2 hu]
   obtain ⟨n, hn⟩ : ∃ n, n = V1.devs.length := ⟨_, rfl⟩
   have c10 := hV1.c 10
   simp only [volR] at c10
   rw [← hn] at c10 hTs
   have hl17 := hV1.ok.len17
   rw [← hn] at hl17
   obtain ⟨L, hL⟩ : ∃ L, L = V1.logs := ⟨_, rfl⟩
   have hL8 : L ≤ 8 := by rw [hL]; exact hV1.slots8
   obtain ⟨C, hC⟩ : ∃ C, C = clrFrom s1 V1 0 n := ⟨_, rfl⟩
   have hC0 : Hid (C = clrFrom s1 V1 0 (n - 0)) := Lib.hid hC
   rw [← hC] at hTs
   replace hTs := Lib.hid hTs
   replace hV1 := Lib.hid hV1
   replace hK1 := Lib.hid hK1
   replace hn := Lib.hid hn
   replace hL := Lib.hid hL
   clear hC hE hN hS hu
   go_wp2_with fail
   go_loopw [29] (fun q wr => ∃ (i : Nat) (s' : ShM) (V' : VolM), q = .int .i64 i ∧ i ≤ n ∧ Hid (n = V'.devs.length) ∧ Hid (L = V'.logs) ∧ Hid (C = clrFrom s' V' i (n - i)) ∧ Hid (VolX X F wr s' V') ∧ Hid (Kept X w wr) ∧ Hid (Room (999999990000 + 32 * i) s'))
    (fun q _ => n - (intOf q).toNat)
   case atStart => exact ⟨0, s1, V1, by go_num, by omega, hn, hL, hC0, hV1, hK1, hroom1⟩
   case round =>
    clear hC0 hV1 hK1 hroom1 c12 c10 hvlt hlen hpos hn hL
    obtain ⟨i, s', V', rfl, hi, hn, hL, hC, hV, hK, hroom⟩ := hrel
    by_cases hin : i < n
    ·have hil : i < V'.devs.length := by rw [← hn.out]; exact hin
     have hcell := hV.out.cLog hil
     unfold ptrV at hcell
     have hcl := hV.out.cLogs
     rw [← hL.out] at hcl
     have hvlt := hV.out.vlt
     obtain ⟨D, hD⟩ : ∃ D, D = clrIn s' V' i 0 L := ⟨_, rfl⟩
     have hstep : Hid (C = _) := Lib.hid (hC.out.trans (by rw [show n - i = (n - (i + 1)) + 1 by omega, clrFrom_step, ← hL.out, ← hD]))
     have hD0 : Hid (D = clrIn s' V' i 0 (L - 0)) := Lib.hid hD
     obtain ⟨li, hli⟩ : ∃ li, li = F.l i := ⟨_, rfl⟩
     rw [← hli] at hcell
     replace hli := Lib.hid hli
     clear hD hC hil
     go_wp2_with fail
     go_loopw [39] (fun q wr => ∃ (k : Nat) (s' : ShM) (V' : VolM), q = .int .i64 k ∧ k ≤ L ∧ Hid (n = V'.devs.length) ∧ Hid (L = V'.logs) ∧ Hid (D = clrIn s' V' i k (L - k)) ∧ Hid (VolX X F wr s' V') ∧ Hid (Kept X w wr) ∧ Hid (Room (999999990000 + 32 * i + 4 * k) s'))
      (fun q _ => L - (intOf q).toNat)
     case atStart => exact ⟨0, s', V', by go_num, by omega, hn, hL, hD0, hV, hK, hroom⟩
     case round =>
      clear hD0 hV hK hroom hcl hcell hvlt hn hL
      obtain ⟨k, s3, V3, rfl, hk, hn, hL, hD, hV, hK, hroom⟩ := hrel
      by_cases hkL : k < L
      ·have hil : i < V3.devs.length := by rw [← hn.out]; exact hin
       have hlook := hV.out.used.look Try.setSlot (i, k) ⟨by unfold smallN; omega, by unfold smallN; omega⟩
       unfold slotK unitV at hlook
       dsimp only at hlook
       have c12 := hV.out.c 12
       simp only [volR] at c12
       have hvlt := hV.out.vlt
       have hstep2 : Hid (D = _) := Lib.hid (hD.out.trans (by rw [show L - k = (L - (k + 1)) + 1 by omega, clrIn_step]))
       have hVa := hV.out.alloc (.cells #[] 84)
       have hKa : Hid (Kept X w (wr.alloc (.cells #[] 84))) := Lib.hid (hK.out.trans (Kept.of_below (below_made' _ _) hV.out.lt))
       have hct := ra_clear hVa (hroom.out.mono (by omega)) hil k
       rw [← hli.out] at hct
       have hroom' := Lib.hid (room_vclr hroom.out V3 i k)
       have hn' : Hid (n = (volClr s3 V3 i k).2.2.devs.length) := Lib.hid (by rw [hn.out]; exact (setDev_len V3 i _).symm)
       have hL' : Hid (L = (volClr s3 V3 i k).2.2.logs) := Lib.hid hL.out
       have hroom4 : Hid (Room (999999990000 + 32 * i + 4 * (k + 1)) s3) := Lib.hid (hroom.out.mono (by omega))
       generalize volClr s3 V3 i k = r at *
       obtain ⟨er, s4, V4⟩ := r
       dsimp only at hct hstep2 hroom' hn' hL'
       replace hVa := Lib.hid hVa
       clear hD hroom hil hV hK
       cases hu : V3.used.contains (i, k) with
       | true =>
        rw [hu] at hlook hstep2
        replace hstep2 := Lib.hid (hstep2.out.trans (if_pos rfl))
        go_wp2_with fail
        with_reducible refine hct.mono ?_
        rintro e w5 ⟨rfl, hV5, hK5⟩
        dsimp only at hV5
        have hK05 : Hid (Kept X w w5) := Lib.hid (hKa.out.trans hK5)
        replace hV5 := Lib.hid hV5
        clear hct hKa hK5 hlook c12 hu hVa hroom4
        by_cases h0 : er = 0
        ·subst h0
         have hD4 : Hid (D = clrIn s4 V4 i (k + 1) (L - (k + 1))) := Lib.hid (hstep2.out.trans (if_pos (.inl rfl)))
         clear hstep2
         go_wp2_with fail
         go_roundw
         case rel => exact ⟨k + 1, s4, V4, by go_num, by omega, hn', hL', hD4, hV5, hK05, Lib.hid (hroom'.out.mono (by omega))⟩
         case measure => simp [intOf]; omega
        ·have h0' : (er != 0) = true := by rw [bne_iff_ne]; exact h0
         by_cases h4 : er = 4
         ·subst h4
          have hD4 : Hid (D = clrIn s4 V4 i (k + 1) (L - (k + 1))) := Lib.hid (hstep2.out.trans (if_pos (.inr rfl)))
          clear hstep2 h0 h0'
          go_wp2_with fail
          go_roundw
          case rel => exact ⟨k + 1, s4, V4, by go_num, by omega, hn', hL', hD4, hV5, hK05, Lib.hid (hroom'.out.mono (by omega))⟩
          case measure => simp [intOf]; omega
         ·have h4' : (er != 4) = true := by rw [bne_iff_ne]; exact h4
          have hD4 : D = (er, s4, V4) := hstep2.out.trans (if_neg (by simp [h0, h4]))
          have hfin : PutPost_ X F w T (.returned (.int .i64 er)) w5 := by
           rw [hTs.out, hstep.out, hD4]
           simp only [h0, if_false]
           exact ⟨rfl, hV5.out, hK05.out⟩
          replace hfin := Lib.hid hfin
          clear hstep2 h0 h4 hD4 hV5 hK05
          go_wp2_with fail
          go_ret
          exact hfin.out
       | false =>
        rw [hu] at hlook hstep2
        have hD4 : Hid (D = clrIn s3 V3 i (k + 1) (L - (k + 1))) := Lib.hid (hstep2.out.trans (if_neg (by simp)))
        clear hstep2 hct hu hroom' hn' hL'
        go_wp2_with fail
        go_roundw
        case rel => exact ⟨k + 1, s3, V3, by go_num, by omega, hn, hL, hD4, hVa, hKa, hroom4⟩
        case measure => simp [intOf]; omega
      ·obtain rfl : k = L := by omega
       have hD1 : D = (0, s3, V3) := by
        rw [hD.out, Nat.sub_self]
        rfl
       have hC2 : Hid (C = clrFrom s3 V3 (i + 1) (n - (i + 1))) := Lib.hid (hstep.out.trans (by rw [hD1]; exact if_pos rfl))
       have hroom2 : Hid (Room (999999990000 + 32 * (i + 1)) s3) := Lib.hid (hroom.out.mono (by omega))
       clear hD1 hD hstep hroom
       go_wp2_with fail
       go_roundw
       case rel => exact ⟨i + 1, s3, V3, by go_num, by omega, hn, hL, hC2, hV, hK, hroom2⟩
       case measure => simp [intOf]; omega
    ·obtain rfl : i = n := by omega
     have hC1 : C = (0, s', V') := by
      rw [hC.out, Nat.sub_self]
      rfl
     have hsy := ra_sync hV.out (hroom.out.mono (by omega))
     rw [hC1] at hTs
     have hT5 : Hid (T = (if (volSync s' V').1 = 0 then (0, (volSync s' V').2.1, (volSync s' V').2.2.clean) else volSync s' V')) := Lib.hid (hTs.out.trans (if_pos rfl))
     generalize volSync s' V' = r at *
     obtain ⟨er, s6, V6⟩ := r
     dsimp only at hT5
     clear hC hC1 hV hroom hTs
     go_wp2_with fail
     with_reducible refine hsy.mono ?_
     rintro e w6 ⟨rfl, hV6, hK6⟩
     dsimp only at hV6
     have hK06 := hK.out.trans hK6
     clear hsy hK
     by_cases h0 : er = 0
     ·subst h0
      have c12 := hV6.c 12
      have hvlt := hV6.vlt
      simp only [volR] at c12
      obtain ⟨o1, hr1, hM1⟩ := hV6.opens.clear 0 Try.setInt
      have hu1 : MapSet slotK smallP unitV (setBlk w6 F.bo o1) F.bu V6.used := hV6.used.of_block (setBlk_ne _ _ _ _ hV6.bobu.symm)
      obtain ⟨o2, hr2, hM2⟩ := hu1.clear 0 Try.setSlot
      have c11 := hV6.c 11
      simp only [volR] at c11
      obtain ⟨hV2, hK2⟩ := hV6.cleaned hM1 hM2
      have c12' : (setBlk w6 F.bo o1).cell? ⟨F.v, 12, none⟩ = some (.map (some F.bu)) := by
       rw [World.cell?_of_block (setBlk_ne w6 F.bo F.v o1 (by have := hV6.nd; simp only [VolF.own, List.nodup_cons, List.mem_cons, not_or] at this; exact this.1.2.2.1))]
       exact c12
      have hfin : PutPost_ X F w T (.returned (.int .i64 0)) (setBlk (setBlk w6 F.bo o1) F.bu o2) := by
       rw [hT5.out, if_pos rfl]
       exact ⟨rfl, hV2, hK06.trans hK2⟩
      replace hfin := Lib.hid hfin
      clear hV6 hK6 hK06 hV2 hK2 hM1 hM2 hu1 hT5 hn hL
      go_wp2_with fail
      go_ret
      exact hfin.out
     ·have h0' : (er != 0) = true := by rw [bne_iff_ne]; exact h0
      have hfin : PutPost_ X F w T (.returned (.int .i64 er)) w6 := by
       rw [hT5.out, if_neg h0]
       exact ⟨rfl, hV6, hK06⟩
      replace hfin := Lib.hid hfin
      clear hV6 hK6 hK06 h0 hT5 hn hL
      go_wp2_with fail
      go_ret
      exact hfin.out
 ·have h0' : (er != 0) = true := by rw [bne_iff_ne]; exact h0
  have hfin : PutPost_ X F w T (.returned (.int .i64 er)) w1 := by
   rw [hE.out h0]
   exact ⟨rfl, hV1, hK1⟩
  replace hfin := Lib.hid hfin
  clear hV1 hK1 h0
  go_wp2_with fail
  go_ret
  exact hfin.out
end
end
section
open Go.RowKit
section
variable {X : Nat → Prop} {F : VolF} {w w' : World} {s : ShM} {V : VolM}
theorem VolX.cM (h : VolX X F w s V) : w.cell? ⟨F.v, 1, none⟩ = some (.int .i64 (V.m : Int)) := by
 have := h.c 1
 rw [h.ok.mN]
 exact this
theorem VolX.cS (h : VolX X F w s V) : w.cell? ⟨F.v, 3, none⟩ = some (.int .i64 (V.stripes : Int)) := by
 have := h.c 3
 rw [h.ok.sN]
 exact this
theorem ra_size (h : VolX X F w s V) : Calls Try.prog 24 #[.pointer (some ⟨F.v, 0, none⟩)] w fun e w' => e = .returned (.int .i64 (V.size : Nat)) ∧ ∃ n, w' = w.drewN n := by
 have c1 := h.cM
 have c3 := h.cS
 have hvlt := h.vlt
 have hm3 := h.ok.m3N
 have hm16 := h.ok.m16N
 have h1 := h.ok.st1
 have h2 := h.ok.st1024
 rw [← h.ok.sN] at h1 h2
 have hcp := lay_capacity V.m V.stripes hm3 hm16 (by omega) (by omega) w.drew
 unfold VolM.size
 have hb : V.stripes * (V.m - 1) ≤ 1024 * 15 := Nat.mul_le_mul (by omega) (by omega)
 generalize V.stripes * (V.m - 1) = z at *
 generalize V.stripes = st at *
 generalize V.m = m at *
 clear h
 go_enter Try.func24, Try.ntmps24
 go_wp2_with fail
 refine wp_region_held_drew (S := (fun W => W.cell? ⟨F.v, 1, none⟩ = some (.int .i64 (m : Nat)) ∧ W.cell? ⟨F.v, 3, none⟩ = some (.int .i64 (st : Nat)))) (by kernel_rfl) ?_ (fun hHeld => ?_)
 ·(try dsimp only)
  exact ⟨c1, c3⟩
 refine tkA 0 ?_
 refine tkA 1 ?_
 refine tkA 2 ?_
 refine tkA 3 ?_
 refine tkA 4 ?_
 refine tkA 5 ?_
 refine tkA 6 ?_
 refine tkA 7 ?_
 refine tkA 8 ?_
 refine tkA 9 ?_
 refine rkA 10 (fun K hK => ?_)
 go_simp
 with_reducible refine hcp.mono ?_
 rintro e wx ⟨rfl, rfl⟩
 (try go_wp2_with fail)
 refine hK.out _ _ ?_ (fun hHeld2 => ?_)
 ·(try dsimp only)
  exact hHeld
 clear hK K
 replace hHeld := hHeld2
 clear hHeld2
 (try simp only [pA, pN, pB, pC, pD])
 refine tkA 11 ?_
 refine tkA 12 ?_
 refine tkA 13 ?_
 refine tkA 14 ?_
 refine tkA 15 ?_
 refine wpAnyH_done (by kernel_rfl) ?_ _
 go_wp2_with fail
 go_ret
 exact ⟨rfl, 1, rfl⟩
def spotV (x : SpotM) : Value := .agg #[.int .i64 (x.stripe : Int), .int .i64 (x.member : Int), .int .i64 (x.place : Int)]
def noSpot : SpotM := ⟨0, 0, 0⟩
theorem ra_spot_bad (h : VolX X F w s V) (b : Int) (hb : ¬ (0 ≤ b ∧ b < V.size)) : Calls Try.prog 32 #[.pointer (some ⟨F.v, 0, none⟩), .int .i64 b] w fun e w' => e = .returned (.tuple #[spotV noSpot, .int .i64 1]) ∧ Below w.heap.size w w' := by
 have hx : b < 0 ∨ (0 ≤ b ∧ (V.size : Int) ≤ b) := by omega
 clear hb
 rcases hx with hx | ⟨hx, hx2⟩
 ·clear h
  go_enter Try.func32, Try.ntmps32
  go_wp2_with fail
  exact bodyPost_ret (results_row_tmp rfl _ _ w.heap.size 80 _ _ _ rfl (heap_alloc_new w _) Try.underlying80 rfl (by kernel_rfl)) rfl ⟨rfl, below_made' w _⟩
 ·have hsz := ra_size (h.alloc (.cells #[.int .i64 0, .int .i64 0, .int .i64 0] 80))
  generalize V.size = z at *
  clear h
  go_enter Try.func32, Try.ntmps32
  go_wp2_with fail
  with_reducible refine hsz.mono ?_
  rintro e wx ⟨rfl, n, rfl⟩
  clear hsz
  have hbw : Below w.heap.size w ((w.alloc (.cells #[.int .i64 0, .int .i64 0, .int .i64 0] 80)).drewN n) := below_drewN (below_made' w _) n
  have hrow : ((w.alloc (.cells #[.int .i64 0, .int .i64 0, .int .i64 0] 80)).drewN n).heap[w.heap.size]? = some (.cells #[.int .i64 0, .int .i64 0, .int .i64 0] 80) := heap_alloc_new w _
  generalize (w.alloc (.cells #[.int .i64 0, .int .i64 0, .int .i64 0] 80)).drewN n = w2 at *
  obtain ⟨d0, d1, d2, df⟩ := row3_cells w2 _ _ _ _ _ hrow
  have hblt := lt_of_row hrow
  replace hrow := Lib.hid hrow
  replace hbw := Lib.hid hbw
  go_wp2_with fail
  refine bodyPost_ret (results_row_tmp rfl _ _ w.heap.size 80 _ _ _ rfl (set3_row w2 _ _ _ _ _ _ _ _ hrow.out) Try.underlying80 rfl (by kernel_rfl)) rfl ?_
  exact ⟨rfl, set3_below hbw.out (Nat.le_refl _) _ _ _⟩
theorem ra_spot (h : VolX X F w s V) (b : Nat) (hb : b < V.size) : Calls Try.prog 32 #[.pointer (some ⟨F.v, 0, none⟩), .int .i64 (b : Int)] w fun e w' => e = .returned (.tuple #[spotV (spotN V.m b), .int .i64 0]) ∧ Below w.heap.size w w' := by
 have hsz := ra_size (h.alloc (.cells #[.int .i64 0, .int .i64 0, .int .i64 0] 80))
 have c1 : ∀ n, ((w.alloc (.cells #[.int .i64 0, .int .i64 0, .int .i64 0] 80)).drewN n).cell? ⟨F.v, 1, none⟩ = some (.int .i64 (V.m : Int)) := fun n => (h.alloc _).cM
 have hm3 := h.ok.m3N
 have hm16 := h.ok.m16N
 have h1 := h.ok.st1
 have h2 := h.ok.st1024
 rw [← h.ok.sN] at h1 h2
 have hbb : V.size ≤ 1024 * 15 := Nat.mul_le_mul (by omega) (by omega)
 have hvlt := h.vlt
 have hmap := fun n => lay_map V.m b hm3 hm16 (by omega) ((w.alloc (.cells #[.int .i64 0, .int .i64 0, .int .i64 0] 80)).drewN n)
 unfold spotV
 generalize spotN V.m b = x at *
 generalize V.size = z at *
 generalize V.m = m at *
 clear h
 go_enter Try.func32, Try.ntmps32
 go_wp2_with fail
 with_reducible refine hsz.mono ?_
 rintro e wx ⟨rfl, n, rfl⟩
 replace c1 := c1 n
 replace hmap := hmap n
 clear hsz
 go_wp2_with fail
 with_reducible refine hmap.mono ?_
 rintro e w2 ⟨rfl, hb2⟩
 have hlt1 : w.heap.size < (w.alloc (.cells #[.int .i64 0, .int .i64 0, .int .i64 0] 80)).heap.size := by simp
 have hrow : w2.heap[w.heap.size]? = some (.cells #[.int .i64 0, .int .i64 0, .int .i64 0] 80) := (hb2.block w.heap.size hlt1).trans (heap_alloc_new w _)
 obtain ⟨d0, d1, d2, df⟩ := row3_cells w2 _ _ _ _ _ hrow
 have hblt := lt_of_row hrow
 have hbw : Below w.heap.size w ((w.alloc (.cells #[.int .i64 0, .int .i64 0, .int .i64 0] 80)).drewN n) := below_drewN (below_made' w _) n
 have hbel : Below w.heap.size w w2 := hbw.trans (hb2.mono hbw.size)
 clear hbw
 clear hlt1
 replace hrow := Lib.hid hrow
 replace hbel := Lib.hid hbel
 clear hmap hb2
 go_wp2_with fail
 refine bodyPost_ret (results_row_tmp rfl _ _ w.heap.size 80 _ _ _ rfl (set3_row w2 _ _ _ _ _ _ _ _ hrow.out) Try.underlying80 rfl (by kernel_rfl)) rfl ?_
 exact ⟨rfl, set3_below hbel.out (Nat.le_refl _) _ _ _⟩
end
end
section
open Go.RowKit
section
variable {X : Nat → Prop} {F : VolF} {w w' : World} {s : ShM} {V : VolM}
theorem togL_room {N : Nat} (V : VolM) (st : Nat) : ∀ (l : List Nat) (s : ShM) (sum : Bytes), Room N s → Room N (togL s V st sum l).2.2
 | [], _, _, h => h
 | m :: l, s, sum, h => by
  rw [togL_step]
  have h1 := room_get h V m st
  split
  ·exact h1
  ·split
   ·exact h1
   ·exact togL_room V st l _ _ h1
theorem room_lost {N : Nat} (h : Room N s) (V : VolM) (m st : Nat) : Room N (volLost s V m st).2.2 := togL_room V st _ _ _ h
theorem spot_lt {m b : Nat} (hm : 0 < m) : (spotN m b).member < m := Nat.mod_lt _ hm
theorem spot_le {m b : Nat} : (spotN m b).stripe ≤ b := Nat.div_le_self _ _
set_option maxHeartbeats 8000000 in
theorem ra_read (h : VolX X F w s V) (hroom : Room 999999999990 s) (b : Nat) (hb : b < V.size) : Calls Try.prog 10 #[.pointer (some ⟨F.v, 0, none⟩), .int .i64 (b : Int)] w (BytesPost X F w (volRead s V (b : Int))) := by
 have hsp := ra_spot h b hb
 have hm0 : 0 < V.m := by have := h.ok.m3N; omega
 have hml := spot_lt (b := b) hm0
 have hbb : V.size ≤ 1024 * 15 := by
  have h1 := h.ok.st1024
  rw [← h.ok.sN] at h1
  have := h.ok.m16N
  exact Nat.mul_le_mul (by omega) (by omega)
 have hsl : (spotN V.m b).stripe ≤ 1000000 := Nat.le_trans spot_le (by omega)
 obtain ⟨T, hT⟩ : ∃ T, T = volRead s V (b : Int) := ⟨_, rfl⟩
 rw [← hT]
 have hT1 : Hid (T = _) := Lib.hid (hT.trans (by unfold volRead; rw [if_pos ⟨by omega, by omega⟩, Int.toNat_natCast]))
 dsimp only at hT1
 unfold spotV at hsp
 generalize spotN V.m b = x at *
 generalize V.size = z at *
 obtain ⟨st, mb, pl⟩ := x
 dsimp only at hsp hml hsl hT1
 replace h := Lib.hid h
 clear hT
 go_enter Try.func10, Try.ntmps10
 go_wp2_with fail
 with_reducible refine hsp.mono ?_
 rintro e w1 ⟨rfl, hb1⟩
 clear hsp
 obtain ⟨W, hW⟩ : ∃ W, W = w1.alloc (.cells #[.int .i64 (st : Int), .int .i64 (mb : Int), .int .i64 (pl : Int)] 80) := ⟨_, rfl⟩
 have hbW := below_made' w1 (.cells #[.int .i64 (st : Int), .int .i64 (mb : Int), .int .i64 (pl : Int)] 80)
 have hbox : W.heap[w1.heap.size]? = some (.cells #[.int .i64 (st : Int), .int .i64 (mb : Int), .int .i64 (pl : Int)] 80) := by rw [hW]; exact heap_alloc_new _ _
 rw [← hW] at hbW
 have hV0 := h.out.below hb1
 have hVW : VolX (fun b => X b ∨ b = w1.heap.size) F W s V := hV0.more hbW fun b hx => by
  rcases hx with hx | rfl
  ·exact ⟨Nat.lt_of_lt_of_le (hV0.lt b hx) hbW.size, .inl hx⟩
  ·exact ⟨lt_of_row hbox, .inr (Nat.le_refl _)⟩
 have hKW : Kept X w W := (Kept.of_below hb1 h.out.lt).trans (Kept.of_below hbW hV0.lt)
 have hge := hb1.size
 have hct := ra_getB hVW (hroom.mono (by omega)) mb st hml hsl
 have hroom1 := room_get hroom V mb st
 rw [hW] at hct
 generalize volGet s V mb st = r at *
 obtain ⟨rb, er, s1⟩ := r
 dsimp only at hct hT1 hroom1
 replace hbox := Lib.hid hbox
 replace hKW := Lib.hid hKW
 replace hroom1 := Lib.hid hroom1
 clear hb1 hbW hV0 hVW hroom h
 go_wp2_with fail
 with_reducible refine hct.mono ?_
 rintro e w2 ⟨A, c, rfl, hR2, hc2, hA2, hV2, hK2⟩
 dsimp only at hR2 hc2 hV2
 rw [← hW] at hK2 hA2
 have hbox2 := (hK2.block w1.heap.size (.inr rfl)).trans hbox.out
 have hKw2 : Kept X w w2 := hKW.out.trans (hK2.mono fun b hb => .inl hb)
 have hWs := hKW.out.size
 clear hct hW
 by_cases h1 : er = 0 ∨ er = 3
 ·have hT2 : T = (rb, er, s1, V) := hT1.out.trans (if_pos h1)
  have hfin : BytesPost X F w T (.returned (.tuple #[.slice A rb.length c, .int .i64 er])) w2 := by
   rw [hT2]
   exact ⟨A, c, rfl, hR2, hc2, fun ad e => Nat.le_trans hWs (hA2 ad e), hV2.mono fun b hb => hb.imp .inl id, hKw2⟩
  replace hfin := Lib.hid hfin
  clear hT1 hT2 hR2 hc2 hA2 hV2 hK2 hKw2 hbox2 hKW
  rcases h1 with rfl | rfl
  all_goals
   go_wp2_with fail
   go_ret2
   exact hfin.out
 ·have h0 : (er == 0) = false := by rw [beq_eq_false_iff_ne]; exact fun e => h1 (.inl e)
  have h3 : (er == 3) = false := by rw [beq_eq_false_iff_ne]; exact fun e => h1 (.inr e)
  replace hT1 := Lib.hid (hT1.out.trans (if_neg h1))
  have hV2' : VolX (fun b => X b ∨ b = w1.heap.size) F w2 s1 V := hV2.mono fun b hb => .inl hb
  have hlo := ra_lost hV2' (hroom1.out.mono (by omega)) mb st hsl
  have hroom2 := Lib.hid (room_lost hroom1.out V mb st)
  obtain ⟨d0, d1, d2, df⟩ := row3_cells w2 _ _ _ _ _ hbox2
  have hblt := lt_of_row hbox2
  generalize volLost s1 V mb st = q at *
  obtain ⟨qb, eq, s2⟩ := q
  dsimp only at hlo hT1 hroom2
  replace hKw2 := Lib.hid hKw2
  replace hbox2 := Lib.hid hbox2
  clear hR2 hc2 hA2 hV2 hV2' hK2 hbox hroom1 h1 hKW
  go_wp2_with fail
  with_reducible refine hlo.mono ?_
  rintro e w3 ⟨A3, c3, rfl, hR3, hc3, hA3, hV3, hK3⟩
  dsimp only at hR3 hc3 hV3
  have hbox3 := (hK3.block w1.heap.size (.inr rfl)).trans hbox2.out
  have hKw3 : Kept X w w3 := hKw2.out.trans (hK3.mono fun b hb => .inl hb)
  have hW2 := hKw2.out.size
  clear hlo d0 d1 d2 df hblt hbox2
  by_cases e0 : eq = 0
  ·subst e0
   replace hT1 := Lib.hid (hT1.out.trans (if_pos rfl))
   by_cases h5 : er = 5
   ·subst h5
    replace hT1 := Lib.hid (hT1.out.trans (if_pos rfl))
    have hpt := ra_put hV3 hroom2.out mb st hml hsl A3 qb.length c3 qb hR3 rfl (fun ad e => .inr ⟨ad, e, rfl⟩)
    obtain ⟨d0, d1, d2, df⟩ := row3_cells w3 _ _ _ _ _ hbox3
    have hblt := lt_of_row hbox3
    generalize volPut s2 V mb st qb = p at *
    obtain ⟨ep, s4, V4⟩ := p
    dsimp only at hpt hT1
    replace hR3 := Lib.hid hR3
    replace hA3 := Lib.hid hA3
    replace hKw3 := Lib.hid hKw3
    replace hc3 := Lib.hid hc3
    clear hV3 hroom2 hbox3 hK3 hKw2
    go_wp2_with fail
    with_reducible refine hpt.mono ?_
    rintro e w4 ⟨rfl, hV4, hK4⟩
    dsimp only at hV4
    have hKw4 : Kept X w w4 := hKw3.out.trans (hK4.mono fun b hb => .inl (.inl hb))
    have hR4 : Rd w4 A3 qb := hK4.rd hR3.out fun ad e => .inr ⟨ad, e, rfl⟩
    clear hpt d0 d1 d2 df hblt
    by_cases ep0 : ep = 0
    ·subst ep0
     have hT2 : T = (qb, 0, s4, V4) := hT1.out.trans (if_pos rfl)
     have hfin : BytesPost X F w T (.returned (.tuple #[.slice A3 qb.length c3, .int .i64 0])) w4 := by
      rw [hT2]
      exact ⟨A3, c3, rfl, hR4, hc3.out, fun ad e => Nat.le_trans hW2 (hA3.out ad e), hV4.mono fun b hb => hb.imp .inl id, hKw4⟩
     replace hfin := Lib.hid hfin
     clear hT1 hT2 hV4 hK4 hKw4 hR4
     go_wp2_with fail
     go_ret2
     exact hfin.out
    ·have hb0 : (ep != 0) = true := by rw [bne_iff_ne]; exact ep0
     have hT2 : T = ([], ep, s4, V4) := hT1.out.trans (if_neg ep0)
     have hfin : BytesPost X F w T (.returned (.tuple #[.slice none 0 0, .int .i64 ep])) w4 := by
      rw [hT2]
      exact ⟨none, 0, rfl, Rd.nil _, Nat.le_refl _, (fun ad e => by cases e), hV4.noneX fun b hb => .inl (.inl hb), hKw4⟩
     replace hfin := Lib.hid hfin
     clear hT1 hT2 hV4 hK4 hKw4 hR4 ep0
     go_wp2_with fail
     go_ret2
     exact hfin.out
   ·have h5' : (er == 5) = false := by rw [beq_eq_false_iff_ne]; exact h5
    have hT2 : T = (qb, 0, s2, V) := hT1.out.trans (if_neg h5)
    have hfin : BytesPost X F w T (.returned (.tuple #[.slice A3 qb.length c3, .int .i64 0])) w3 := by
     rw [hT2]
     exact ⟨A3, c3, rfl, hR3, hc3, fun ad e => Nat.le_trans hW2 (hA3 ad e), hV3.mono fun b hb => hb.imp .inl id, hKw3⟩
    replace hfin := Lib.hid hfin
    clear hT1 hT2 hR3 hc3 hA3 hV3 hK3 hKw3 hbox3 h5 hKw2
    go_wp2_with fail
    go_ret2
    exact hfin.out
  ·have hb0 : (eq != 0) = true := by rw [bne_iff_ne]; exact e0
   have hT2 : T = ([], eq, s2, V) := hT1.out.trans (if_neg e0)
   have hfin : BytesPost X F w T (.returned (.tuple #[.slice none 0 0, .int .i64 eq])) w3 := by
    rw [hT2]
    exact ⟨none, 0, rfl, Rd.nil _, Nat.le_refl _, (fun ad e => by cases e), hV3.noneX fun b hb => .inl (.inl hb), hKw3⟩
   replace hfin := Lib.hid hfin
   clear hT1 hT2 hR3 hc3 hA3 hV3 hK3 hKw3 hbox3 e0 hKw2
   go_wp2_with fail
   go_ret2
   exact hfin.out
theorem ra_read_bad (h : VolX X F w s V) (b : Int) (hb : ¬ (0 ≤ b ∧ b < V.size)) : Calls Try.prog 10 #[.pointer (some ⟨F.v, 0, none⟩), .int .i64 b] w (BytesPost X F w (volRead s V b)) := by
 have hsp := ra_spot_bad h b hb
 have hfin : ∀ w1, Below w.heap.size w w1 → BytesPost X F w (volRead s V b) (.returned (.tuple #[.slice none 0 0, .int .i64 1])) (w1.alloc (.cells #[.int .i64 0, .int .i64 0, .int .i64 0] 80)) := fun w1 hb1 => by
  unfold volRead
  rw [if_neg hb]
  have hb2 := hb1.alloc hb1.size (.cells #[.int .i64 0, .int .i64 0, .int .i64 0] 80)
  exact ⟨none, 0, rfl, Rd.nil _, Nat.le_refl _, (fun ad e => by cases e), (h.below hb2).noneX fun b hb => hb, Kept.of_below hb2 h.lt⟩
 replace hfin := Lib.hid hfin
 clear h hb
 unfold spotV noSpot at hsp
 go_enter Try.func10, Try.ntmps10
 go_wp2_with fail
 with_reducible refine hsp.mono ?_
 rintro e w1 ⟨rfl, hb1⟩
 replace hfin := Lib.hid (hfin.out w1 hb1)
 clear hsp
 go_wp2_with fail
 go_ret2
 exact hfin.out
end
end
end Go.Proofs.Ytajnlhalanhicaa

/-
 Several texts of this work in one (merge.py): RaK, RaX, RaA, RaB.
-/
import Derived.Test.YtajnlhalanhicaaProg
import Derived.Test.YtajnlhalanhicaaMapS
import Derived.Test.YtajnlhalanhicaaShI
import Derived.Test.YtajnlhalanhicaaRaM
import Derived.Test.YtajnlhalanhicaaPpI
import Derived.Test.YtajnlhalanhicaaSupW
import Derived.Test.YtajnlhalanhicaaRaL
import Derived.Test.YtajnlhalanhicaaHeldTail
import Derived.Test.YtajnlhalanhicaaBase
import Derived.DeepKeys3
import Derived.StillTailTactics
namespace Go.Proofs.Ytajnlhalanhicaa
set_option linter.all false
set_option maxRecDepth 20000
section
open Go.RowKit Go.Maps Go.MapKept
def natK (x : Nat) : Value := .int .i64 (x : Int)
def slotK (x : Nat × Nat) : Value := .agg #[.int .i64 (x.1 : Int), .int .i64 (x.2 : Int)]
def smallP (x : Nat × Nat) : Prop := smallN x.1 ∧ smallN x.2
def unitV : Value := .agg #[]
theorem Try.slotKeyed : Keyed Try.prog 101 := Keyed.of_law (deep_law (m := 2) (by omega) (by kernel_rfl) (by kernel_rfl) (by kernel_rfl))
theorem Try.slotLits (x y : Nat) (hx : smallN x) (hy : smallN y) : ∃ l, keyOf Try.prog 101 (slotK (x, y)) = some l := by
 obtain ⟨m, hm⟩ := Try.someTypes
 have h1 : Try.prog.keyType 101 = true := by kernel_rfl
 have h2 : Try.prog.cellsOf 101 = 2 := by kernel_rfl
 have h3 : Try.prog.cellsOf 3 = 1 := by kernel_rfl
 have wx := wf_small hx
 have wy := wf_small hy
 unfold keyOf
 simp only [Try.underlying101]
 rw [if_pos (by simp [h1, slotK, Value.formed, Try.underlying101, h2]), hm]
 unfold Program.keyLits
 simp only [Try.underlying101, slotK, Value.cells]
 rw [if_pos ⟨by simp [h2], by kernel_rfl⟩]
 simp [h3, Program.keyLits, Try.underlying3, wx, wy]
theorem Try.setInt : SetMap Try.prog 88 3 84 natK smallN unitV where
 keyed := int_keyed Try.underlying3
 keys := fun x hx => ⟨_, keyOf_int_mk Try.underlying3 (wf_small hx)⟩
 inj := fun x y h => by simp only [natK, Value.int.injEq, true_and] at h; omega
 mu := Try.underlying88
 zero := fun w => Try.zeroValue84 w
theorem Try.setSlot : SetMap Try.prog 89 101 84 slotK smallP unitV where
 keyed := Try.slotKeyed
 keys := fun x hx => Try.slotLits x.1 x.2 hx.1 hx.2
 inj := fun x y h => by
  obtain ⟨a, b⟩ := x
  obtain ⟨c, d⟩ := y
  simp only [slotK, Value.agg.injEq, Array.mk.injEq, List.cons.injEq, Value.int.injEq, true_and, and_true] at h
  simp only [Prod.mk.injEq]
  omega
 mu := Try.underlying89
 zero := fun w => Try.zeroValue84 w
end
section
open Go.RowKit
structure VolF where
 v : Nat
 g : Nat
 db : Nat
 dc : Nat
 lb : Nat
 lc : Nat
 bo : Nat
 bu : Nat
 da : List Nat
 la : List Nat
def VolF.own (F : VolF) : List Nat := F.v :: F.db :: F.lb :: F.bo :: F.bu :: (F.da ++ F.la)
def VolF.a (F : VolF) (i : Nat) : Nat := F.da.getD i 0
def VolF.l (F : VolF) (i : Nat) : Nat := F.la.getD i 0
def ptrV (a : Nat) : Value := .pointer (some ⟨a, 0, none⟩)
def volR (F : VolF) (V : VolM) : Array Value := #[.int .i64 V.sup.gen, .int .i64 V.sup.members, .int .i64 V.sup.disk, .int .i64 V.sup.stripes, .int .i64 V.sup.logs, .int .i64 V.sup.spare, .int .i64 V.sup.mark, .int .i64 V.sup.cursor, .pointer (some ⟨F.g, 0, none⟩), .slice (some ⟨F.db, 0, none⟩) V.devs.length F.dc, .slice (some ⟨F.lb, 0, none⟩) V.devs.length F.lc, .map (some F.bo), .map (some F.bu), .int .i64 (V.base : Nat)]
structure VolOk (s : ShM) (V : VolM) : Prop where
 m3 : 3 ≤ V.sup.members
 m16 : V.sup.members ≤ 16
 st1 : 1 ≤ V.sup.stripes
 st1024 : V.sup.stripes ≤ 1024
 l1 : 1 ≤ V.sup.logs
 l8 : V.sup.logs ≤ 8
 sp0 : -1 ≤ V.sup.spare
 spM : V.sup.spare < V.sup.members
 mk0 : 0 ≤ V.sup.mark
 mkS : V.sup.mark ≤ V.sup.stripes
 mkN : V.sup.spare < 0 → V.sup.mark ≤ 0
 cu0 : 0 ≤ V.sup.cursor
 cuS : V.sup.cursor < V.sup.stripes
 g0 : 0 ≤ V.sup.gen
 gM : V.sup.gen ≤ 4611686018427387904
 k0 : 0 ≤ V.sup.disk
 kM : V.sup.disk ≤ 16
 len : V.devs.length = V.m ∨ V.devs.length = V.m + 1
 sp : 0 ≤ V.sup.spare → V.devs.length = V.m + 1
 slen : s.disks.length = V.devs.length
 dd : ∀ i, i < V.devs.length → (V.dev i).disk = i
 dz : ∀ i, i < V.devs.length → (V.dev i).size = (blocksI s.sectors).toNat
 need : V.base + V.stripes ≤ (blocksI s.sectors).toNat
section
variable {s s' : ShM} {V : VolM}
theorem VolOk.mN (h : VolOk s V) : (V.m : Int) = V.sup.members := by have := h.m3; unfold VolM.m; omega
theorem VolOk.lN (h : VolOk s V) : (V.logs : Int) = V.sup.logs := by have := h.l1; unfold VolM.logs; omega
theorem VolOk.sN (h : VolOk s V) : (V.stripes : Int) = V.sup.stripes := by have := h.st1; unfold VolM.stripes; omega
theorem VolOk.m3N (h : VolOk s V) : 3 ≤ V.m := by have := h.m3; unfold VolM.m; omega
theorem VolOk.m16N (h : VolOk s V) : V.m ≤ 16 := by have := h.m16; unfold VolM.m; omega
theorem VolOk.len17 (h : VolOk s V) : V.devs.length ≤ 17 := by have := h.m16N; have := h.len; omega
theorem VolOk.baseN (h : VolOk s V) : V.base ≤ 18 := by have := h.l8; unfold VolM.base; omega
theorem VolOk.diskN (h : VolOk s V) {member : Nat} (hm : member < V.m) (st : Nat) : V.diskOf member st < V.devs.length := by
 unfold VolM.diskOf
 have := h.len
 split
 ·rename_i h1
  have := h.sp (by omega)
  omega
 ·omega
theorem VolOk.step (h : VolOk s V) {i : Nat} {D : DevM} (h1 : s'.disks.length = s.disks.length) (h2 : s'.sectors = s.sectors) (h3 : D.disk = (V.dev i).disk) (h4 : D.size = (V.dev i).size) : VolOk s' (V.setDev i D) := by
 have hd : ∀ j, j < V.devs.length → ((V.setDev i D).dev j).disk = (V.dev j).disk ∧ ((V.setDev i D).dev j).size = (V.dev j).size := fun j hj => by
  unfold VolM.setDev VolM.dev
  by_cases e : i = j
  ·subst e
   simpa [List.getD, List.getElem?_set, hj, VolM.dev] using And.intro h3 h4
  ·simp [List.getD, List.getElem?_set, e]
 have hl : (V.setDev i D).devs.length = V.devs.length := by simp [VolM.setDev]
 exact ⟨h.m3, h.m16, h.st1, h.st1024, h.l1, h.l8, h.sp0, h.spM, h.mk0, h.mkS, h.mkN, h.cu0, h.cuS, h.g0, h.gM, h.k0, h.kM, by rw [hl]; exact h.len, by rw [hl]; exact h.sp, by rw [hl, h1]; exact h.slen,
  fun j hj => by rw [hl] at hj; rw [(hd j hj).1]; exact h.dd j hj, fun j hj => by rw [hl] at hj; rw [(hd j hj).2, h2]; exact h.dz j hj, by rw [h2]; exact h.need⟩
theorem VolOk.same (h : VolOk s V) (h1 : s'.disks.length = s.disks.length) (h2 : s'.sectors = s.sectors) : VolOk s' V :=
 ⟨h.m3, h.m16, h.st1, h.st1024, h.l1, h.l8, h.sp0, h.spM, h.mk0, h.mkS, h.mkN, h.cu0, h.cuS, h.g0, h.gM, h.k0, h.kM, h.len, h.sp, by rw [h1]; exact h.slen, h.dd, fun j hj => by rw [h2]; exact h.dz j hj, by rw [h2]; exact h.need⟩
theorem VolOk.sets (h : VolOk s V) (os : List Nat) (us : List (Nat × Nat)) : VolOk s { V with opens := os, used := us } :=
 ⟨h.m3, h.m16, h.st1, h.st1024, h.l1, h.l8, h.sp0, h.spM, h.mk0, h.mkS, h.mkN, h.cu0, h.cuS, h.g0, h.gM, h.k0, h.kM, h.len, h.sp, h.slen, h.dd, h.dz, h.need⟩
end
structure VolX (X : Nat → Prop) (F : VolF) (w : World) (s : ShM) (V : VolM) : Prop where
 sh : ShX (fun b => X b ∨ b ∈ F.own) F.g w s
 nd : F.own.Nodup
 out : ∀ b ∈ F.own, ¬ X b
 row : w.heap[F.v]? = some (.cells (volR F V) 91)
 dvs : RdV w (some ⟨F.db, 0, none⟩) (F.da.map ptrV)
 lgs : RdV w (some ⟨F.lb, 0, none⟩) (F.la.map ptrV)
 opens : MapSet natK smallN unitV w F.bo V.opens
 used : MapSet slotK smallP unitV w F.bu V.used
 alen : F.da.length = V.devs.length
 llen : F.la.length = V.devs.length
 dev : ∀ i, i < V.devs.length → w.heap[F.a i]? = some (.cells (devR F.g (V.dev i)) 119)
 log : ∀ i, i < V.devs.length → LogRow w (F.l i) (F.a i) V.logs
 ok : VolOk s V
section
variable {X Y : Nat → Prop} {F : VolF} {w w' : World} {s s' : ShM} {V : VolM}
theorem VolF.a_in (F : VolF) {i : Nat} (h : i < F.da.length) : F.a i ∈ F.own := by
 have : F.da.getD i 0 ∈ F.da := by simp [List.getD, h]
 unfold VolF.own VolF.a
 simp only [List.mem_cons, List.mem_append]
 exact .inr (.inr (.inr (.inr (.inr (.inl this)))))
theorem VolF.l_in (F : VolF) {i : Nat} (h : i < F.la.length) : F.l i ∈ F.own := by
 have : F.la.getD i 0 ∈ F.la := by simp [List.getD, h]
 unfold VolF.own VolF.l
 simp only [List.mem_cons, List.mem_append]
 exact .inr (.inr (.inr (.inr (.inr (.inr this)))))
theorem VolX.lt (h : VolX X F w s V) : ∀ b, X b → b < w.heap.size := fun b hb => h.sh.lt b (.inl hb)
theorem VolX.olt (h : VolX X F w s V) : ∀ b ∈ F.own, b < w.heap.size := fun b hb => h.sh.lt b (.inr hb)
theorem VolX.mono (h : VolX X F w s V) (hY : ∀ b, Y b → X b) : VolX Y F w s V :=
 { h with sh := h.sh.mono fun b hb => hb.imp (hY b) id, out := fun b hb hy => h.out b hb (hY b hy) }
theorem RdV.blk {w w' : World} {b : Nat} {vs : List Value} (h : RdV w (some ⟨b, 0, none⟩) vs) (hb : w'.heap[b]? = w.heap[b]?) : RdV w' (some ⟨b, 0, none⟩) vs :=
 ⟨h.1, h.2.1, fun ad e i hi => (World.cell?_of_block (by rw [add_block]; injection e with e; subst e; exact hb)).trans (h.2.2 ad e i hi)⟩
theorem VolX.rows (h : VolX X F w s V) (hS : ShX (fun b => Y b ∨ b ∈ F.own) F.g w' s') (ho : ∀ b ∈ F.own, ¬ Y b) (hb : ∀ b ∈ F.own, w'.heap[b]? = w.heap[b]?) (hok : VolOk s' V) : VolX Y F w' s' V where
 sh := hS
 nd := h.nd
 out := ho
 row := (hb _ (by simp [VolF.own])).trans h.row
 dvs := h.dvs.blk (hb _ (by simp [VolF.own]))
 lgs := h.lgs.blk (hb _ (by simp [VolF.own]))
 opens := h.opens.of_block (hb _ (by simp [VolF.own]))
 used := h.used.of_block (hb _ (by simp [VolF.own]))
 alen := h.alen
 llen := h.llen
 dev := fun i hi => (hb _ (F.a_in (by rw [h.alen]; exact hi))).trans (h.dev i hi)
 log := fun i hi => (hb _ (F.l_in (by rw [h.llen]; exact hi))).trans (h.log i hi)
 ok := hok
theorem VolX.below (h : VolX X F w s V) (hb : Below w.heap.size w w') : VolX X F w' s V :=
 h.rows (h.sh.below hb) h.out (fun b hm => hb.block b (h.olt b hm)) h.ok
theorem VolX.drew (h : VolX X F w s V) : VolX X F w.drew s V := h.below (Below.refl _ _).drew
theorem VolX.alloc (h : VolX X F w s V) (o : Obj) : VolX X F (w.alloc o) s V := h.below ((Below.refl _ _).alloc (Nat.le_refl _) _)
theorem VolX.more (h : VolX X F w s V) (hb : Below w.heap.size w w') (hY : ∀ b, Y b → b < w'.heap.size ∧ (X b ∨ w.heap.size ≤ b)) : VolX Y F w' s V :=
 h.rows (h.sh.more hb.size (fun b hlt _ => hb.block b hlt) fun b hx => by
  rcases hx with hx | hx
  ·exact ⟨(hY b hx).1, (hY b hx).2.imp (fun h => .inl h) id⟩
  ·exact ⟨Nat.lt_of_lt_of_le (h.olt b hx) hb.size, .inl (.inr hx)⟩)
  (fun b hm hy => by
   rcases (hY b hy).2 with h1 | h1
   ·exact h.out b hm h1
   ·have := h.olt b hm; omega) (fun b hm => hb.block b (h.olt b hm)) h.ok
theorem VolX.other (h : VolX X F w s V) (hs : w.heap.size ≤ w'.heap.size) (hb : ∀ b, b < w.heap.size → ¬ X b → w'.heap[b]? = w.heap[b]?) : VolX X F w' s V :=
 h.rows (h.sh.other hs fun b hlt hn => hb b hlt fun hx => hn (.inl hx)) h.out (fun b hm => hb b (h.olt b hm) (h.out b hm)) h.ok
theorem VolX.a_ne (h : VolX X F w s V) {i j : Nat} (hi : i < V.devs.length) (hj : j < V.devs.length) (hne : i ≠ j) : F.a i ≠ F.a j := by
 have hnd : F.da.Nodup := by
  have := h.nd
  simp only [VolF.own, List.nodup_cons, List.nodup_append] at this
  exact this.2.2.2.2.2.1
 intro e
 have h1 : i < F.da.length := by rw [h.alen]; exact hi
 have h2 : j < F.da.length := by rw [h.alen]; exact hj
 simp only [VolF.a, List.getD, List.getElem?_eq_getElem h1, List.getElem?_eq_getElem h2, Option.getD_some] at e
 exact hne ((List.getElem_inj hnd).1 e)
theorem VolX.a_other (h : VolX X F w s V) {i : Nat} (hi : i < V.devs.length) : F.a i ≠ F.v ∧ F.a i ≠ F.db ∧ F.a i ≠ F.lb ∧ F.a i ≠ F.bo ∧ F.a i ≠ F.bu ∧ ∀ j, j < V.devs.length → F.a i ≠ F.l j := by
 have hnd := h.nd
 have h1 : i < F.da.length := by rw [h.alen]; exact hi
 have hm : F.a i ∈ F.da := by simp [VolF.a, List.getD, h1]
 simp only [VolF.own, List.nodup_cons, List.nodup_append, List.mem_cons, List.mem_append, not_or] at hnd
 obtain ⟨⟨_, _, _, _, n1, _⟩, ⟨_, _, _, n2, _⟩, ⟨_, _, n3, _⟩, ⟨_, n4, _⟩, ⟨n5, _⟩, _, _, n6⟩ := hnd
 refine ⟨fun e => n1 (e ▸ hm), fun e => n2 (e ▸ hm), fun e => n3 (e ▸ hm), fun e => n4 (e ▸ hm), fun e => n5 (e ▸ hm), fun j hj e => ?_⟩
 have h2 : j < F.la.length := by rw [h.llen]; exact hj
 exact n6 _ hm (F.l j) (by simp [VolF.l, List.getD, h2]) e
def VolX.Z (X : Nat → Prop) (F : VolF) (i : Nat) (b : Nat) : Prop := X b ∨ (b ∈ F.own ∧ b ≠ F.a i)
theorem VolX.toDev (h : VolX X F w s V) {i : Nat} (hi : i < V.devs.length) : DvX (VolX.Z X F i) (F.a i) F.g w s (V.dev i) := by
 have hin : F.a i ∈ F.own := F.a_in (by rw [h.alen]; exact hi)
 refine ⟨h.sh.mono fun b hb => ?_, h.dev i hi, fun hz => ?_, ?_, ?_⟩
 ·rcases hb with (hb | hb) | hb
  ·exact .inl hb
  ·exact .inr hb.1
  ·subst hb; exact .inr hin
 ·rcases hz with hz | hz
  ·exact h.out _ hin hz
  ·exact hz.2 rfl
 ·rw [h.ok.dd i hi, h.ok.slen]; exact hi
 ·rw [h.ok.dz i hi]
  have := h.sh.ok.sectors4096
  have := blocksI_bounds s.sectors this
  omega
theorem dev_set (V : VolM) {i j : Nat} (D : DevM) (hj : j < V.devs.length) : (V.setDev i D).dev j = if i = j then D else V.dev j := by
 unfold VolM.setDev VolM.dev
 by_cases e : i = j
 ·subst e; simp [List.getD, hj]
 ·simp [List.getD, List.getElem?_set, e]
theorem VolX.ofDev (h : VolX X F w s V) {i : Nat} (hi : i < V.devs.length) {D' : DevM} (hD : DvX (VolX.Z Y F i) (F.a i) F.g w' s' D') (hK : Kept (VolX.Z X F i) w w') (hY : ∀ b ∈ F.own, ¬ Y b)
  (h1 : s'.disks.length = s.disks.length) (h2 : s'.sectors = s.sectors) (h3 : D'.disk = (V.dev i).disk) (h4 : D'.size = (V.dev i).size) : VolX Y F w' s' (V.setDev i D') ∧ Kept X w w' := by
 have hin : F.a i ∈ F.own := F.a_in (by rw [h.alen]; exact hi)
 obtain ⟨n1, n2, n3, n4, n5, n6⟩ := h.a_other hi
 have hb : ∀ b ∈ F.own, b ≠ F.a i → w'.heap[b]? = w.heap[b]? := fun b hm hne => hK.block b (.inr ⟨hm, hne⟩)
 have hl : (V.setDev i D').devs.length = V.devs.length := by simp [VolM.setDev]
 refine ⟨⟨hD.sh.mono fun b hb => ?_, h.nd, hY, ?_, h.dvs.blk (hb _ (by simp [VolF.own]) n2.symm), h.lgs.blk (hb _ (by simp [VolF.own]) n3.symm), h.opens.of_block (hb _ (by simp [VolF.own]) n4.symm), h.used.of_block (hb _ (by simp [VolF.own]) n5.symm),
  by rw [hl]; exact h.alen, by rw [hl]; exact h.llen, fun j hj => ?_, fun j hj => ?_, h.ok.step h1 h2 h3 h4⟩, hK.mono fun b hx => .inl hx⟩
 ·by_cases e : b = F.a i
  ·exact .inr e
  ·rcases hb with hb | hb
   ·exact .inl (.inl hb)
   ·exact .inl (.inr ⟨hb, e⟩)
 ·rw [hb _ (by simp [VolF.own]) n1.symm, h.row]
  unfold volR
  rw [hl]
  rfl
 ·rw [hl] at hj
  rw [dev_set V D' hj]
  by_cases e : i = j
  ·subst e
   rw [if_pos rfl]
   exact hD.row
  ·rw [if_neg e, hb _ (F.a_in (by rw [h.alen]; exact hj)) (fun x => h.a_ne hi hj e x.symm)]
   exact h.dev j hj
 ·rw [hl] at hj
  have := h.log j hj
  unfold LogRow at *
  rw [hb _ (F.l_in (by rw [h.llen]; exact hj)) (n6 j hj).symm]
  exact this
theorem VolX.c (h : VolX X F w s V) (k : Nat) : w.cell? ⟨F.v, k, none⟩ = (volR F V)[k]? := cell_of_row w F.v k _ _ _ h.row
theorem VolX.cDev (h : VolX X F w s V) {i : Nat} (hi : i < V.devs.length) : w.cell? ⟨F.db, i, none⟩ = some (ptrV (F.a i)) := by
 have h1 : i < F.da.length := by rw [h.alen]; exact hi
 have := h.dvs.cell i (by simpa using h1)
 rw [add_none] at this
 simpa [VolF.a, List.getD, h1] using this
theorem VolX.cLog (h : VolX X F w s V) {i : Nat} (hi : i < V.devs.length) : w.cell? ⟨F.lb, i, none⟩ = some (ptrV (F.l i)) := by
 have h1 : i < F.la.length := by rw [h.llen]; exact hi
 have := h.lgs.cell i (by simpa using h1)
 rw [add_none] at this
 simpa [VolF.l, List.getD, h1] using this
theorem setBlk_ne (w : World) (b k : Nat) (o : Obj) (h : k ≠ b) : (setBlk w b o).heap[k]? = w.heap[k]? := by
 simp only [setBlk, Array.getElem?_setIfInBounds]
 rw [if_neg (fun e => h e.symm)]
theorem setBlk_size (w : World) (b : Nat) (o : Obj) : (setBlk w b o).heap.size = w.heap.size := by simp [setBlk]
theorem VolX.maps (h : VolX X F w s V) {os : List Nat} {us : List (Nat × Nat)} (h1 : w'.os = w.os) (h2 : w'.tape = w.tape) (h3 : w'.output = w.output) (h4 : w'.heap.size = w.heap.size) (hb : ∀ k, k ≠ F.bo → k ≠ F.bu → w'.heap[k]? = w.heap[k]?)
  (ho : MapSet natK smallN unitV w' F.bo os) (hu : MapSet slotK smallP unitV w' F.bu us) : VolX X F w' s { V with opens := os, used := us } ∧ Kept X w w' := by
 have hnd := h.nd
 simp only [VolF.own, List.nodup_cons, List.nodup_append, List.mem_cons, List.mem_append, not_or] at hnd
 obtain ⟨⟨_, _, v3, v4, _, _⟩, ⟨_, d3, d4, _, _⟩, ⟨l3, l4, _, _⟩, ⟨_, o5, o6⟩, ⟨u5, u6⟩, _⟩ := hnd
 have ho1 : F.bo ∈ F.own := by simp [VolF.own]
 have hu1 : F.bu ∈ F.own := by simp [VolF.own]
 have ha : ∀ i, i < V.devs.length → F.a i ≠ F.bo ∧ F.a i ≠ F.bu := fun i hi => by
  obtain ⟨_, _, _, n4, n5, _⟩ := h.a_other hi
  exact ⟨n4, n5⟩
 have hl : ∀ i, i < V.devs.length → F.l i ≠ F.bo ∧ F.l i ≠ F.bu := fun i hi => by
  have hm : F.l i ∈ F.la := by
   have : i < F.la.length := by rw [h.llen]; exact hi
   simp [VolF.l, List.getD, this]
  exact ⟨fun e => o6 (e ▸ hm), fun e => u6 (e ▸ hm)⟩
 refine ⟨⟨h.sh.other (Nat.le_of_eq h4.symm) fun b _ hn => hb b (fun e => hn (.inr (e ▸ ho1))) (fun e => hn (.inr (e ▸ hu1))), h.nd, h.out, (hb _ v3 v4).trans h.row, h.dvs.blk (hb _ d3 d4), h.lgs.blk (hb _ l3 l4), ho, hu, h.alen, h.llen,
  fun i hi => (hb _ (ha i hi).1 (ha i hi).2).trans (h.dev i hi), fun i hi => (hb _ (hl i hi).1 (hl i hi).2).trans (h.log i hi), h.ok.sets os us⟩, h1, h2, h3, Nat.le_of_eq h4.symm, fun k hk => hb k (fun e => h.out _ ho1 (e ▸ hk)) (fun e => h.out _ hu1 (e ▸ hk))⟩
theorem VolX.bobu (h : VolX X F w s V) : F.bo ≠ F.bu := by
 have hnd := h.nd
 simp only [VolF.own, List.nodup_cons, List.mem_cons, not_or] at hnd
 exact hnd.2.2.2.1.1
theorem VolX.setOpens (h : VolX X F w s V) {os : List Nat} {o : Obj} (ho : MapSet natK smallN unitV (setBlk w F.bo o) F.bo os) : VolX X F (setBlk w F.bo o) s { V with opens := os } ∧ Kept X w (setBlk w F.bo o) :=
 h.maps rfl rfl rfl (setBlk_size _ _ _) (fun k hk _ => setBlk_ne _ _ _ _ hk) ho (h.used.of_block (setBlk_ne _ _ _ _ h.bobu.symm))
theorem VolX.setUsed (h : VolX X F w s V) {us : List (Nat × Nat)} {o : Obj} (hu : MapSet slotK smallP unitV (setBlk w F.bu o) F.bu us) : VolX X F (setBlk w F.bu o) s { V with used := us } ∧ Kept X w (setBlk w F.bu o) :=
 h.maps rfl rfl rfl (setBlk_size _ _ _) (fun k _ hk => setBlk_ne _ _ _ _ hk) (h.opens.of_block (setBlk_ne _ _ _ _ h.bobu)) hu
theorem VolX.vlt (h : VolX X F w s V) : F.v < w.heap.size := lt_of_row h.row
end
end
section
open Go.RowKit
theorem lay_may (m : Nat) (h3 : 3 ≤ m) (h16 : m ≤ 16) (w : World) : Calls Try.prog 95 #[.int .i64 (m : Int)] w fun e w' => e = .returned (.bool true) ∧ w = w' := by
 go_enter Try.func95, Try.ntmps95
 go_wp2
 all_goals go_ret
 all_goals exact ⟨by simp; omega, rfl⟩
theorem lay_parity (m st : Nat) (h3 : 3 ≤ m) (h16 : m ≤ 16) (hst : st ≤ 1000000) (w : World) : Calls Try.prog 79 #[.int .i64 (m : Int), .int .i64 (st : Int)] w fun e w' => e = .returned (.tuple #[.int .i64 (parN m st : Nat), .int .i64 0]) ∧ w = w' := by
 have hm := lay_may m h3 h16 w
 have hlt : st % m < m := Nat.mod_lt _ (by omega)
 have hp : ((parN m st : Nat) : Int) = (m : Int) - 1 - (st % m : Nat) := by unfold parN; omega
 go_enter Try.func79, Try.ntmps79
 go_wp2_with fail
 refine hm.mono ?_
 rintro e wx ⟨rfl, rfl⟩
 clear hm
 go_wp2_with fail
 go_ret2
 exact ⟨by simp [hp], rfl⟩
theorem lay_base (logs : Int) (h0 : -9223372036854775808 ≤ logs) (h1 : logs ≤ 9223372036854775807) (w : World) : Calls Try.prog 91 #[.int .i64 logs] w fun e w' => e = .returned (.tuple #[.int .i64 (if 1 ≤ logs ∧ logs ≤ 8 then 2 + 2 * logs else 0), .int .i64 (if 1 ≤ logs ∧ logs ≤ 8 then 0 else 1)]) ∧ w = w' := by
 have hx : logs < 1 ∨ (1 ≤ logs ∧ 8 < logs) ∨ (1 ≤ logs ∧ logs ≤ 8) := by omega
 rcases hx with hx | ⟨hx, hx2⟩ | ⟨hx, hx2⟩
 ·rw [if_neg (by omega), if_neg (by omega)]
  go_enter Try.func91, Try.ntmps91
  go_wp2
  go_ret2
  exact ⟨rfl, rfl⟩
 ·rw [if_neg (by omega), if_neg (by omega)]
  go_enter Try.func91, Try.ntmps91
  go_wp2
  go_ret2
  exact ⟨rfl, rfl⟩
 ·rw [if_pos ⟨hx, hx2⟩, if_pos ⟨hx, hx2⟩]
  go_enter Try.func91, Try.ntmps91
  go_wp2
  go_ret2
  exact ⟨rfl, rfl⟩
theorem lay_need (st logs : Int) (h0 : -9223372036854775808 ≤ logs) (h1 : logs ≤ 9223372036854775807) (w : World) : Calls Try.prog 90 #[.int .i64 st, .int .i64 logs] w fun e w' => e = .returned (.tuple #[.int .i64 (if 1 ≤ logs ∧ logs ≤ 8 ∧ 1 ≤ st ∧ st ≤ 1024 then 2 + 2 * logs + st else 0), .int .i64 (if 1 ≤ logs ∧ logs ≤ 8 ∧ 1 ≤ st ∧ st ≤ 1024 then 0 else 1)]) ∧ w = w' := by
 have hb := lay_base logs h0 h1 w
 by_cases hl : 1 ≤ logs ∧ logs ≤ 8
 ·rw [if_pos hl, if_pos hl] at hb
  obtain ⟨l1, l8⟩ := hl
  have hx : st < 1 ∨ (1 ≤ st ∧ 1024 < st) ∨ (1 ≤ st ∧ st ≤ 1024) := by omega
  rcases hx with hx | ⟨hx, hx2⟩ | ⟨hx, hx2⟩
  ·rw [if_neg (by omega), if_neg (by omega)]
   go_enter Try.func90, Try.ntmps90
   go_wp2_with fail
   refine hb.mono ?_
   rintro e wx ⟨rfl, rfl⟩
   clear hb
   go_wp2_with fail
   go_ret2
   exact ⟨rfl, rfl⟩
  ·rw [if_neg (by omega), if_neg (by omega)]
   go_enter Try.func90, Try.ntmps90
   go_wp2_with fail
   refine hb.mono ?_
   rintro e wx ⟨rfl, rfl⟩
   clear hb
   go_wp2_with fail
   go_ret2
   exact ⟨rfl, rfl⟩
  ·rw [if_pos ⟨l1, l8, hx, hx2⟩, if_pos ⟨l1, l8, hx, hx2⟩]
   go_enter Try.func90, Try.ntmps90
   go_wp2_with fail
   refine hb.mono ?_
   rintro e wx ⟨rfl, rfl⟩
   clear hb
   go_wp2_with fail
   go_ret2
   exact ⟨rfl, rfl⟩
 ·rw [if_neg hl, if_neg hl] at hb
  rw [if_neg (by omega), if_neg (by omega)]
  clear hl
  go_enter Try.func90, Try.ntmps90
  go_wp2_with fail
  refine hb.mono ?_
  rintro e wx ⟨rfl, rfl⟩
  clear hb
  go_wp2_with fail
  go_ret2
  exact ⟨rfl, rfl⟩
theorem lay_capacity (m st : Nat) (h3 : 3 ≤ m) (h16 : m ≤ 16) (h1 : 1 ≤ st) (hst : st ≤ 1024) (w : World) : Calls Try.prog 67 #[.int .i64 (m : Int), .int .i64 (st : Int)] w fun e w' => e = .returned (.tuple #[.int .i64 (st * (m - 1) : Nat), .int .i64 0]) ∧ w = w' := by
 have hm := lay_may m h3 h16 w
 have hb : st * (m - 1) ≤ 1024 * 15 := Nat.mul_le_mul hst (by omega)
 have hp : ((st * (m - 1) : Nat) : Int) = (st : Int) * ((m : Int) - 1) := by rw [Int.natCast_mul]; congr 1; omega
 have hw : IntKind.i64.wrap ((st : Int) * ((m : Int) - 1)) = (st : Int) * ((m : Int) - 1) := IntWalk.i64_in _ (by omega)
 go_enter Try.func67, Try.ntmps67
 go_wp2_with fail
 refine hm.mono ?_
 rintro e wx ⟨rfl, rfl⟩
 clear hm
 go_wp2_with fail
 go_ret2
 exact ⟨by simp [hp], rfl⟩
theorem lay_map (m b : Nat) (h3 : 3 ≤ m) (h16 : m ≤ 16) (hb : b ≤ 1000000) (w : World) : Calls Try.prog 76 #[.int .i64 (m : Int), .int .i64 (b : Int)] w fun e w' =>
  e = .returned (.tuple #[.agg #[.int .i64 ((spotN m b).stripe : Nat), .int .i64 ((spotN m b).member : Nat), .int .i64 ((spotN m b).place : Nat)], .int .i64 0]) ∧ Below w.heap.size w w' := by
 have hm := fun W => lay_may m h3 h16 W
 obtain ⟨q, rfl⟩ : ∃ q, m = q + 1 := ⟨m - 1, by omega⟩
 unfold spotN
 rw [Nat.add_sub_cancel]
 dsimp only
 have hq0 : (q = 0) = False := by simp; omega
 have hqd : (b : Int) / (q : Int) = ((b / q : Nat) : Int) := by simp
 have hqm : Int.tmod (b : Int) (q : Int) = ((b % q : Nat) : Int) := rfl
 have hs : b / q ≤ 1000000 := Nat.le_trans (Nat.div_le_self _ _) hb
 have hr : b % q < q := Nat.mod_lt _ (by omega)
 generalize b / q = st at *
 generalize b % q = pl at *
 have hpar := fun W => lay_parity (q + 1) st h3 h16 hs W
 have hp : parN (q + 1) st < q + 1 := parN_lt (by omega)
 have hfin : Int.tmod ((parN (q + 1) st : Int) + 1 + (pl : Int)) ((q : Int) + 1) = (((parN (q + 1) st + 1 + pl) % (q + 1) : Nat) : Int) := rfl
 have hflt : (parN (q + 1) st + 1 + pl) % (q + 1) < q + 1 := Nat.mod_lt _ (by omega)
 generalize (parN (q + 1) st + 1 + pl) % (q + 1) = mb at *
 generalize parN (q + 1) st = pa at *
 have hww : IntKind.i64.wrap (q : Int) = q := IntWalk.i64_in _ (by omega)
 go_enter Try.func76, Try.ntmps76
 go_wp2_with fail
 refine (hm _).mono ?_
 rintro e wx ⟨rfl, rfl⟩
 clear hm
 go_wp2_with fail
 refine wp_region_held_tail (S := (fun W => W.os = w.os)) 10 (by kernel_rfl) (by decide) ?_ (fun hHeld => ?_)
 ·(try dsimp only)
  rfl
 refine tkT 0 ?_
 refine tkT 1 ?_
 refine tkT 2 ?_
 refine tkT 3 ?_
 refine tkT 4 ?_
 refine tkT 5 ?_
 refine tkT 6 ?_
 refine tkT 7 ?_
 refine tkT 8 ?_
 refine rkT 9 (fun K hK => ?_)
 go_simp
 refine hK.out _ _ ?_ (fun hHeld2 => ?_)
 ·(try dsimp only)
  rfl
 clear hK K
 replace hHeld := hHeld2
 clear hHeld2
 (try simp only [pA, pN, pB, pC, pD])
 refine wt_tail (by kernel_rfl) ?_
 simp only [List.drop_succ_cons, List.drop_zero]
 go_wp2_with fail
 refine (hpar _).mono ?_
 rintro e wx ⟨rfl, rfl⟩
 clear hpar
 go_wp2_with fail
 exact bodyPost_ret (results_row_tmp rfl _ _ w.heap.size 80 _ _ _ rfl ((((Below.refl _ _).alloc (Nat.le_refl _) _).block w.heap.size (by simp)).trans (heap_alloc_new w _)) Try.underlying80 rfl (by kernel_rfl)) rfl ⟨rfl, (((Below.refl _ _).alloc (Nat.le_refl _) _).alloc (by simp) _).drew⟩
theorem Try.infoInt : (Try.prog.info? 3).map (fun i => (i.zero, i.size, i.bytes)) = some (some (.int .i64 0), 1, 8) := by kernel_rfl
theorem lay_members (m st : Nat) (h3 : 3 ≤ m) (h16 : m ≤ 16) (hst : st ≤ 1000000) (w : World) : Calls Try.prog 37 #[.int .i64 (m : Int), .int .i64 (st : Int)] w fun e w' =>
  ∃ A c, e = .returned (.tuple #[.slice A m c, .int .i64 0]) ∧ OwnV w' 3 w.heap.size (.slice A m c) ((memL m st).map natK) ∧ Below w.heap.size w w' := by
 have hpar := lay_parity m st h3 h16 hst w
 have hp : parN m st < m := parN_lt (by omega)
 have hm0 : (m = 0) = False := by simp; omega
 unfold memL
 generalize parN m st = p at *
 rw [List.map_map]
 obtain ⟨f, hf⟩ : ∃ f : Nat → Value, f = natK ∘ fun k => (p + 1 + k) % m := ⟨_, rfl⟩
 rw [← hf]
 have hfk : ∀ k, f k = .int .i64 (((p + 1 + k) % m : Nat) : Int) := fun k => by rw [hf]; rfl
 have hO0 : OwnV w 3 w.heap.size (.slice none 0 0) ((List.range 0).map f) := World.ownsRow_nil _ _ _ _
 have hB0 : Below w.heap.size w w := Below.refl _ _
 replace hf := Lib.hid hf
 replace hfk := Lib.hid hfk
 go_enter Try.func37, Try.ntmps37
 go_wp2_with fail
 refine hpar.mono ?_
 rintro e wx ⟨rfl, rfl⟩
 clear hpar
 go_wp2_with fail
 go_loopw [8, 20] (fun p q wr => ∃ (k : Nat) (A : Option Addr) (c : Nat), p = .slice A k c ∧ k ≤ m ∧ q = .int .i64 k ∧ Hid (OwnV wr 3 w.heap.size (.slice A k c) ((List.range k).map f)) ∧ Hid (Below w.heap.size w wr)) (fun _ q _ => m - (intOf q).toNat)
 case atStart => exact ⟨0, none, 0, rfl, by omega, by go_num, Lib.hid hO0, Lib.hid hB0⟩
 case round =>
  clear hO0 hB0
  obtain ⟨k, A, c, rfl, hk, rfl, hO, hB⟩ := hrel
  by_cases hlt : k < m
  ·have hrem : Int.tmod ((p : Int) + 1 + (k : Int)) (m : Int) = (((p + 1 + k) % m : Nat) : Int) := rfl
   have hrl : (p + 1 + k) % m < m := Nat.mod_lt _ (by omega)
   have hfk' := hfk.out k
   generalize (p + 1 + k) % m = z at *
   have hus : RdV (wr.alloc (.cells #[.int .i64 (z : Int)] 3)) (some ⟨wr.heap.size, 0, none⟩) [f k] := by
    rw [hfk']
    exact RdV.lit wr 3 [.int .i64 (z : Int)] (by simp)
   have hO1 := hO.out.alloc (.cells #[.int .i64 (z : Int)] 3)
   have hB1 : Below w.heap.size w (wr.alloc (.cells #[.int .i64 (z : Int)] 3)) := hB.out.alloc hB.out.size _
   have hsz := hB.out.size
   have hone : ∀ u ∈ [f k], u.oneCell' = true := by
    intro u hu
    simp only [List.mem_singleton] at hu
    subst hu
    rw [hfk']
    rfl
   replace hus := Lib.hid hus
   replace hO1 := Lib.hid hO1
   replace hB1 := Lib.hid hB1
   replace hone := Lib.hid hone
   clear hfk' hO hB
   go_wp2_with (at_builtin; refine wpList_append_v rfl _ _ 61 rfl w.heap.size 3 (.int .i64 0) 8 Try.underlying61 Try.infoInt rfl (.slice A k c) ((List.range k).map f) [f k] (some ⟨wr.heap.size, 0, none⟩) 1 1 rfl rfl hO1.out hus.out hone.out rfl (by simp [maxLen]; omega) (by simp; omega) (by simp; omega) ?_; intro v5 w5 hO5 hg5 hb5)
   have hO6 : OwnV w5 3 w.heap.size v5 ((List.range (k + 1)).map f) := by rw [List.range_succ, List.map_append]; exact hO5
   obtain ⟨A5, c5, rfl, _⟩ := hO6.form
   rw [List.length_map, List.length_range] at hO6
   replace hO6 := Lib.hid hO6
   have hB6 := Lib.hid (hB1.out.trans hb5)
   clear hus hO1 hB1 hone hO5 hg5 hb5
   rw [List.length_map, List.length_range]
   go_wp2_with fail
   go_roundw
   case rel => exact ⟨k + 1, A5, c5, rfl, by omega, by go_num, hO6, hB6⟩
   case measure => simp [intOf]; omega
  ·obtain rfl : k = m := by omega
   clear hlt
   go_wp2_with fail
   go_ret2
   exact ⟨A, c, rfl, hO.out, hB.out⟩
end
section
open Go.RowKit
section
variable {X : Nat → Prop} {F : VolF} {w w' : World} {s : ShM} {V : VolM}
theorem ra_disk (h : VolX X F w s V) (member st : Nat) : Calls Try.prog 77 #[.pointer (some ⟨F.v, 0, none⟩), .int .i64 (member : Int), .int .i64 (st : Int)] w fun e w' => e = .returned (.int .i64 (V.diskOf member st : Nat)) ∧ w = w' := by
 have c1 := h.c 1
 have c5 := h.c 5
 have c6 := h.c 6
 have hm := h.ok.mN
 have hlt := h.vlt
 simp only [volR] at c1 c5 c6
 unfold VolM.diskOf
 generalize V.sup.spare = sp at *
 generalize V.sup.mark = mk at *
 rw [← hm] at c1
 generalize V.m = m at *
 clear h hm
 by_cases h1 : (member : Int) = sp
 ·by_cases h2 : (st : Int) < mk
  ·rw [if_pos ⟨h1, h2⟩]
   have hb : ((member : Int) == sp) = true := by simp [h1]
   clear h1
   go_enter Try.func77, Try.ntmps77
   go_wp2
   go_ret
   exact ⟨rfl, rfl⟩
  ·rw [if_neg (fun h => h2 h.2)]
   have hb : ((member : Int) == sp) = true := by simp [h1]
   clear h1
   go_enter Try.func77, Try.ntmps77
   go_wp2
   go_ret
   exact ⟨rfl, rfl⟩
 ·rw [if_neg (fun h => h1 h.1)]
  have hb : ((member : Int) == sp) = false := by simp [h1]
  clear h1
  go_enter Try.func77, Try.ntmps77
  go_wp2
  go_ret
  exact ⟨rfl, rfl⟩
def GetPost (X : Nat → Prop) (F : VolF) (w : World) (V : VolM) (r : Bytes × Int × ShM) (e : Ending) (w' : World) : Prop :=
 ∃ v, e = .returned (.tuple #[v, .int .i64 r.2.1]) ∧ Fresh w w' v r.1 ∧ VolX (fun b => X b ∨ v.ownBlock = some b) F w' r.2.2 V ∧ Kept X w w'
def PutPost_ (X : Nat → Prop) (F : VolF) (w : World) (r : Int × ShM × VolM) (e : Ending) (w' : World) : Prop :=
 e = .returned (.int .i64 r.1) ∧ VolX X F w' r.2.1 r.2.2 ∧ Kept X w w'
theorem devRead_disks (s : ShM) (D : DevM) (n : Int) : (devRead s D n).2.2.disks = s.disks ∧ (devRead s D n).2.2.sectors = s.sectors := by
 have hr : ∀ (s : ShM) (d n : Int), (s.readR d n).2.2.disks = s.disks ∧ (s.readR d n).2.2.sectors = s.sectors := fun s d n => by
  simp only [ShM.readR]
  split
  ·split
   ·exact ⟨rfl, rfl⟩
   ·exact ⟨rfl, rfl⟩
  ·exact ⟨rfl, rfl⟩
 have hs : (devSector s D n).2.2.2.disks = s.disks ∧ (devSector s D n).2.2.2.sectors = s.sectors := by
  simp only [devSector]
  split
  ·split
   ·exact ⟨((hr _ _ _).1).trans (hr _ _ _).1, ((hr _ _ _).2).trans (hr _ _ _).2⟩
   ·exact hr _ _ _
  ·exact ⟨rfl, rfl⟩
 simp only [devRead]
 split
 ·split
  ·exact hs
  ·exact hs
 ·exact hs
theorem VolX.read (h : VolX X F w s V) {i : Nat} (hi : i < V.devs.length) {n : Int} {v : Value} (hf : Fresh w w' v (devRead s (V.dev i) n).1) (hD : DvX (fun b => VolX.Z X F i b ∨ v.ownBlock = some b) (F.a i) F.g w' (devRead s (V.dev i) n).2.2 (V.dev i)) (hK : Kept (VolX.Z X F i) w w') :
  VolX (fun b => X b ∨ v.ownBlock = some b) F w' (devRead s (V.dev i) n).2.2 V ∧ Kept X w w' := by
 have hd := devRead_disks s (V.dev i) n
 have := h.ofDev hi (Y := fun b => X b ∨ v.ownBlock = some b) (hD.mono fun b hb => ?_) hK (fun b hb hy => ?_) (by rw [hd.1]) hd.2 rfl rfl
 ·have e : V.setDev i (V.dev i) = V := by
   unfold VolM.setDev VolM.dev
   congr 1
   simp [List.getD, hi]
  rw [e] at this
  exact this
 ·rcases hb with (hb | hb) | hb
  ·exact .inl (.inl hb)
  ·exact .inr hb
  ·exact .inl (.inr hb)
 ·rcases hy with hy | hy
  ·exact h.out b hb hy
  ·have h1 := (hf.own b hy).1
   have h2 := h.olt b hb
   omega
set_option maxHeartbeats 1000000 in
theorem ra_get (h : VolX X F w s V) (hroom : Room 1000000000000 s) (member st : Nat) (hm : member < V.m) (hst : st ≤ 1000000) : Calls Try.prog 33 #[.pointer (some ⟨F.v, 0, none⟩), .int .i64 (member : Int), .int .i64 (st : Int)] w (GetPost X F w V (volGet s V member st)) := by
 have hdk := ra_disk h.drew member st
 have hi := h.ok.diskN hm st
 have hl17 := h.ok.len17
 have hb18 := h.ok.baseN
 have hvlt := h.vlt
 unfold volGet
 generalize V.diskOf member st = d at *
 have hrd := su_read (h.drew.toDev hi) hroom ((V.base + st : Nat) : Int) (by omega) (by omega)
 have c9 := h.c 9
 have c13 := h.c 13
 have cd := h.cDev hi
 have hd17 : d ≤ 17 := by omega
 simp only [volR] at c9 c13
 have hS2 : ∀ w2, Kept (VolX.Z X F d) w w2 → (w2.cell? ⟨F.v, 9, none⟩ = some (.slice (some ⟨F.db, 0, none⟩) V.devs.length F.dc) ∧ w2.cell? ⟨F.v, 13, none⟩ = some (.int .i64 (V.base : Nat)) ∧ w2.cell? ⟨F.db, d, none⟩ = some (.pointer (some ⟨F.a d, 0, none⟩))) := fun w2 hK => by
  obtain ⟨n1, n2, _⟩ := h.a_other hi
  have k1 := hK.block F.v (.inr ⟨by simp [VolF.own], n1.symm⟩)
  have k2 := hK.block F.db (.inr ⟨by simp [VolF.own], n2.symm⟩)
  exact ⟨(World.cell?_of_block k1).trans c9, (World.cell?_of_block k1).trans c13, (World.cell?_of_block k2).trans cd⟩
 replace h := Lib.hid h
 replace hS2 := Lib.hid hS2
 have hfin : ∀ v w2, Fresh w.drew w2 v (devRead s (V.dev d) ((V.base + st : Nat) : Int)).1 → DvX (fun b => VolX.Z X F d b ∨ v.ownBlock = some b) (F.a d) F.g w2 (devRead s (V.dev d) ((V.base + st : Nat) : Int)).2.2 (V.dev d) → Kept (VolX.Z X F d) w.drew w2 →
   GetPost X F w V (devRead s (V.dev d) ((V.base + st : Nat) : Int)) (.returned (.tuple #[v, .int .i64 (devRead s (V.dev d) ((V.base + st : Nat) : Int)).2.1])) w2 := fun v w2 hf hD hK => by
  obtain ⟨h1, h2⟩ := h.out.read hi hf hD ((Kept.drew _ w).trans hK)
  exact ⟨v, rfl, hf, h1, h2⟩
 replace hfin := Lib.hid hfin
 generalize devRead s (V.dev d) ((V.base + st : Nat) : Int) = r at *
 generalize F.a d = ad at *
 generalize V.base = bs at *
 generalize V.devs.length = dl at *
 unfold ptrV at cd
 have hwr : IntKind.i64.wrap ((bs : Int) + (st : Int)) = (bs : Int) + st := IntWalk.i64_in _ (by omega)
 rw [Int.natCast_add] at hrd
 go_enter Try.func33, Try.ntmps33
 go_wp2_with fail
 refine wp_region_held_drew (S := (fun W => W.cell? ⟨F.v, 9, none⟩ = some (.slice (some ⟨F.db, 0, none⟩) dl F.dc) ∧ W.cell? ⟨F.v, 13, none⟩ = some (.int .i64 (bs : Nat)) ∧ W.cell? ⟨F.db, d, none⟩ = some (.pointer (some ⟨ad, 0, none⟩)))) (by kernel_rfl) ?_ (fun hHeld => ?_)
 ·(try dsimp only)
  exact ⟨c9, c13, cd⟩
 refine tkA 0 ?_
 refine tkA 1 ?_
 refine tkA 2 ?_
 refine tkA 3 ?_
 refine tkA 4 ?_
 refine tkA 5 ?_
 refine tkA 6 ?_
 refine tkA 10 ?_
 refine tkA 11 ?_
 refine tkA 12 ?_
 refine tkA 13 ?_
 refine tkA 14 ?_
 refine tkA 15 ?_
 refine rkA 7 (fun K hK => ?_)
 go_simp
 with_reducible refine hdk.mono ?_
 rintro e wx ⟨rfl, rfl⟩
 (try go_wp2_with fail)
 refine hK.out _ _ ?_ (fun hHeld2 => ?_)
 ·(try dsimp only)
  first | exact hHeld | exact hS3
 clear hK K
 replace hHeld := hHeld2
 clear hHeld2
 (try simp only [pA, pN, pB, pC, pD])
 refine tkA 8 ?_
 refine tkA 9 ?_
 refine rkA 16 (fun K hK => ?_)
 go_simp
 with_reducible refine hrd.mono ?_
 rintro e w2 ⟨v, rfl, hf, hD, hK1⟩
 have hS3 := hS2.out w2 ((Kept.drew _ _).trans hK1)
 have hfin2 := Lib.hid (hfin.out v w2 hf hD hK1)
 clear hf hD hK1 hfin
 (try go_wp2_with fail)
 refine hK.out _ _ ?_ (fun hHeld2 => ?_)
 ·(try dsimp only)
  first | exact hHeld | exact hS3
 clear hK K
 replace hHeld := hHeld2
 clear hHeld2
 (try simp only [pA, pN, pB, pC, pD])
 refine tkA 17 ?_
 refine tkA 18 ?_
 refine tkA 19 ?_
 refine tkA 20 ?_
 refine wpAnyH_done (by kernel_rfl) ?_ _
 go_wp2_with fail
 go_ret2
 exact hfin2.out
theorem VolX.wrote (h : VolX X F w s V) {i : Nat} (hi : i < V.devs.length) {r : Int × ShM × DevM} (hD : DvX (VolX.Z X F i) (F.a i) F.g w' r.2.1 r.2.2) (hK : Kept (VolX.Z X F i) w w')
  (h1 : r.2.1.disks.length = s.disks.length) (h2 : r.2.1.sectors = s.sectors) (h3 : r.2.2.disk = (V.dev i).disk) (h4 : r.2.2.size = (V.dev i).size) : VolX X F w' r.2.1 (V.setDev i r.2.2) ∧ Kept X w w' :=
 h.ofDev hi hD hK h.out h1 h2 h3 h4
theorem flush_keep (s : ShM) (d : Int) : (s.flushR d).2.disks.length = s.disks.length ∧ (s.flushR d).2.sectors = s.sectors := by
 refine ⟨flush_len s d, ?_⟩
 simp only [ShM.flushR]
 split
 ·split
  ·show (s.spend.tick).sectors = _
   rw [spend_sectors]
  ·rfl
 ·rfl
theorem write_keep (s : ShM) (d n : Int) (b : Bytes) : (s.writeR d n b).2.disks.length = s.disks.length ∧ (s.writeR d n b).2.sectors = s.sectors := by
 refine ⟨write_len s d n b, ?_⟩
 simp only [ShM.writeR]
 split
 ·split
  ·show (s.spend.tick).sectors = _
   rw [spend_sectors]
  ·rfl
 ·rfl
structure Fits (s : ShM) (D : DevM) (r : Int × ShM × DevM) : Prop where
 n : r.2.1.disks.length = s.disks.length
 z : r.2.1.sectors = s.sectors
 d : r.2.2.disk = D.disk
 b : r.2.2.size = D.size
theorem Fits.refl (s : ShM) (D : DevM) (e : Int) : Fits s D (e, s, D) := ⟨rfl, rfl, rfl, rfl⟩
theorem Fits.after {s : ShM} {D : DevM} {r q : Int × ShM × DevM} (h : Fits s D r) (k : Fits r.2.1 r.2.2 q) : Fits s D q := ⟨k.n.trans h.n, k.z.trans h.z, k.d.trans h.d, k.b.trans h.b⟩
theorem fits_flush (s : ShM) (D : DevM) : Fits s D (devFlush s D) := by
 refine ⟨(flush_keep s D.disk).1, (flush_keep s D.disk).2, devFlush_disk s D, devFlush_size s D⟩
theorem fits_write (s : ShM) (D : DevM) (e n : Int) (b : Bytes) : Fits s D (e, (s.writeR D.disk n b).2, D) := ⟨(write_keep s _ n b).1, (write_keep s _ n b).2, rfl, rfl⟩
theorem fits_put (s : ShM) (D : DevM) (n : Nat) (x b : Bytes) : Fits s D (devPut s D n x b) := by
 unfold devPut
 have h1 := fits_write s D (s.writeR D.disk (sumAt n) x).1 (sumAt n) x
 generalize s.writeR D.disk (sumAt n) x = r at *
 dsimp only
 split
 ·have h2 := fits_flush r.2 D
  have h12 := h1.after h2
  generalize devFlush r.2 D = f at *
  split
  ·have h3 := write_keep f.2.1 D.disk (dataAt n) b
   generalize f.2.1.writeR D.disk (dataAt n) b = q at *
   refine ⟨h3.1.trans h12.n, h3.2.trans h12.z, ?_, ?_⟩
   ·dsimp only; split <;> exact h12.d
   ·dsimp only; split <;> exact h12.b
  ·exact h12
 ·exact h1
theorem fits_spoil (s : ShM) (D : DevM) (n : Nat) (p : Nat × Nat) (was : Bytes) (sum : Nat) : Fits s D (devSpoil s D n p was sum) := by
 unfold devSpoil
 have h1 := fits_write s D (s.writeR D.disk (dataAt n) (spoilOf D n p sum was)).1 (dataAt n) (spoilOf D n p sum was)
 generalize s.writeR D.disk (dataAt n) (spoilOf D n p sum was) = r at *
 dsimp only
 split
 ·exact h1.after (fits_flush r.2 D)
 ·exact h1
theorem fits_first (s : ShM) (D : DevM) (n : Nat) (x was b : Bytes) : Fits s D (devFirst s D n x was b) := by
 unfold devFirst
 split
 ·exact Fits.refl _ _ _
 ·split
  ·exact fits_spoil _ _ _ _ _ _
  ·exact Fits.refl _ _ _
theorem fits_open (s : ShM) (D : DevM) (n : Int) : Fits s D (devOpen s D n) := by
 unfold devOpen
 split
 ·exact fits_flush s D
 ·exact Fits.refl _ _ _
theorem fits_dwrite (s : ShM) (D : DevM) (n : Int) (b : Bytes) : Fits s D (devWrite s D n b) := by
 have hs : (devSector s D n).2.2.2.disks = s.disks ∧ (devSector s D n).2.2.2.sectors = s.sectors := by
  have := devRead_disks s D n
  simp only [devRead] at this
  split at this
  ·split at this
   ·exact this
   ·exact this
  ·exact this
 unfold devWrite
 split
 ·generalize devSector s D n = r at *
  have h0 : Fits s D (r.2.2.1, r.2.2.2, D) := ⟨by rw [hs.1], hs.2, rfl, rfl⟩
  dsimp only
  split
  ·have h1 := h0.after (fits_open r.2.2.2 D n)
   generalize devOpen r.2.2.2 D n = f at *
   split
   ·have h2 := h1.after (fits_first f.2.1 f.2.2 n.toNat r.1 r.2.1 b)
    generalize devFirst f.2.1 f.2.2 n.toNat r.1 r.2.1 b = x at *
    split
    ·exact h2.after (fits_put _ _ _ _ _)
    ·exact h2
   ·exact h1
  ·exact h0
 ·exact Fits.refl _ _ _
set_option maxHeartbeats 1000000 in
theorem ra_put (h : VolX X F w s V) (hroom : Room 999999999990 s) (member st : Nat) (hm : member < V.m) (hst : st ≤ 1000000) (A : Option Addr) (L c : Nat) (bs : Bytes) (hr : Rd w A bs) (hL : bs.length = L) (hA : ∀ ad, A = some ad → X ad.block) :
  Calls Try.prog 35 #[.pointer (some ⟨F.v, 0, none⟩), .int .i64 (member : Int), .int .i64 (st : Int), .slice A L c] w (PutPost_ X F w (volPut s V member st bs)) := by
 have hdk := ra_disk h.drew member st
 have hi := h.ok.diskN hm st
 have hl17 := h.ok.len17
 have hb18 := h.ok.baseN
 have hvlt := h.vlt
 unfold volPut volWr
 generalize V.diskOf member st = d at *
 have hwr := su_write (h.drew.toDev hi) hroom ((V.base + st : Nat) : Int) (by omega) (by omega) A L c bs hr.drew hL (fun ad e => .inl (hA ad e))
 have c9 := h.c 9
 have c13 := h.c 13
 have cd := h.cDev hi
 have hd17 : d ≤ 17 := by omega
 simp only [volR] at c9 c13
 have hS2 : ∀ w2, Kept (VolX.Z X F d) w w2 → (w2.cell? ⟨F.v, 9, none⟩ = some (.slice (some ⟨F.db, 0, none⟩) V.devs.length F.dc) ∧ w2.cell? ⟨F.v, 13, none⟩ = some (.int .i64 (V.base : Nat)) ∧ w2.cell? ⟨F.db, d, none⟩ = some (.pointer (some ⟨F.a d, 0, none⟩))) := fun w2 hK => by
  obtain ⟨n1, n2, _⟩ := h.a_other hi
  have k1 := hK.block F.v (.inr ⟨by simp [VolF.own], n1.symm⟩)
  have k2 := hK.block F.db (.inr ⟨by simp [VolF.own], n2.symm⟩)
  exact ⟨(World.cell?_of_block k1).trans c9, (World.cell?_of_block k1).trans c13, (World.cell?_of_block k2).trans cd⟩
 replace h := Lib.hid h
 replace hS2 := Lib.hid hS2
 have hft := fits_dwrite s (V.dev d) ((V.base + st : Nat) : Int) bs
 have hfin : ∀ w2, DvX (VolX.Z X F d) (F.a d) F.g w2 (devWrite s (V.dev d) ((V.base + st : Nat) : Int) bs).2.1 (devWrite s (V.dev d) ((V.base + st : Nat) : Int) bs).2.2 → Kept (VolX.Z X F d) w.drew w2 →
   PutPost_ X F w ((devWrite s (V.dev d) ((V.base + st : Nat) : Int) bs).1, (devWrite s (V.dev d) ((V.base + st : Nat) : Int) bs).2.1, V.setDev d (devWrite s (V.dev d) ((V.base + st : Nat) : Int) bs).2.2) (.returned (.int .i64 (devWrite s (V.dev d) ((V.base + st : Nat) : Int) bs).1)) w2 := fun w2 hD hK => by
  obtain ⟨h1, h2⟩ := h.out.wrote hi hD ((Kept.drew _ w).trans hK) hft.n hft.z hft.d hft.b
  exact ⟨rfl, h1, h2⟩
 replace hfin := Lib.hid hfin
 dsimp only
 generalize devWrite s (V.dev d) ((V.base + st : Nat) : Int) bs = r at *
 generalize F.a d = ad at *
 generalize V.base = ba at *
 generalize V.devs.length = dl at *
 unfold ptrV at cd
 have hww : IntKind.i64.wrap ((ba : Int) + (st : Int)) = (ba : Int) + st := IntWalk.i64_in _ (by omega)
 rw [Int.natCast_add] at hwr
 clear hft hr hA
 go_enter Try.func35, Try.ntmps35
 go_wp2_with fail
 refine wp_region_held_drew (S := (fun W => W.cell? ⟨F.v, 9, none⟩ = some (.slice (some ⟨F.db, 0, none⟩) dl F.dc) ∧ W.cell? ⟨F.v, 13, none⟩ = some (.int .i64 (ba : Nat)) ∧ W.cell? ⟨F.db, d, none⟩ = some (.pointer (some ⟨ad, 0, none⟩)))) (by kernel_rfl) ?_ (fun hHeld => ?_)
 ·(try dsimp only)
  exact ⟨c9, c13, cd⟩
 refine tkA 0 ?_
 refine tkA 1 ?_
 refine tkA 2 ?_
 refine tkA 3 ?_
 refine tkA 4 ?_
 refine tkA 5 ?_
 refine tkA 6 ?_
 refine tkA 10 ?_
 refine tkA 11 ?_
 refine tkA 12 ?_
 refine tkA 13 ?_
 refine tkA 14 ?_
 refine tkA 15 ?_
 refine tkA 16 ?_
 refine rkA 7 (fun K hK => ?_)
 go_simp
 with_reducible refine hdk.mono ?_
 rintro e wx ⟨rfl, rfl⟩
 (try go_wp2_with fail)
 refine hK.out _ _ ?_ (fun hHeld2 => ?_)
 ·(try dsimp only)
  first | exact hHeld | exact hS3
 clear hK K
 replace hHeld := hHeld2
 clear hHeld2
 (try simp only [pA, pN, pB, pC, pD])
 refine tkA 8 ?_
 refine tkA 9 ?_
 refine rkA 17 (fun K hK => ?_)
 go_simp
 with_reducible refine hwr.mono ?_
 rintro e w2 ⟨rfl, hD, hK1⟩
 have hS3 := hS2.out w2 ((Kept.drew _ _).trans hK1)
 have hfin2 := Lib.hid (hfin.out w2 hD hK1)
 clear hD hK1 hfin
 (try go_wp2_with fail)
 refine hK.out _ _ ?_ (fun hHeld2 => ?_)
 ·(try dsimp only)
  first | exact hHeld | exact hS3
 clear hK K
 replace hHeld := hHeld2
 clear hHeld2
 (try simp only [pA, pN, pB, pC, pD])
 refine tkA 18 ?_
 refine wpAnyH_done (by kernel_rfl) ?_ _
 go_wp2_with fail
 go_ret
 exact hfin2.out
theorem ra_dead (h : VolX X F w s V) (member st : Nat) (hm : member < V.m) : Calls Try.prog 40 #[.pointer (some ⟨F.v, 0, none⟩), .int .i64 (member : Int), .int .i64 (st : Int)] w fun e w' => e = .returned (.bool (volDead s V member st)) ∧ ∃ n, w' = w.drewN n := by
 have hdk := ra_disk h.drew member st
 have hi := h.ok.diskN hm st
 have hl17 := h.ok.len17
 have hvlt := h.vlt
 unfold volDead
 generalize V.diskOf member st = d at *
 have hde := su_dead (h.drew.toDev hi)
 have c9 := h.c 9
 have cd := h.cDev hi
 have hd17 : d ≤ 17 := by omega
 simp only [volR] at c9
 clear h
 generalize (s.disk (V.dev d).disk).dead = b at *
 generalize F.a d = ad at *
 generalize V.devs.length = dl at *
 unfold ptrV at cd
 go_enter Try.func40, Try.ntmps40
 go_wp2_with fail
 refine wp_region_held_drew (S := (fun W => W.cell? ⟨F.v, 9, none⟩ = some (.slice (some ⟨F.db, 0, none⟩) dl F.dc) ∧ W.cell? ⟨F.db, d, none⟩ = some (.pointer (some ⟨ad, 0, none⟩)))) (by kernel_rfl) ?_ (fun hHeld => ?_)
 ·(try dsimp only)
  exact ⟨c9, cd⟩
 refine tkA 0 ?_
 refine tkA 1 ?_
 refine tkA 2 ?_
 refine tkA 3 ?_
 refine tkA 4 ?_
 refine tkA 5 ?_
 refine tkA 6 ?_
 refine rkA 7 (fun K hK => ?_)
 go_simp
 with_reducible refine hdk.mono ?_
 rintro e wx ⟨rfl, rfl⟩
 (try go_wp2_with fail)
 refine hK.out _ _ ?_ (fun hHeld2 => ?_)
 ·(try dsimp only)
  exact hHeld
 clear hK K
 replace hHeld := hHeld2
 clear hHeld2
 (try simp only [pA, pN, pB, pC, pD])
 refine tkA 8 ?_
 refine tkA 9 ?_
 refine rkA 10 (fun K hK => ?_)
 go_simp
 with_reducible refine hde.mono ?_
 rintro e w2 ⟨rfl, n, rfl⟩
 (try go_wp2_with fail)
 refine hK.out _ _ ?_ (fun hHeld2 => ?_)
 ·(try dsimp only)
  exact hHeld
 clear hK K
 replace hHeld := hHeld2
 clear hHeld2
 (try simp only [pA, pN, pB, pC, pD])
 refine tkA 11 ?_
 refine wpAnyH_done (by kernel_rfl) ?_ _
 go_wp2_with fail
 go_ret
 exact ⟨rfl, _, rfl⟩
end
end
end Go.Proofs.Ytajnlhalanhicaa

/-
 Several texts of this work in one (merge.py): BeA, BeB.
-/
import Derived.Test.YtajnlhalanhicaaCo
import Derived.Test.YtajnlhalanhicaaRp
import Derived.Test.YtajnlhalanhicaaRr
namespace Go.Proofs.Ytajnlhalanhicaa
set_option linter.all false
set_option maxRecDepth 20000
section
open Go.RowKit
section
variable {s s' : ShM} {V V' : VolM} {D : Nat → Nat → Bytes} {N m : Nat} {L : Nat → List Bytes} {c : Int}
theorem Has.turn {s2 : ShM} (h : Has s V D) (hok : s2.Ok) (hr : Room 100 s2) (hlen : s2.disks.length = s.disks.length) (hsec : s2.sectors = s.sectors) (hd : ∀ j, (s2.disk j).dead = false → s2.disk j = s.disk j) : Has s2 V D := by
 obtain ⟨U, M, a, st⟩ := h
 refine ⟨U, M, ⟨hok, by rw [hlen]; exact a.slen, a.dd, fun i hi => by rw [hsec]; exact a.sz i hi, hr, fun i hi hdi => ?_⟩, ⟨st.sp, st.m3, st.len, st.room, st.dl, st.zero, fun t ht j hj hdj => st.same t ht j hj (by rw [← hd j hdj]; exact hdj)⟩⟩
 have e := hd i hdi
 have hl := a.live i hi (by rw [← e]; exact hdi)
 have hdd := a.dd i hi
 refine ⟨⟨⟨hok, by rw [hlen]; exact hl.p.pow.disk, by rw [hdd]; exact hdi⟩, by rw [hsec]; exact hl.p.size, hr⟩, ?_⟩
 have := hl.live
 rw [hdd] at this ⊢
 rw [e]
 exact this
structure BeyOk (s : ShM) (V : VolM) (N m : Nat) (L : Nat → List Bytes) (c : Int) : Prop where
 size : N = V.size
 mm : V.m = m
 lg : V.logs = 3
 dl : V.devs.length = m + 1
 c0 : 0 ≤ s.count
 cM : s.count ≤ c
 st : s.Gone2 ∨ ∃ D, Has s V D ∧ ∀ b, b < N → D (spotN V.m b).member (spotN V.m b).stripe ∈ L b
theorem BeyOk.room (h : BeyOk s V N m L c) : Room 100 s := by
 rcases h.st with g | ⟨D, h, _⟩
 ·exact g.2
 ·exact h.arrRoom
theorem BeyOk.next (h : BeyOk s V N m L c) (hv : Vd s V) {k : Nat} (g : Vs k s V s' V') (hc : c + k ≤ 1000000000) {L' : Nat → List Bytes} (st : s'.Gone2 ∨ ∃ D, Has s' V' D ∧ ∀ b, b < N → D (spotN V.m b).member (spotN V.m b).stripe ∈ L' b) : BeyOk s' V' N m L' (c + k) ∧ s'.count - s.count ≤ k ∧ 0 ≤ s'.count - s.count := by
 have h0 := h.c0
 have hM := h.cM
 have hq := g.st.cnt h0 (by omega)
 have ez : V'.size = V.size := by unfold VolM.size; rw [g.stripes, g.m]
 refine ⟨⟨h.size.trans ez.symm, g.m.trans h.mm, g.logs.trans h.lg, (g.len hv).trans h.dl, by omega, by omega, ?_⟩, by omega, by omega⟩
 rw [g.m]
 exact st
theorem BeyOk.flK (h : BeyOk s V N m L c) (hm : m ≤ 16) : flK V ≤ 442 := by
 unfold Go.Proofs.Ytajnlhalanhicaa.flK
 rw [h.lg, h.dl]
 omega
theorem BeyOk.read (h : BeyOk s V N m L c) (hv : Vd s V) (hm : m ≤ 16) (hc : c ≤ 900000000) {b : Nat} (hb : b < N) :
  ((volRead s V b).2.1 = 0 ∧ (volRead s V b).1 ∈ L b ∨ (volRead s V b).2.1 = 10 ∧ (volRead s V b).1 = [] ∨ (volRead s V b).2.1 = 3 ∧ (volRead s V b).1 = []) ∧
  BeyOk (volRead s V b).2.2.1 (volRead s V b).2.2.2 N m L (c + 1200) ∧ (volRead s V b).2.2.1.count - s.count ≤ 64 ∧ 0 ≤ (volRead s V b).2.2.1.count - s.count := by
 have hb' : b < V.size := by rw [← h.size]; exact hb
 obtain ⟨g, _, _, g4⟩ := vs_read hv hb'
 have hmm := h.mm
 have key : ∀ st, ((volRead s V b).2.1 = 0 ∧ (volRead s V b).1 ∈ L b ∨ (volRead s V b).2.1 = 10 ∧ (volRead s V b).1 = [] ∨ (volRead s V b).2.1 = 3 ∧ (volRead s V b).1 = []) → ((volRead s V b).2.2.1.Gone2 ∨ ∃ D, Has (volRead s V b).2.2.1 (volRead s V b).2.2.2 D ∧ ∀ b, b < N → D (spotN V.m b).member (spotN V.m b).stripe ∈ L b) = st → st → _ := fun st a e hs => by
  obtain ⟨x, y, z⟩ := h.next hv g (by omega) (e ▸ hs)
  exact (⟨a, ⟨x.size, x.mm, x.lg, x.dl, x.c0, by have := x.cM; omega, x.st⟩, by omega, z⟩ : ((volRead s V b).2.1 = 0 ∧ (volRead s V b).1 ∈ L b ∨ (volRead s V b).2.1 = 10 ∧ (volRead s V b).1 = [] ∨ (volRead s V b).2.1 = 3 ∧ (volRead s V b).1 = []) ∧ BeyOk (volRead s V b).2.2.1 (volRead s V b).2.2.2 N m L (c + 1200) ∧ (volRead s V b).2.2.1.count - s.count ≤ 64 ∧ 0 ≤ (volRead s V b).2.2.1.count - s.count)
 rcases h.st with ⟨ho, hr⟩ | ⟨D, hh, hD⟩
 ·have e := off_read hv ho hb'
  exact key _ (.inr (.inr (by rw [e]; exact ⟨rfl, rfl⟩))) rfl (.inl (by rw [e]; exact ⟨ho, hr⟩))
 ·rcases has_read hh hb' with ⟨e1, e2, e3⟩ | ⟨e1, e3⟩ | ⟨e1, e3⟩
  ·exact key _ (.inl ⟨e1, by rw [e2]; exact hD b hb⟩) rfl (.inr ⟨D, e3, hD⟩)
  ·exact key _ (.inr (.inl ⟨e1, g4 (by omega)⟩)) rfl (.inr ⟨D, e3, hD⟩)
  ·exact key _ (.inr (.inr ⟨e1, g4 (by omega)⟩)) rfl (.inl e3)
theorem BeyOk.flush (h : BeyOk s V N m L c) (hv : Vd s V) (hm : m ≤ 16) (hc : c ≤ 900000000) :
  ((volFlush s V).1 = 0 ∨ (volFlush s V).1 = 3) ∧ BeyOk (volFlush s V).2.1 (volFlush s V).2.2 N m L (c + 1200) ∧ (volFlush s V).2.1.count - s.count ≤ 1200 ∧ 0 ≤ (volFlush s V).2.1.count - s.count := by
 obtain ⟨g, _⟩ := vs_flush hv
 have hf := h.flK hm
 have key : ((volFlush s V).1 = 0 ∨ (volFlush s V).1 = 3) → ((volFlush s V).2.1.Gone2 ∨ ∃ D, Has (volFlush s V).2.1 (volFlush s V).2.2 D ∧ ∀ b, b < N → D (spotN V.m b).member (spotN V.m b).stripe ∈ L b) → ((volFlush s V).1 = 0 ∨ (volFlush s V).1 = 3) ∧ BeyOk (volFlush s V).2.1 (volFlush s V).2.2 N m L (c + 1200) ∧ (volFlush s V).2.1.count - s.count ≤ 1200 ∧ 0 ≤ (volFlush s V).2.1.count - s.count := fun a hs => by
  obtain ⟨x, y, z⟩ := h.next hv g (by omega) hs
  exact ⟨a, ⟨x.size, x.mm, x.lg, x.dl, x.c0, by have := x.cM; omega, x.st⟩, by omega, z⟩
 rcases h.st with ⟨ho, hr⟩ | ⟨D, hh, hD⟩
 ·have e := off_flush hv ho
  exact key (.inr (by rw [e])) (.inl (by rw [e]; exact ⟨ho, hr⟩))
 ·rcases has_flush hh with ⟨e1, e2, _⟩ | ⟨e1, e3⟩
  ·exact key (.inl e1) (.inr ⟨D, e2, hD⟩)
  ·exact key (.inr e1) (.inl e3)
theorem BeyOk.write (h : BeyOk s V N m L c) (hv : Vd s V) (hm : m ≤ 16) (hc : c ≤ 900000000) {b : Nat} (hb : b < N) {x : Bytes} (hx : x.length = 128) :
  ((volWrite s V b x).1 = 0 ∨ (volWrite s V b x).1 = 10 ∨ (volWrite s V b x).1 = 3) ∧ BeyOk (volWrite s V b x).2.1 (volWrite s V b x).2.2 N m (updM L b (L b ++ [x])) (c + 1200) ∧ (volWrite s V b x).2.1.count - s.count ≤ 1200 ∧ 0 ≤ (volWrite s V b x).2.1.count - s.count := by
 have hb' : b < V.size := by rw [← h.size]; exact hb
 obtain ⟨g, _⟩ := vs_write hv hb' hx
 have hf := h.flK hm
 have hmm := h.mm
 have hm3 := hv.m3
 have key : ((volWrite s V b x).1 = 0 ∨ (volWrite s V b x).1 = 10 ∨ (volWrite s V b x).1 = 3) → ((volWrite s V b x).2.1.Gone2 ∨ ∃ D, Has (volWrite s V b x).2.1 (volWrite s V b x).2.2 D ∧ ∀ q, q < N → D (spotN V.m q).member (spotN V.m q).stripe ∈ updM L b (L b ++ [x]) q) → ((volWrite s V b x).1 = 0 ∨ (volWrite s V b x).1 = 10 ∨ (volWrite s V b x).1 = 3) ∧ BeyOk (volWrite s V b x).2.1 (volWrite s V b x).2.2 N m (updM L b (L b ++ [x])) (c + 1200) ∧ (volWrite s V b x).2.1.count - s.count ≤ 1200 ∧ 0 ≤ (volWrite s V b x).2.1.count - s.count := fun a hs => by
  obtain ⟨x, y, z⟩ := h.next hv g (by omega) hs
  exact ⟨a, ⟨x.size, x.mm, x.lg, x.dl, x.c0, by have := x.cM; omega, x.st⟩, by omega, z⟩
 have hold : ∀ q y, y ∈ L q → y ∈ updM L b (L b ++ [x]) q := fun q y hy => by
  by_cases e : q = b
  ·subst e; rw [updM_same]; exact List.mem_append_left _ hy
  ·rw [updM_ne _ _ e]; exact hy
 rcases h.st with ⟨ho, hr⟩ | ⟨D, hh, hD⟩
 ·have e := off_write hv ho hb' hx
  exact key (.inr (.inr (by rw [e]))) (.inl (by rw [e]; exact ⟨ho, hr⟩))
 ·rcases has_write hh hv hb' hx with ⟨e1, e2⟩ | ⟨e1, e2⟩ | ⟨e1, e2⟩
  ·refine key (.inl e1) (.inr ⟨_, e2, fun q hq => ?_⟩)
   by_cases e : (spotN V.m q).stripe = (spotN V.m b).stripe
   ·by_cases e3 : (spotN V.m q).member = (spotN V.m b).member
    ·have : q = b := spot_inj hm3 e e3
     subst this
     rw [newD_data, updM_same]
     exact List.mem_append_right _ (.head _)
    ·rw [newD_other V D _ _ x (.inr ⟨e3, by rw [← e]; exact spot_par hm3⟩)]
     exact hold q _ (hD q hq)
   ·rw [newD_other V D _ _ x (.inl e)]
    exact hold q _ (hD q hq)
  ·exact key (.inr (.inl e1)) (.inr ⟨D, e2, fun q hq => hold q _ (hD q hq)⟩)
  ·exact key (.inr (.inr e1)) (.inl e2)
theorem BeyOk.later (h : BeyOk s V N m L c) : BeyOk s V N m L (c + 1200) := ⟨h.size, h.mm, h.lg, h.dl, h.c0, by have := h.cM; omega, h.st⟩
theorem BeyOk.stop (h : BeyOk s V N m L c) (ok : s.Ok) (n : Int) : BeyOk (s.stop n) V N m L (c + 1200) := by
 have h1 : (s.stop n).disks = s.disks ∧ (s.stop n).sectors = s.sectors ∧ (s.stop n).count = s.count := by unfold ShM.stop; split <;> exact ⟨rfl, rfl, rfl⟩
 obtain ⟨e1, e2, e3⟩ := h1
 have hok : (s.stop n).Ok := ⟨by rw [e1]; exact ok.disks1, by rw [e1]; exact ok.disks17, by rw [e2]; exact ok.sectors1, by rw [e2]; exact ok.sectors4096, by rw [e1, e2]; exact ok.sure, by rw [e1]; exact ok.sec, by rw [e1, e2]; exact ok.waits⟩
 have hr : ∀ {k}, Room k s → Room k (s.stop n) := fun h => h.same e1
 refine ⟨h.size, h.mm, h.lg, h.dl, by rw [e3]; exact h.c0, by rw [e3]; have := h.cM; omega, ?_⟩
 rcases h.st with ⟨ho, hr0⟩ | ⟨D, hh, hD⟩
 ·refine .inl ⟨?_, hr hr0⟩
  unfold ShM.stop
  rw [if_pos ho]
  exact ho
 ·exact .inr ⟨D, hh.turn hok (hr hh.arrRoom) (by rw [e1]) e2 (fun j _ => disk_of_disks e1 j), hD⟩
theorem BeyOk.kill (h : BeyOk s V N m L c) (ok : s.Ok) (d : Int) : BeyOk (s.killR d).2 V N m L (c + 1200) := by
 unfold ShM.killR
 split
 ·next hh =>
  have hdl : d.toNat < s.disks.length := by
   simp only [ShM.has, decide_eq_true_eq] at hh
   omega
  have hm := disk_mem hdl
  have hok : (s.setDisk d.toNat { s.disk d.toNat with dead := true }).Ok := ok_set ok _ _ (show (s.disk d.toNat).sure.length = s.sectors from ok.sure _ hm) (fun y hy => ok.sec (s.disk d.toNat) hm y hy) (fun y hy => ok.waits (s.disk d.toNat) hm y hy)
  have hdk : ∀ j, (s.setDisk d.toNat { s.disk d.toNat with dead := true }).disk j = if j = d.toNat then { s.disk d.toNat with dead := true } else s.disk j := fun j => by
   unfold ShM.setDisk ShM.disk
   by_cases e : j = d.toNat
   ·subst e
    rw [if_pos rfl]
    simp [List.getD_eq_getElem?_getD, List.getElem?_set_self hdl]
   ·rw [if_neg e]
    simp [List.getD_eq_getElem?_getD, List.getElem?_set_ne (Ne.symm e)]
  have hr : ∀ {k}, Room k s → Room k (s.setDisk d.toNat { s.disk d.toNat with dead := true }) := fun h j => by
   rw [hdk]
   split
   ·exact h d.toNat
   ·exact h j
  refine ⟨h.size, h.mm, h.lg, h.dl, h.c0, by have := h.cM; show s.count ≤ _; omega, ?_⟩
  rcases h.st with ⟨ho, hr0⟩ | ⟨D, hh2, hD⟩
  ·exact .inl ⟨ho, hr hr0⟩
  ·refine .inr ⟨D, hh2.turn hok (hr hh2.arrRoom) (by simp [ShM.setDisk]) rfl (fun j hj => ?_), hD⟩
   rw [hdk] at hj ⊢
   split at hj
   ·cases hj
   ·next e => rw [if_neg e]
 ·exact h.later
theorem RigOk.bey {q : Nat × Nat} {st lg : Nat} (h : RigOk s V N (fun _ => [zeroSec]) false q) (hstop : s.stops = false) (hsup : V.sup = madeSup m st lg) (hlg : lg = 3) (c0 : 0 ≤ s.count) (cM : s.count ≤ 100000) : BeyOk s V N m (fun _ => [zeroSec]) 100000 := by
 have em : V.m = m := by unfold VolM.m; rw [hsup]; show (((m : Nat) : Int)).toNat = m; omega
 have el : V.logs = 3 := by unfold VolM.logs; rw [hsup]; show (((lg : Nat) : Int)).toNat = 3; omega
 refine ⟨h.size, em, el, h.dl.trans (by rw [em]), c0, cM, ?_⟩
 rcases h.st with ⟨U, M, D, B, O, hl, hg⟩ | hd
 ·exact .inr ⟨D, ⟨U, M, hl.arr, hl.stripes⟩, fun b hb => List.mem_of_getLast? (hg b hb)⟩
 ·have := hd.off
  unfold ShM.off at this
  rw [hstop] at this
  cases this
end
end
section
open Go.RowKit
section
variable {base rb mb cap wb N n m st lg : Nat} {G : Nat → Nat × Nat × Nat} {F F' : VolF} {tv : Value} {w w' : World} {s s' : ShM} {V V' : VolM} {L : Nat → List Bytes}
structure BeyAt (w : World) (base rb mb cap wb : Nat) (G : Nat → Nat × Nat × Nat) (F : VolF) (tv : Value) (m st lg N n : Nat) (s : ShM) (V : VolM) (L : Nat → List Bytes) : Prop where
 row : w.heap[rb]? = some (.cells (rigR F mb cap N m st lg tv false) 31)
 may : MayAt w base wb G N n L
 vol : VolX (RX base rb wb G n) F w s V
 rbne : ¬ MayB wb G n rb
 low : base ≤ rb
theorem BeyAt.rlt (h : BeyAt w base rb mb cap wb G F tv m st lg N n s V L) : rb < w.heap.size := lt_of_row h.row
theorem BeyAt.bsz (h : BeyAt w base rb mb cap wb G F tv m st lg N n s V L) : base ≤ w.heap.size := Nat.le_trans h.low (Nat.le_of_lt h.rlt)
theorem BeyAt.c (h : BeyAt w base rb mb cap wb G F tv m st lg N n s V L) (k : Nat) : w.cell? ⟨rb, k, none⟩ = (rigR F mb cap N m st lg tv false)[k]? := cell_of_row w rb k _ _ _ h.row
theorem BeyAt.c0 (h : BeyAt w base rb mb cap wb G F tv m st lg N n s V L) : w.cell? ⟨rb, 0, none⟩ = some (.pointer (some ⟨F.g, 0, none⟩)) := h.c 0
theorem BeyAt.c1 (h : BeyAt w base rb mb cap wb G F tv m st lg N n s V L) : w.cell? ⟨rb, 1, none⟩ = some (.pointer (some ⟨F.v, 0, none⟩)) := h.c 1
theorem BeyAt.c2 (h : BeyAt w base rb mb cap wb G F tv m st lg N n s V L) : w.cell? ⟨rb, 2, none⟩ = some (.int .i64 (m : Int)) := h.c 2
theorem BeyAt.keep (h : BeyAt w base rb mb cap wb G F tv m st lg N n s V L) (hV : VolX (RX base rb wb G n) F w' s' V') (hK : Kept (RX base rb wb G n) w w') : BeyAt w' base rb mb cap wb G F tv m st lg N n s' V' L :=
 ⟨(hK.block rb (.inr (.inl rfl))).trans h.row, h.may.kept fun b hb => hK.block b (.inr (.inr hb)), hV, h.rbne, h.low⟩
theorem BeyAt.below (h : BeyAt w base rb mb cap wb G F tv m st lg N n s V L) (hb : Below w.heap.size w w') : BeyAt w' base rb mb cap wb G F tv m st lg N n s V L :=
 h.keep (h.vol.below hb) (Kept.of_below hb h.vol.lt)
theorem BeyAt.put (h : BeyAt w base rb mb cap wb G F tv m st lg N n s V L) {k n' : Nat} (hkN : k < N) (hn' : ∀ j, j < n' ↔ j < n ∨ j = k) (ho : w'.os = w.os ∧ w'.tape = w.tape ∧ w'.output = w.output) (hs : w.heap.size ≤ w'.heap.size) (hB : ∀ b, b < w.heap.size → (k < n → b ≠ (G k).1) → w'.heap[b]? = w.heap[b]?)
  {l : List Bytes} {q g' o' c' : Nat} (hm : l.length = q) (hV : VlAt w' 9 base g' o' c' (l.map strV)) (hg : (k < n ∧ g' = (G k).1) ∨ w.heap.size ≤ g') :
  BeyAt (w'.setCell ⟨wb, k, none⟩ (.slice (some ⟨g', o', none⟩) q c')) base rb mb cap wb (updM G k (g', o', c')) F tv m st lg N n' s V (updM L k l) ∧
  ∀ w0, Below base w0 w → Below base w0 (w'.setCell ⟨wb, k, none⟩ (.slice (some ⟨g', o', none⟩) q c')) := by
 have hsz : (w'.setCell ⟨wb, k, none⟩ (.slice (some ⟨g', o', none⟩) q c')).heap.size = w'.heap.size := by simp [World.setCell]
 have hM := h.may
 have hM' := hM.set (w' := w') (k := k) (n' := n') hkN (fun j hj => (hn' j).1 hj) hs hB hm hV hg
 have hmbr : rb ≠ wb := fun e => h.rbne (.inl e)
 have hgr : k < n → rb ≠ (G k).1 := fun hk e => h.rbne (.inr ⟨k, hk, e⟩)
 have hge : k < n → base ≤ (G k).1 := fun hk => (hM.el k hk).1.1
 have hbz := h.bsz
 have hr := h.rlt
 have hsame : ∀ b, b < w.heap.size → ¬ RX base rb wb G n b → (w'.setCell ⟨wb, k, none⟩ (.slice (some ⟨g', o', none⟩) q c')).heap[b]? = w.heap[b]? := fun b hb hx => by
  rw [heap_setCell_other _ ⟨wb, k, none⟩ b _ (fun e => hx (.inr (.inr (.inl e))))]
  exact hB b hb fun hk e => hx (.inr (.inr (.inr ⟨k, hk, e⟩)))
 have hgs : (k < n ∧ g' = (G k).1) ∨ w.heap.size ≤ g' := hg
 have hY : ∀ b, RX base rb wb (updM G k (g', o', c')) n' b → b < w'.heap.size ∧ (RX base rb wb G n b ∨ w.heap.size ≤ b) := fun b hb => by
  rcases hb with hb | rfl | rfl | ⟨j, hj, rfl⟩
  ·exact ⟨by omega, .inl (.inl hb)⟩
  ·exact ⟨by omega, .inl (.inr (.inl rfl))⟩
  ·exact ⟨by have := hM.mblt; omega, .inl (.inr (.inr (.inl rfl)))⟩
  ·by_cases e : j = k
   ·subst e
    rw [updM_same]
    exact ⟨hV.lt, hgs.imp (fun e => .inr (.inr (.inr ⟨j, e.1, e.2⟩))) id⟩
   ·rw [updM_ne _ _ e]
    have hjn : j < n := ((hn' j).1 hj).resolve_right e
    exact ⟨by have := (hM.el j hjn).1.lt; omega, .inl (.inr (.inr (.inr ⟨j, hjn, rfl⟩)))⟩
 have hrbY : ¬ MayB wb (updM G k (g', o', c')) n' rb := fun hx => by
  rcases hx with e | ⟨j, hj, e⟩
  ·exact hmbr e
  ·by_cases e2 : j = k
   ·subst e2
    rw [updM_same] at e
    rcases hgs with hg | hg
    ·exact hgr hg.1 (e.trans hg.2)
    ·have e : rb = g' := e
     omega
   ·rw [updM_ne _ _ e2] at e
    exact h.rbne (.inr ⟨j, ((hn' j).1 hj).resolve_right e2, e⟩)
 refine ⟨⟨?_, hM', ?_, hrbY, h.low⟩, fun w0 hb => (hb.trans ⟨ho.1, ho.2.1, ho.2.2, hs, fun b hb => hB b (by omega) fun hk e => ?_⟩).setCell (p := ⟨wb, k, none⟩) hM.low _⟩
 ·rw [heap_setCell_other _ ⟨wb, k, none⟩ rb _ hmbr, hB rb h.rlt hgr]
  exact h.row
 ·refine h.vol.rows (h.vol.sh.more (by rw [hsz]; exact hs) (fun b hb hx => hsame b hb fun hx2 => hx (.inl hx2)) fun b hb => ?_) (fun b hb hy => ?_) (fun b hb => hsame b (h.vol.olt b hb) (h.vol.out b hb)) h.vol.ok
  ·rw [hsz]
   rcases hb with hb | hb
   ·exact ⟨(hY b hb).1, (hY b hb).2.imp (fun h => .inl h) id⟩
   ·exact ⟨by have := h.vol.olt b hb; omega, .inl (.inr hb)⟩
  ·rcases (hY b hy).2 with h1 | h1
   ·exact h.vol.out b hb h1
   ·have := h.vol.olt b hb; omega
 ·have := hge hk
  omega
theorem BeyAt.putX {xb k g9 o9 p9 : Nat} {v : Value} {L' : Nat → List Bytes} (h : BeyAt w base rb mb cap wb G F tv m st lg N n s V L) (hV1 : VolX (fun b => RX base rb wb G n b ∨ b = xb) F w s V) (hk : k < n) (hx : ¬ RX base rb wb G n xb) (hxl : xb < w.heap.size) (hBt : But (G k).1 w w') (hg9 : g9 = (G k).1 ∨ w.heap.size ≤ g9)
  (hR9 : BeyAt (w'.setCell ⟨wb, k, none⟩ v) base rb mb cap wb (updM G k (g9, o9, p9)) F tv m st lg N n s V L') :
  VolX (fun b => RX base rb wb (updM G k (g9, o9, p9)) n b ∨ b = xb) F (w'.setCell ⟨wb, k, none⟩ v) s V ∧ (w'.setCell ⟨wb, k, none⟩ v).heap[xb]? = w.heap[xb]? := by
 have hsz10 : (w'.setCell ⟨wb, k, none⟩ v).heap.size = w'.heap.size := by simp [World.setCell]
 have hoG : xb ≠ (G k).1 := fun e => hx (e ▸ .inr (.inr (.inr ⟨k, hk, rfl⟩)))
 have hxmb : xb ≠ wb := fun e => hx (e ▸ .inr (.inr (.inl rfl)))
 refine ⟨hV1.turn (by rw [hsz10]; exact hBt.size) (fun b hb hx2 => ?_) fun b hb => ?_, ?_⟩
 ·rw [heap_setCell_other _ ⟨wb, k, none⟩ b _ (fun e => hx2 (.inl (.inr (.inr (.inl e)))))]
  exact hBt.block b hb fun e => hx2 (.inl (.inr (.inr (.inr ⟨k, hk, e⟩))))
 ·have hlt := hR9.vol.lt
  rcases hb with hb | rfl
  ·refine ⟨hlt b hb, ?_⟩
   rcases hb with hb | rfl | rfl | ⟨j, hj, rfl⟩
   ·exact .inl (.inl (.inl hb))
   ·exact .inl (.inl (.inr (.inl rfl)))
   ·exact .inl (.inl (.inr (.inr (.inl rfl))))
   ·by_cases e : j = k
    ·subst e
     rw [updM_same]
     exact hg9.imp (fun e => .inl (.inr (.inr (.inr ⟨j, hj, e⟩)))) id
    ·rw [updM_ne _ _ e]
     exact .inl (.inl (.inr (.inr (.inr ⟨j, hj, rfl⟩))))
  ·exact ⟨by rw [hsz10]; exact Nat.lt_of_lt_of_le hxl hBt.size, .inl (.inr rfl)⟩
 ·rw [heap_setCell_other _ ⟨wb, k, none⟩ xb _ hxmb]
  exact hBt.block xb hxl hoG
theorem RigAt.bey (h : RigAt w base rb mb cap G F tv m st lg N s V L false) {cur : Array Value} (hc : cur.size = N) (G' : Nat → Nat × Nat × Nat) (L' : Nat → List Bytes) : BeyAt (w.alloc (.cells cur 33)) base rb mb cap w.heap.size G' F tv m st lg N 0 s V L' := by
 have hb : Below w.heap.size w (w.alloc (.cells cur 33)) := below_made' _ _
 have hr := h.rlt
 refine ⟨(hb.block rb h.rlt).trans h.row, ⟨⟨cur, heap_alloc_new _ _, hc, fun k hk => absurd hk (by omega)⟩, fun k hk => absurd hk (by omega), fun j k hj => absurd hj (by omega), h.bsz⟩, h.vol.more hb fun b hb => ?_, fun hx => ?_, h.low⟩
 ·have hz := World.size_alloc w (.cells cur 33)
  rcases hb with hb | rfl | rfl | ⟨j, hj, _⟩
  ·have := h.bsz; exact ⟨by omega, .inl (.inl hb)⟩
  ·exact ⟨by omega, .inl (.inr (.inl rfl))⟩
  ·exact ⟨by omega, .inr (Nat.le_refl _)⟩
  ·omega
 ·rcases hx with e | ⟨j, hj, _⟩
  ·omega
  ·omega
theorem made_strs (n : Nat) (hn : n ≤ 1000) : ∃ cur : Array Value, cur.size = n ∧ ∀ W : World, (Instr.makeSlice 26 (.int .i64 (n : Int)) (.int .i64 (n : Int))).run Try.prog W = .ok (.slice (some ⟨W.heap.size, 0, none⟩) n n) (W.alloc (.cells cur 33)) := by
 obtain ⟨i0, hi0, hz0, hz1, hz2⟩ := info_parts Try.infoStrs
 refine ⟨madeCells (Value.slice none 0 0).cells (n * 1), ?_, fun W => ?_⟩
 ·simp [madeCells, Value.cells]
 ·have h := run_make (P := Try.prog) (w := W) 26 33 i0 (.slice none 0 0) Try.underlying26 hi0 hz0 .i64 .i64 (n : Int) (n : Int) (by omega) (Int.le_refl _) (by rw [hz2]; omega) (by omega)
  simp only [hz1, Int.toNat_natCast] at h
  exact h
end
end
end Go.Proofs.Ytajnlhalanhicaa

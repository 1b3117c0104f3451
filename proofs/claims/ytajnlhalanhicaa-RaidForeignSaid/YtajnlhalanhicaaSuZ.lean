/-
 Several texts of this work in one (merge.py): SuN, SuO, SuH.
-/
import Derived.Test.YtajnlhalanhicaaSuJ
namespace Go.Proofs.Ytajnlhalanhicaa
set_option linter.all false
set_option maxRecDepth 20000
section
open Go.RowKit
theorem getD_set (l : List Bytes) (i j : Nat) (v : Bytes) (hi : i < l.length) : (l.set i v).getD j [] = if i = j then v else l.getD j [] := by
 by_cases h : i = j
 ·subst h; simp [List.getD_eq_getElem?_getD, hi]
 ·simp [List.getD_eq_getElem?_getD, List.getElem?_set_ne h, h]
def GoodL (d size : Nat) (sure : List Bytes) (May : Nat → Bytes → Prop) : Prop :=
 ∀ k, k < size → fitsP d (standP (sure.getD (sumAt k) []) k) k (sure.getD (dataAt k) []) = true ∧ May k (sure.getD (dataAt k) [])
def CrashL (d size : Nat) (sure : List Bytes) (waits : List (Nat × Bytes)) (May : Nat → Bytes → Prop) : Prop :=
 ∀ keeps, GoodL d size (settleL keeps 0 waits sure) May
structure SizesL (size : Nat) (sure : List Bytes) : Prop where
 lt : ∀ k, k < size → sumAt k < sure.length ∧ dataAt k < sure.length
 len : ∀ k, k < size → (sure.getD (sumAt k) []).length = 128
structure LiveL (d size : Nat) (sure : List Bytes) (waits : List (Nat × Bytes)) (opn : Int) (V : Nat → Bytes) (May : Nat → Bytes → Prop) : Prop where
 good : GoodL d size sure May
 st : (waits = [] ∧ ∀ k, k < size → V k = sure.getD (dataAt k) []) ∨
  ∃ n b, n < size ∧ waits = [(dataAt n, b)] ∧ opn = n ∧ fitsP d (standP (sure.getD (sumAt n) []) n) n b = true ∧ May n b ∧ V n = b ∧ ∀ k, k < size → k ≠ n → V k = sure.getD (dataAt k) []
section
variable {d size : Nat} {sure : List Bytes} {waits : List (Nat × Bytes)} {opn : Int} {V : Nat → Bytes} {May May' : Nat → Bytes → Prop}
theorem GoodL.mono (h : GoodL d size sure May) (hm : ∀ k x, May k x → May' k x) : GoodL d size sure May' := fun k hk => ⟨(h k hk).1, hm _ _ (h k hk).2⟩
theorem CrashL.mono (h : CrashL d size sure waits May) (hm : ∀ k x, May k x → May' k x) : CrashL d size sure waits May' := fun keeps => (h keeps).mono hm
theorem LiveL.mono (h : LiveL d size sure waits opn V May) (hm : ∀ k x, May k x → May' k x) : LiveL d size sure waits opn V May' :=
 ⟨h.good.mono hm, h.st.imp id fun ⟨n, b, h1, h2, h3, h4, h5, h6⟩ => ⟨n, b, h1, h2, h3, h4, hm _ _ h5, h6⟩⟩
theorem GoodL.data (h : GoodL d size sure May) (hs : SizesL size sure) {n : Nat} (hn : n < size) {b : Bytes} (hf : fitsP d (standP (sure.getD (sumAt n) []) n) n b = true) (hm : May n b) : GoodL d size (sure.set (dataAt n) b) May := by
 intro k hk
 obtain ⟨h1, h2⟩ := place_ne (n := k) (m := n)
 rw [getD_set _ _ _ _ (hs.lt n hn).2, getD_set _ _ _ _ (hs.lt n hn).2, if_neg (fun e => h1 e.symm)]
 by_cases hkn : k = n
 ·subst hkn
  rw [if_pos rfl]
  exact ⟨hf, hm⟩
 ·rw [if_neg (fun e => h2 hkn e.symm)]
  exact h k hk
theorem SizesL.data (hs : SizesL size sure) {n : Nat} (hn : n < size) (b : Bytes) : SizesL size (sure.set (dataAt n) b) := by
 refine ⟨fun k hk => by simpa using hs.lt k hk, fun k hk => ?_⟩
 rw [getD_set _ _ _ _ (hs.lt n hn).2, if_neg (fun e => (place_ne (n := k) (m := n)).1 e.symm)]
 exact hs.len k hk
theorem sumAt_mod {k n : Nat} (h : sumAt k = sumAt n) (hne : k ≠ n) : n % 16 ≠ k % 16 := by
 unfold sumAt at h
 omega
theorem GoodL.sums (h : GoodL d size sure May) (hs : SizesL size sure) {n : Nat} (hn : n < size) (p : Nat × Nat) (h1 : p.1 < 4294967296) (h2 : p.2 < 4294967296) (hp : p.1 = sumB d n (sure.getD (dataAt n) [])) :
  GoodL d size (sure.set (sumAt n) (putSums (sure.getD (sumAt n) []) n p)) May := by
 intro k hk
 obtain ⟨e1, _⟩ := place_ne (n := n) (m := k)
 rw [getD_set _ _ _ _ (hs.lt n hn).1, getD_set _ _ _ _ (hs.lt n hn).1, if_neg e1]
 by_cases hsk : sumAt n = sumAt k
 ·rw [if_pos hsk]
  by_cases hkn : k = n
  ·subst hkn
   rw [(stand_put _ _ _ (hs.len k hk) h1 h2).1]
   exact ⟨fits_fst _ _ _ _ hp.symm, (h k hk).2⟩
  ·rw [stand_put_ne _ _ _ _ (hs.len n hn) (sumAt_mod hsk.symm hkn), hsk]
   exact h k hk
 ·rw [if_neg hsk]
  exact h k hk
theorem SizesL.sums (hs : SizesL size sure) {n : Nat} (hn : n < size) (S : Bytes) (hS : S.length = 128) : SizesL size (sure.set (sumAt n) S) := by
 refine ⟨fun k hk => by simpa using hs.lt k hk, fun k hk => ?_⟩
 rw [getD_set _ _ _ _ (hs.lt n hn).1]
 split
 ·exact hS
 ·exact hs.len k hk
theorem LiveL.crash (h : LiveL d size sure waits opn V May) (hs : SizesL size sure) : CrashL d size sure waits May := by
 intro keeps
 rcases h.st with ⟨rfl, _⟩ | ⟨n, b, hn, rfl, _, hf, hm, _⟩
 ·exact h.good
 ·show GoodL d size (if keeps 0 then sure.set (dataAt n) b else sure) May
  split
  ·exact h.good.data hs hn hf hm
  ·exact h.good
theorem LiveL.flush (h : LiveL d size sure waits opn V May) (hs : SizesL size sure) :
  ∀ o, LiveL d size (settleL (fun _ => true) 0 waits sure) [] o V May ∧ SizesL size (settleL (fun _ => true) 0 waits sure) := by
 intro o
 have hc := h.crash hs (fun _ => true)
 rcases h.st with ⟨rfl, hv⟩ | ⟨n, b, hn, rfl, _, hf, hm, hb, hv⟩
 ·exact ⟨⟨hc, .inl ⟨rfl, hv⟩⟩, hs⟩
 ·refine ⟨⟨hc, .inl ⟨rfl, fun k hk => ?_⟩⟩, hs.data hn b⟩
  show V k = (sure.set (dataAt n) b).getD (dataAt k) []
  rw [getD_set _ _ _ _ (hs.lt n hn).2]
  by_cases hkn : k = n
  ·subst hkn
   rw [if_pos rfl]
   exact hb
  ·rw [if_neg (fun e => (place_ne (n := k) (m := n)).2 hkn e.symm)]
   exact hv k hk hkn
theorem LiveL.last (h : LiveL d size sure [] opn V May) (hm : ∀ k, k < size → May' k (V k)) : LiveL d size sure [] opn V May' := by
 rcases h.st with ⟨_, hv⟩ | ⟨n, b, _, hw, _⟩
 ·exact ⟨fun k hk => ⟨(h.good k hk).1, by rw [← hv k hk]; exact hm k hk⟩, .inl ⟨rfl, hv⟩⟩
 ·cases hw
theorem LiveL.sums (h : LiveL d size sure waits opn V May) (hs : SizesL size sure) {n : Nat} (hn : n < size) (hno : opn ≠ n) (b : Bytes) :
  CrashL d size sure (waits ++ [(sumAt n, putSums (sure.getD (sumAt n) []) n (sumB d n (V n), sumB d n b))]) May ∧
  ∀ o, LiveL d size (settleL (fun _ => true) 0 (waits ++ [(sumAt n, putSums (sure.getD (sumAt n) []) n (sumB d n (V n), sumB d n b))]) sure) [] o V May ∧
   SizesL size (settleL (fun _ => true) 0 (waits ++ [(sumAt n, putSums (sure.getD (sumAt n) []) n (sumB d n (V n), sumB d n b))]) sure) ∧
   fitsP d (standP ((settleL (fun _ => true) 0 (waits ++ [(sumAt n, putSums (sure.getD (sumAt n) []) n (sumB d n (V n), sumB d n b))]) sure).getD (sumAt n) []) n) n b = true := by
 have l1 : sumB d n (V n) < 4294967296 := sumB_lt _ _ _
 have l2 : sumB d n b < 4294967296 := sumB_lt _ _ _
 have hpl := stand_put (sure.getD (sumAt n) []) n (sumB d n (V n), sumB d n b) (hs.len n hn) l1 l2
 have key : ∀ su : List Bytes, GoodL d size su May → SizesL size su → su.getD (sumAt n) [] = sure.getD (sumAt n) [] → su.getD (dataAt n) [] = V n → (∀ k, k < size → V k = su.getD (dataAt k) []) →
   ∀ o, LiveL d size (su.set (sumAt n) (putSums (sure.getD (sumAt n) []) n (sumB d n (V n), sumB d n b))) [] o V May ∧
    SizesL size (su.set (sumAt n) (putSums (sure.getD (sumAt n) []) n (sumB d n (V n), sumB d n b))) ∧
    fitsP d (standP ((su.set (sumAt n) (putSums (sure.getD (sumAt n) []) n (sumB d n (V n), sumB d n b))).getD (sumAt n) []) n) n b = true := by
  intro su hg hz e1 e2 hv o
  refine ⟨⟨?_, .inl ⟨rfl, fun k hk => ?_⟩⟩, hz.sums hn _ hpl.2, ?_⟩
  ·rw [← e1]
   exact hg.sums hz hn (sumB d n (V n), sumB d n b) l1 l2 (by rw [e2])
  ·rw [getD_set _ _ _ _ (hz.lt n hn).1, if_neg (place_ne (n := n) (m := k)).1]
   exact hv k hk
  ·rw [getD_set _ _ _ _ (hz.lt n hn).1, if_pos rfl, hpl.1]
   exact fits_snd _ _ _ _ rfl
 have gs : ∀ su : List Bytes, GoodL d size su May → SizesL size su → su.getD (sumAt n) [] = sure.getD (sumAt n) [] → su.getD (dataAt n) [] = V n →
   GoodL d size (su.set (sumAt n) (putSums (sure.getD (sumAt n) []) n (sumB d n (V n), sumB d n b))) May := by
  intro su hg hz e1 e2
  rw [← e1]
  exact hg.sums hz hn (sumB d n (V n), sumB d n b) l1 l2 (by rw [e2])
 rcases h.st with ⟨rfl, hv⟩ | ⟨n0, b0, hn0, rfl, ho, hf, hm, hb0, hv⟩
 ·refine ⟨fun keeps => ?_, key sure h.good hs rfl (hv n hn).symm hv⟩
  show GoodL d size (if keeps 0 then sure.set (sumAt n) _ else sure) May
  split
  ·exact gs sure h.good hs rfl (hv n hn).symm
  ·exact h.good
 ·have hnn : n ≠ n0 := fun e => hno (by rw [ho, e])
  have g0 := h.good.data hs hn0 hf hm
  have z0 := hs.data hn0 b0
  have e1 : (sure.set (dataAt n0) b0).getD (sumAt n) [] = sure.getD (sumAt n) [] := by
   rw [getD_set _ _ _ _ (hs.lt n0 hn0).2, if_neg (fun e => (place_ne (n := n) (m := n0)).1 e.symm)]
  have e2 : (sure.set (dataAt n0) b0).getD (dataAt n) [] = V n := by
   rw [getD_set _ _ _ _ (hs.lt n0 hn0).2, if_neg (fun e => (place_ne (n := n) (m := n0)).2 hnn e.symm), hv n hn hnn]
  have hv' : ∀ k, k < size → V k = (sure.set (dataAt n0) b0).getD (dataAt k) [] := by
   intro k hk
   rw [getD_set _ _ _ _ (hs.lt n0 hn0).2]
   by_cases hk0 : k = n0
   ·subst hk0
    rw [if_pos rfl]
    exact hb0
   ·rw [if_neg (fun e => (place_ne (n := k) (m := n0)).2 hk0 e.symm)]
    exact hv k hk hk0
  refine ⟨fun keeps => ?_, key _ g0 z0 e1 e2 hv'⟩
  show GoodL d size (if keeps 1 then (if keeps 0 then sure.set (dataAt n0) b0 else sure).set (sumAt n) _ else (if keeps 0 then sure.set (dataAt n0) b0 else sure)) May
  cases keeps 0 <;> cases keeps 1 <;> simp only [Bool.false_eq_true, if_true, if_false]
  ·exact h.good
  ·exact gs sure h.good hs rfl (hv n hn hnn).symm
  ·exact g0
  ·exact gs _ g0 z0 e1 e2
def updV (V : Nat → Bytes) (n : Nat) (b : Bytes) (k : Nat) : Bytes := if k = n then b else V k
theorem LiveL.wait (h : LiveL d size sure [] opn V May) {n : Nat} (hn : n < size) {b : Bytes} (hf : fitsP d (standP (sure.getD (sumAt n) []) n) n b = true) (hm : May n b) :
  LiveL d size sure [(dataAt n, b)] n (updV V n b) May := by
 rcases h.st with ⟨_, hv⟩ | ⟨_, _, _, hw, _⟩
 ·refine ⟨h.good, .inr ⟨n, b, hn, rfl, rfl, hf, hm, by simp [updV], fun k hk hkn => ?_⟩⟩
  rw [updV, if_neg hkn]
  exact hv k hk
 ·cases hw
end
end
section
open Go.RowKit
structure Pow (s : ShM) (d : Nat) : Prop where
 ok : s.Ok
 disk : d < s.disks.length
 alive : (s.disk d).dead = false
section
variable {s : ShM} {d : Nat} {D : DevM} {V : Nat → Bytes} {May May' : Nat → Bytes → Prop}
theorem spend_eq (s : ShM) : s.spend.disks = s.disks ∧ s.spend.sectors = s.sectors := by
 unfold ShM.spend
 split <;> exact ⟨rfl, rfl⟩
theorem Pow.has (h : Pow s d) {n : Nat} (hn : n < s.sectors) : s.has d n = true := by
 simp only [ShM.has, decide_eq_true_eq]
 have := h.disk
 omega
theorem Pow.why (h : Pow s d) : s.why d = if s.off then 3 else 0 := by simp [ShM.why, h.alive]
theorem Pow.okd (h : Pow s d) : (s.disk d).sure.length = s.sectors ∧ (∀ b ∈ (s.disk d).sure, b.length = 128) ∧ ∀ x ∈ (s.disk d).waits, x.1 < s.sectors ∧ x.2.length = 128 := by
 have hm : s.disk d ∈ s.disks := by rw [← s.disk_eq h.disk]; exact List.getElem_mem _
 exact ⟨h.ok.sure _ hm, h.ok.sec _ hm, h.ok.waits _ hm⟩
theorem Pow.tick (h : Pow s d) : Pow s.tick d := ⟨⟨h.ok.disks1, h.ok.disks17, h.ok.sectors1, h.ok.sectors4096, h.ok.sure, h.ok.sec, h.ok.waits⟩, h.disk, h.alive⟩
theorem Pow.spend (h : Pow s d) : Pow s.spend d := by
 unfold ShM.spend
 split
 ·exact ⟨⟨h.ok.disks1, h.ok.disks17, h.ok.sectors1, h.ok.sectors4096, h.ok.sure, h.ok.sec, h.ok.waits⟩, h.disk, h.alive⟩
 ·exact h
theorem pow_read (h : Pow s d) {n : Nat} (hn : n < s.sectors) : s.readR d n = if s.off then ([], 3, s) else (rdS s d n, 0, s.tick) := by
 have hh := h.has hn
 have hw := h.why
 simp only [ShM.readR, hh, if_true, Int.toNat_natCast, hw]
 cases s.off <;> simp [rdS]
structure Did (s s' : ShM) (d : Nat) (k : DiskM) : Prop where
 pow : Pow s' d
 sec : s'.sectors = s.sectors
 len : s'.disks.length = s.disks.length
 disk : s'.disk d = k
 other : ∀ e, e ≠ d → s'.disk e = s.disk e
theorem did_set (h : Pow s d) (k : DiskM) (h1 : k.sure.length = s.sectors) (h2 : ∀ b ∈ k.sure, b.length = 128) (h3 : ∀ x ∈ k.waits, x.1 < s.sectors ∧ x.2.length = 128) (h4 : k.dead = false) : Did s (s.spend.tick.setDisk d k) d k := by
 obtain ⟨q1, q2⟩ := spend_eq s
 have hp := h.spend.tick
 have hl : d < s.spend.tick.disks.length := hp.disk
 have e : (s.spend.tick.setDisk d k).disk d = k := s.spend.tick.disk_set hl _
 have hd : ∀ x, s.spend.tick.disk x = s.disk x := fun x => by simp only [ShM.disk]; show s.spend.disks.getD x noDisk = _; rw [q1]
 have hc : s.spend.tick.sectors = s.sectors := q2
 refine ⟨⟨ok_set hp.ok d k (by rw [hc]; exact h1) h2 (by rw [hc]; exact h3), by rw [s.spend.tick.set_len]; exact hl, by rw [e]; exact h4⟩, q2, ?_, e, fun x hx => (s.spend.tick.disk_set_ne hx _).trans (hd x)⟩
 rw [s.spend.tick.set_len]
 show s.spend.disks.length = _
 rw [q1]
theorem pow_write (h : Pow s d) {n : Nat} (hn : n < s.sectors) {b : Bytes} (hb : b.length = 128) :
  (s.off = true ∧ s.writeR d n b = (3, s)) ∨ (s.off = false ∧ ∃ s', s.writeR d n b = (0, s') ∧ Did s s' d ((s.disk d).write n b)) := by
 have hh := h.has hn
 have hw := h.why
 cases ho : s.off with
 | true => exact .inl ⟨rfl, by simp [ShM.writeR, hh, hb, hw, ho]⟩
 | false =>
  obtain ⟨o1, o2, o3⟩ := h.okd
  refine .inr ⟨rfl, _, by simp only [ShM.writeR, hh, hb, and_self, if_true, Int.toNat_natCast, hw, ho, Bool.false_eq_true, if_false], did_set h _ o1 o2 ?_ h.alive⟩
  intro x hx
  rcases List.mem_append.1 hx with hx | hx
  ·exact o3 x hx
  ·simp only [List.mem_singleton] at hx
   subst hx
   exact ⟨hn, hb⟩
theorem pow_flush (h : Pow s d) : (s.off = true ∧ s.flushR d = (3, s)) ∨ (s.off = false ∧ ∃ s', s.flushR d = (0, s') ∧ Did s s' d ((s.disk d).settle fun _ => true)) := by
 have hh := h.has (n := 0) (by have := h.ok.sectors1; omega)
 rw [show ((0 : Nat) : Int) = 0 from rfl] at hh
 have hw := h.why
 cases ho : s.off with
 | true => exact .inl ⟨rfl, by simp [ShM.flushR, hh, hw, ho]⟩
 | false =>
  obtain ⟨o1, o2, o3⟩ := h.okd
  refine .inr ⟨rfl, _, by simp only [ShM.flushR, hh, if_true, Int.toNat_natCast, hw, ho, Bool.false_eq_true, if_false], did_set h _ ((settleL_len _ _ _ _).trans o1) ?_ (fun x hx => by cases hx) h.alive⟩
  intro b hb
  rcases settleL_mem _ _ _ _ b hb with hb | ⟨x, hx, rfl⟩
  ·exact o2 b hb
  ·exact (o3 x hx).2
structure DPow (s : ShM) (D : DevM) : Prop where
 pow : Pow s D.disk
 size : (D.size : Int) = blocksI s.sectors
 room : Room 100 s
theorem DPow.place (h : DPow s D) {n : Nat} (hn : n < D.size) : sumAt n < s.sectors ∧ dataAt n < s.sectors := by
 have hz := h.size
 have h1 := h.pow.ok.sectors1
 unfold blocksI at hz
 rw [if_neg (by omega)] at hz
 unfold sumAt dataAt
 omega
theorem DPow.sizes (h : DPow s D) : SizesL D.size (s.disk D.disk).sure := by
 obtain ⟨o1, o2, _⟩ := h.pow.okd
 refine ⟨fun k hk => by rw [o1]; exact h.place hk, fun k hk => o2 _ ?_⟩
 have := (h.place hk).1
 rw [List.getD_eq_getElem?_getD, List.getElem?_eq_getElem (by omega)]
 exact List.getElem_mem _
structure Lives (s : ShM) (D : DevM) (V : Nat → Bytes) (May : Nat → Bytes → Prop) : Prop where
 p : DPow s D
 live : LiveL D.disk D.size (s.disk D.disk).sure (s.disk D.disk).waits D.opn V May
structure Gone (s : ShM) (D : DevM) (May : Nat → Bytes → Prop) : Prop where
 p : DPow s D
 off : s.off = true
 crash : CrashL D.disk D.size (s.disk D.disk).sure (s.disk D.disk).waits May
theorem Lives.gone (h : Lives s D V May) (ho : s.off = true) (hm : ∀ k x, May k x → May' k x) : Gone s D May' := ⟨h.p, ho, (h.live.crash h.p.sizes).mono hm⟩
theorem Gone.write (h : Gone s D May) {n : Nat} (hn : n < D.size) {b : Bytes} (hb : b.length = 128) : devWrite s D n b = (3, s, D) := by
 have e := pow_read h.p.pow (h.p.place hn).1
 rw [if_pos h.off] at e
 have hsec : devSector s D n = ([], [], 3, s) := by
  have hb : (0 : Int) ≤ (n : Int) ∧ (n : Int) < (D.size : Int) := by omega
  simp only [devSector, hb, and_self, if_true, Int.toNat_natCast, e]
  rfl
 simp only [devWrite, hb, if_true, hsec]
 rfl
theorem Gone.flush (h : Gone s D May) : devFlush s D = (3, s, D) := by
 rcases pow_flush h.p.pow with ⟨_, e⟩ | ⟨e, _⟩
 ·simp only [devFlush, e]; rfl
 ·rw [h.off] at e; cases e
theorem Did.dpow {s' : ShM} {k : DiskM} {D' : DevM} (hd : Did s s' D.disk k) (h : DPow s D) (e1 : D'.disk = D.disk) (e2 : D'.size = D.size) (hk : k.waits.length ≤ 100) : DPow s' D' :=
 ⟨by rw [e1]; exact hd.pow, by rw [hd.sec, e2]; exact h.size, room_by h.room D.disk (by rw [hd.disk]; exact hk) hd.other⟩
theorem Lives.flush (h : Lives s D V May) : (s.off = true ∧ devFlush s D = (3, s, D)) ∨
  (s.off = false ∧ ∃ s', devFlush s D = (0, s', { D with opn := -1 }) ∧ Lives s' { D with opn := -1 } V May ∧ (s'.disk D.disk).waits = [] ∧ s'.disks.length = s.disks.length ∧ s'.sectors = s.sectors) := by
 rcases pow_flush h.p.pow with ⟨ho, e⟩ | ⟨ho, s', e, hd⟩
 ·exact .inl ⟨ho, by simp only [devFlush, e]; rfl⟩
 ·refine .inr ⟨ho, s', by simp only [devFlush, e, if_true], ⟨hd.dpow h.p rfl rfl (by simp [DiskM.settle]), ?_⟩, by rw [hd.disk]; rfl, hd.len, hd.sec⟩
  show LiveL D.disk D.size (s'.disk D.disk).sure (s'.disk D.disk).waits (-1) V May
  rw [hd.disk]
  exact (h.live.flush h.p.sizes _).1
theorem Lives.waits_le (h : Lives s D V May) : (s.disk D.disk).waits.length ≤ 1 := by
 rcases h.live.st with ⟨e, _⟩ | ⟨n, b, _, e, _⟩ <;> rw [e] <;> simp
theorem Lives.view (h : Lives s D V May) {n : Nat} (hn : n < D.size) : rdS s D.disk (dataAt n) = V n ∧ rdS s D.disk (sumAt n) = (s.disk D.disk).sure.getD (sumAt n) [] := by
 obtain ⟨h1, _⟩ := place_ne (n := n) (m := n)
 simp only [rdS, DiskM.read]
 rcases h.live.st with ⟨e, hv⟩ | ⟨m, b, hm, e, _, _, _, hb, hv⟩
 ·rw [e]
  exact ⟨(hv n hn).symm, rfl⟩
 ·rw [e, show [(dataAt m, b)] = [] ++ [(dataAt m, b)] from rfl, lastOf_app, lastOf_app]
  refine ⟨?_, by rw [if_neg (fun e => (place_ne (n := n) (m := m)).1 e.symm)]; rfl⟩
  by_cases hnm : n = m
  ·subst hnm
   rw [if_pos rfl]
   exact hb.symm
  ·rw [if_neg (fun e => (place_ne (n := n) (m := m)).2 hnm e.symm), hv n hn hnm]
   rfl
theorem Lives.fits (h : Lives s D V May) {n : Nat} (hn : n < D.size) : fitsP D.disk (standP ((s.disk D.disk).sure.getD (sumAt n) []) n) n (V n) = true := by
 rcases h.live.st with ⟨e, hv⟩ | ⟨m, b, hm, e, _, hf, _, hb, hv⟩
 ·rw [hv n hn]
  exact (h.live.good n hn).1
 ·by_cases hnm : n = m
  ·subst hnm
   rw [hb]
   exact hf
  ·rw [hv n hn hnm]
   exact (h.live.good n hn).1
theorem Lives.tick (h : Lives s D V May) : Lives s.tick D V May := ⟨⟨h.p.pow.tick, h.p.size, h.p.room⟩, h.live⟩
def Written (s : ShM) (D : DevM) (V : Nat → Bytes) (May' : Nat → Bytes → Prop) (n : Nat) (b : Bytes) (r : Int × ShM × DevM) : Prop :=
 r.2.2.disk = D.disk ∧ r.2.2.size = D.size ∧ r.2.1.disks.length = s.disks.length ∧ r.2.1.sectors = s.sectors ∧ ((r.1 = 0 ∧ Lives r.2.1 r.2.2 (updV V n b) May') ∨ (r.1 = 3 ∧ Gone r.2.1 r.2.2 May'))
theorem Lives.put (h : Lives s D V May) {n : Nat} (hn : n < D.size) (hno : D.opn ≠ n) {b : Bytes} (hb : b.length = 128) (hm : ∀ k x, May k x → May' k x) (hmn : May' n b) :
  Written s D V May' n b (devPut s D n (putSums ((s.disk D.disk).sure.getD (sumAt n) []) n (sumB D.disk n (V n), sumB D.disk n b)) b) := by
 have hpl := stand_put ((s.disk D.disk).sure.getD (sumAt n) []) n (sumB D.disk n (V n), sumB D.disk n b) (h.p.sizes.len n hn) (sumB_lt _ _ _) (sumB_lt _ _ _)
 obtain ⟨hc, hl⟩ := h.live.sums h.p.sizes hn hno b
 generalize hS : putSums ((s.disk D.disk).sure.getD (sumAt n) []) n (sumB D.disk n (V n), sumB D.disk n b) = S at *
 rcases pow_write h.p.pow (h.p.place hn).1 hpl.2 with ⟨ho, e⟩ | ⟨_, s3, e3, d3⟩
 ·refine ⟨by simp only [devPut, e]; rfl, by simp only [devPut, e]; rfl, by simp only [devPut, e]; rfl, by simp only [devPut, e]; rfl, .inr ?_⟩
  simp only [devPut, e]
  exact ⟨rfl, h.gone ho hm⟩
 have hw1 := h.waits_le
 have p3 : DPow s3 D := d3.dpow h.p rfl rfl (by simp only [DiskM.write, List.length_append, List.length_singleton]; omega)
 rcases pow_flush d3.pow with ⟨ho, e⟩ | ⟨_, s4, e4, d4⟩
 ·have e' : devPut s D n S b = (3, s3, D) := by simp only [devPut, e3, if_true, devFlush, e]; rfl
  rw [e']
  refine ⟨rfl, rfl, d3.len, d3.sec, .inr ⟨rfl, p3, ho, ?_⟩⟩
  show CrashL D.disk D.size (s3.disk D.disk).sure (s3.disk D.disk).waits May'
  rw [d3.disk]
  exact hc.mono hm
 obtain ⟨l4, z4, f4⟩ := hl (-1)
 have p4 : DPow s4 { D with opn := -1 } := d4.dpow p3 rfl rfl (by simp [DiskM.settle])
 have L4 : Lives s4 { D with opn := -1 } V May := ⟨p4, by
  show LiveL D.disk D.size (s4.disk D.disk).sure (s4.disk D.disk).waits (-1) V May
  rw [d4.disk, d3.disk]
  exact l4⟩
 have hw4 : (s4.disk D.disk).waits = [] := by rw [d4.disk]; rfl
 rcases pow_write p4.pow (p4.place hn).2 hb with ⟨ho, e⟩ | ⟨_, s5, e5, d5⟩
 ·have e' : devPut s D n S b = (3, s4, { D with opn := -1 }) := by simp only [devPut, e3, if_true, devFlush, e4]; rw [e]; rfl
  rw [e']
  exact ⟨rfl, rfl, d4.len.trans d3.len, d4.sec.trans d3.sec, .inr ⟨rfl, L4.gone ho hm⟩⟩
 ·have e' : devPut s D n S b = (0, s5, { D with opn := (n : Int) }) := by simp only [devPut, e3, if_true, devFlush, e4]; rw [e5]; rfl
  rw [e']
  refine ⟨rfl, rfl, d5.len.trans (d4.len.trans d3.len), d5.sec.trans (d4.sec.trans d3.sec), .inl ⟨rfl, d5.dpow p4 rfl rfl (by show ((s4.disk D.disk).waits ++ [(dataAt n, b)]).length ≤ 100; rw [hw4]; simp), ?_⟩⟩
  show LiveL D.disk D.size (s5.disk D.disk).sure (s5.disk D.disk).waits n (updV V n b) May'
  have e5' : s5.disk D.disk = (s4.disk D.disk).write (dataAt n) b := d5.disk
  rw [e5']
  show LiveL D.disk D.size (s4.disk D.disk).sure ((s4.disk D.disk).waits ++ [(dataAt n, b)]) n (updV V n b) May'
  rw [hw4]
  have l4' : LiveL D.disk D.size (s4.disk D.disk).sure [] (-1) V May' := by
   rw [d4.disk, d3.disk]
   exact l4.mono hm
  refine l4'.wait hn ?_ hmn
  rw [d4.disk, d3.disk]
  exact f4
theorem Lives.write (h : Lives s D V May) {n : Nat} (hn : n < D.size) {b : Bytes} (hb : b.length = 128) (hm : ∀ k x, May k x → May' k x) (hmn : May' n b) : Written s D V May' n b (devWrite s D n b) := by
 cases ho : s.off with
 | true =>
  have g := h.gone ho hm
  rw [g.write hn hb]
  exact ⟨rfl, rfl, rfl, rfl, .inr ⟨rfl, g⟩⟩
 | false =>
  obtain ⟨v1, v2⟩ := h.view hn
  have hsec : devSector s D n = ((s.disk D.disk).sure.getD (sumAt n) [], V n, 0, s.tick.tick) := by
   have e1 := pow_read h.p.pow (h.p.place hn).1
   have e2 := pow_read h.p.pow.tick (n := dataAt n) (h.p.place hn).2
   have ho2 : s.tick.off = false := ho
   rw [ho, if_neg Bool.false_ne_true] at e1
   rw [ho2, if_neg Bool.false_ne_true] at e2
   have hbd : (0 : Int) ≤ (n : Int) ∧ (n : Int) < (D.size : Int) := by omega
   rw [sec_ok (s := s) (D := D) (n := n) hbd (by rw [Int.toNat_natCast, e1]), Int.toNat_natCast, e1]
   dsimp only
   rw [e2, v2]
   show (_, rdS s D.disk (dataAt n), _, _) = _
   rw [v1]
  have h2 := h.tick.tick
  have hf := h.fits hn
  have main : ∀ (s1 : ShM) (D1 : DevM), Lives s1 D1 V May → D1.disk = D.disk → D1.size = D.size → D1.opn ≠ n → s1.disks.length = s.disks.length → s1.sectors = s.sectors → (s1.disk D.disk).sure.getD (sumAt n) [] = (s.disk D.disk).sure.getD (sumAt n) [] →
    devOpen s.tick.tick D n = (0, s1, D1) → Written s D V May' n b (devWrite s D n b) := by
   intro s1 D1 h1 e1 e2 e3 e4 e5 e6 e7
   have hfst : devFirst s1 D1 n ((s.disk D.disk).sure.getD (sumAt n) []) (V n) b = (0, s1, D1) := by simp only [devFirst, e1, hf, if_true]
   have hnx : nextP D n (standP ((s.disk D.disk).sure.getD (sumAt n) []) n) (V n) b = (sumB D.disk n (V n), sumB D.disk n b) := by simp only [nextP, hf, if_true]
   have e : devWrite s D n b = devPut s1 D1 n (putSums ((s1.disk D1.disk).sure.getD (sumAt n) []) n (sumB D1.disk n (V n), sumB D1.disk n b)) b := by
    simp only [devWrite, hb, hsec, if_true, e7, Int.toNat_natCast, hfst, hnx, e1, e6]
   rw [e]
   obtain ⟨r1, r2, r3, r4, r5⟩ := h1.put (by rw [e2]; exact hn) e3 hb hm hmn
   exact ⟨r1.trans e1, r2.trans e2, r3.trans e4, r4.trans e5, r5⟩
  by_cases hop : D.opn = n
  ·rcases h2.flush with ⟨ho2, _⟩ | ⟨_, s1, e1, L1, w1, l1, c1⟩
   ·have : s.off = true := ho2
    rw [ho] at this; cases this
   ·refine main s1 _ L1 rfl rfl (by show (-1 : Int) ≠ n; omega) l1 c1 ?_ (by simp only [devOpen, hop, if_true]; exact e1)
    rcases pow_flush h2.p.pow with ⟨ho2, _⟩ | ⟨_, sx, ex, dx⟩
    ·have : s.off = true := ho2
     rw [ho] at this; cases this
    ·simp only [devFlush, ex, if_true] at e1
     injection e1 with _ e1
     injection e1 with e1 _
     subst e1
     rw [dx.disk]
     rcases h.live.st with ⟨e, _⟩ | ⟨m, bm, hmm, e, _⟩
     ·show (settleL _ 0 (s.disk D.disk).waits (s.disk D.disk).sure).getD _ [] = _
      rw [e]; rfl
     ·show (settleL _ 0 (s.disk D.disk).waits (s.disk D.disk).sure).getD _ [] = _
      rw [e]
      show ((s.disk D.disk).sure.set (dataAt m) bm).getD (sumAt n) [] = _
      rw [getD_set _ _ _ _ (h.p.sizes.lt m hmm).2, if_neg (fun e => (place_ne (n := n) (m := m)).1 e.symm)]
  ·exact main s.tick.tick D h2 rfl rfl hop rfl rfl rfl (by simp only [devOpen, hop, if_false])
theorem crash_ok (h : s.Ok) (keep : List (List Int)) : (s.crash keep).Ok := by
 have hl : (s.crash keep).disks.length = s.disks.length := by simp [ShM.crash]
 refine ⟨by rw [hl]; exact h.disks1, by rw [hl]; exact h.disks17, h.sectors1, h.sectors4096, ?_, ?_, ?_⟩
 all_goals
  intro k hk
  simp only [ShM.crash, List.mem_mapIdx] at hk
  obtain ⟨i, hi, rfl⟩ := hk
  have hm : s.disks[i] ∈ s.disks := List.getElem_mem hi
 ·exact (settleL_len _ _ _ _).trans (h.sure _ hm)
 ·intro b hb
  rcases settleL_mem _ _ _ _ b hb with hb | ⟨x, hx, rfl⟩
  ·exact h.sec _ hm b hb
  ·exact (h.waits _ hm x hx).2
 ·intro x hx
  cases hx
theorem crash_good (hp : DPow s D) (hc : CrashL D.disk D.size (s.disk D.disk).sure (s.disk D.disk).waits May) (keep : List (List Int)) :
  Run (s.crash keep) D.disk ∧ (s.crash keep).sectors = s.sectors ∧ (s.crash keep).disks.length = s.disks.length ∧
  ∀ n, n < D.size → fitsP D.disk (standP (rdS (s.crash keep) D.disk (sumAt n)) n) n (rdS (s.crash keep) D.disk (dataAt n)) = true ∧ May n (rdS (s.crash keep) D.disk (dataAt n)) := by
 have hl : (s.crash keep).disks.length = s.disks.length := by simp [ShM.crash]
 have e : (s.crash keep).disk D.disk = (s.disk D.disk).settle (keepsOf keep D.disk) := crash_disk s keep hp.pow.disk
 refine ⟨⟨crash_ok hp.pow.ok keep, rfl, by rw [hl]; exact hp.pow.disk, by rw [e]; exact hp.pow.alive⟩, rfl, hl, fun n hn => ?_⟩
 simp only [rdS, DiskM.read, e]
 exact hc (keepsOf keep D.disk) n hn
end
end
section
open Go.RowKit
section
variable {s : ShM} {d : Nat} {D : DevM} {V : Nat → Bytes} {May May' : Nat → Bytes → Prop}
def Just (V : Nat → Bytes) (k : Nat) (x : Bytes) : Prop := x = V k
def Just1 (V : Nat → Bytes) (n : Nat) (b : Bytes) (k : Nat) (x : Bytes) : Prop := x = V k ∨ (k = n ∧ x = b)
theorem spend_stops (s : ShM) : s.spend.stops = s.stops := by unfold ShM.spend; split <;> rfl
theorem writeR_stops (s : ShM) (d n : Int) (b : Bytes) : (s.writeR d n b).2.stops = s.stops := by
 simp only [ShM.writeR]
 split
 ·split
  ·show s.spend.stops = _
   exact spend_stops s
  ·rfl
 ·rfl
theorem flushR_stops (s : ShM) (d : Int) : (s.flushR d).2.stops = s.stops := by
 simp only [ShM.flushR]
 split
 ·split
  ·show s.spend.stops = _
   exact spend_stops s
  ·rfl
 ·rfl
structure Rest (s s' : ShM) (D D' : DevM) : Prop where
 disk : D'.disk = D.disk
 size : D'.size = D.size
 len : s'.disks.length = s.disks.length
 sec : s'.sectors = s.sectors
 other : ∀ e, e ≠ D.disk → s'.disk e = s.disk e
 stops : s'.stops = s.stops
theorem Rest.refl (s : ShM) (D : DevM) : Rest s s D D := ⟨rfl, rfl, rfl, rfl, fun _ _ => rfl, rfl⟩
theorem Rest.trans {s s' s'' : ShM} {D D' D'' : DevM} (h : Rest s s' D D') (k : Rest s' s'' D' D'') : Rest s s'' D D'' :=
 ⟨k.disk.trans h.disk, k.size.trans h.size, k.len.trans h.len, k.sec.trans h.sec, fun e he => (k.other e (by rw [h.disk]; exact he)).trans (h.other e he), k.stops.trans h.stops⟩
theorem Rest.opn (s : ShM) (D : DevM) (o : Int) : Rest s s D { D with opn := o } := ⟨rfl, rfl, rfl, rfl, fun _ _ => rfl, rfl⟩
theorem Did.rest {s' : ShM} {k : DiskM} {D' : DevM} (h : Did s s' D.disk k) (e1 : D'.disk = D.disk) (e2 : D'.size = D.size) (hs : s'.stops = s.stops) : Rest s s' D D' := ⟨e1, e2, h.len, h.sec, h.other, hs⟩
theorem Lives.flush2 (h : Lives s D V May) : (s.off = true ∧ devFlush s D = (3, s, D)) ∨
  (s.off = false ∧ ∃ s', devFlush s D = (0, s', { D with opn := -1 }) ∧ Lives s' { D with opn := -1 } V (Just V) ∧ (s'.disk D.disk).waits = [] ∧ (s'.disk D.disk).sure.getD (sumAt 0) [] = (s'.disk D.disk).sure.getD (sumAt 0) [] ∧ Rest s s' D { D with opn := -1 } ∧ ∀ n, n < D.size → (s'.disk D.disk).sure.getD (sumAt n) [] = (s.disk D.disk).sure.getD (sumAt n) []) := by
 rcases pow_flush h.p.pow with ⟨ho, e⟩ | ⟨ho, s', e, hd⟩
 ·exact .inl ⟨ho, by simp only [devFlush, e]; rfl⟩
 ·have hst : s'.stops = s.stops := by have := flushR_stops s D.disk; rw [e] at this; exact this
  refine .inr ⟨ho, s', by simp only [devFlush, e, if_true], ⟨hd.dpow h.p rfl rfl (by simp [DiskM.settle]), ?_⟩, by rw [hd.disk]; rfl, rfl, hd.rest rfl rfl hst, fun n hn => ?_⟩
  ·show LiveL D.disk D.size (s'.disk D.disk).sure (s'.disk D.disk).waits (-1) V (Just V)
   rw [hd.disk]
   exact ((h.live.flush h.p.sizes _).1).last fun k _ => rfl
  ·rw [hd.disk]
   rcases h.live.st with ⟨e, _⟩ | ⟨m, bm, hmm, e, _⟩
   ·show (settleL _ 0 (s.disk D.disk).waits (s.disk D.disk).sure).getD _ [] = _
    rw [e]; rfl
   ·show (settleL _ 0 (s.disk D.disk).waits (s.disk D.disk).sure).getD _ [] = _
    rw [e]
    show ((s.disk D.disk).sure.set (dataAt m) bm).getD (sumAt n) [] = _
    rw [getD_set _ _ _ _ (h.p.sizes.lt m hmm).2, if_neg (fun e => (place_ne (n := n) (m := m)).1 e.symm)]
def Wrote2 (s : ShM) (D : DevM) (V : Nat → Bytes) (May : Nat → Bytes → Prop) (n : Nat) (b : Bytes) (r : Int × ShM × DevM) : Prop :=
 Rest s r.2.1 D r.2.2 ∧ ((r.1 = 0 ∧ Lives r.2.1 r.2.2 (updV V n b) (Just1 V n b)) ∨ (r.1 = 3 ∧ (Gone r.2.1 r.2.2 May ∨ Gone r.2.1 r.2.2 (Just V))))
theorem Lives.put2 (h : Lives s D V May) {n : Nat} (hn : n < D.size) (hno : D.opn ≠ n) {b : Bytes} (hb : b.length = 128) :
  Wrote2 s D V May n b (devPut s D n (putSums ((s.disk D.disk).sure.getD (sumAt n) []) n (sumB D.disk n (V n), sumB D.disk n b)) b) := by
 have hpl := stand_put ((s.disk D.disk).sure.getD (sumAt n) []) n (sumB D.disk n (V n), sumB D.disk n b) (h.p.sizes.len n hn) (sumB_lt _ _ _) (sumB_lt _ _ _)
 obtain ⟨hc, hl⟩ := h.live.sums h.p.sizes hn hno b
 generalize hS : putSums ((s.disk D.disk).sure.getD (sumAt n) []) n (sumB D.disk n (V n), sumB D.disk n b) = S at *
 rcases pow_write h.p.pow (h.p.place hn).1 hpl.2 with ⟨ho, e⟩ | ⟨_, s3, e3, d3⟩
 ·have e' : devPut s D n S b = (3, s, D) := by simp only [devPut, e]; rfl
  rw [e']
  exact ⟨Rest.refl _ _, .inr ⟨rfl, .inl (h.gone ho fun _ _ h => h)⟩⟩
 have hw1 := h.waits_le
 have t3 : s3.stops = s.stops := by have := writeR_stops s D.disk (sumAt n) S; rw [e3] at this; exact this
 have p3 : DPow s3 D := d3.dpow h.p rfl rfl (by simp only [DiskM.write, List.length_append, List.length_singleton]; omega)
 rcases pow_flush d3.pow with ⟨ho, e⟩ | ⟨_, s4, e4, d4⟩
 ·have e' : devPut s D n S b = (3, s3, D) := by simp only [devPut, e3, if_true, devFlush, e]; rfl
  rw [e']
  refine ⟨d3.rest rfl rfl t3, .inr ⟨rfl, .inl ⟨p3, ho, ?_⟩⟩⟩
  show CrashL D.disk D.size (s3.disk D.disk).sure (s3.disk D.disk).waits May
  rw [d3.disk]
  exact hc
 obtain ⟨l4, z4, f4⟩ := hl (-1)
 have t4 : s4.stops = s3.stops := by have := flushR_stops s3 D.disk; rw [e4] at this; exact this
 have p4 : DPow s4 { D with opn := -1 } := d4.dpow p3 rfl rfl (by simp [DiskM.settle])
 have l4' : LiveL D.disk D.size (s4.disk D.disk).sure [] (-1) V (Just V) := by
  rw [d4.disk, d3.disk]
  exact l4.last fun k _ => rfl
 have hw4 : (s4.disk D.disk).waits = [] := by rw [d4.disk]; rfl
 have L4 : Lives s4 { D with opn := -1 } V (Just V) := ⟨p4, by
  show LiveL D.disk D.size (s4.disk D.disk).sure (s4.disk D.disk).waits (-1) V (Just V)
  rw [hw4]
  exact l4'⟩
 have r4 : Rest s s4 D { D with opn := -1 } := (d3.rest rfl rfl t3).trans (d4.rest rfl rfl t4)
 rcases pow_write p4.pow (p4.place hn).2 hb with ⟨ho, e⟩ | ⟨_, s5, e5, d5⟩
 ·have e' : devPut s D n S b = (3, s4, { D with opn := -1 }) := by simp only [devPut, e3, if_true, devFlush, e4]; rw [e]; rfl
  rw [e']
  exact ⟨r4, .inr ⟨rfl, .inr (L4.gone ho fun _ _ h => h)⟩⟩
 ·have e' : devPut s D n S b = (0, s5, { D with opn := (n : Int) }) := by simp only [devPut, e3, if_true, devFlush, e4]; rw [e5]; rfl
  have t5 : s5.stops = s4.stops := by have := writeR_stops s4 D.disk (dataAt n) b; rw [show ({ D with opn := -1 } : DevM).disk = D.disk from rfl] at e5; rw [e5] at this; exact this
  rw [e']
  refine ⟨r4.trans ((d5.rest (D := { D with opn := -1 }) (D' := { D with opn := -1 }) rfl rfl t5).trans (Rest.opn s5 { D with opn := -1 } n)), .inl ⟨rfl, d5.dpow p4 rfl rfl (by show ((s4.disk D.disk).waits ++ [(dataAt n, b)]).length ≤ 100; rw [hw4]; simp), ?_⟩⟩
  show LiveL D.disk D.size (s5.disk D.disk).sure (s5.disk D.disk).waits n (updV V n b) (Just1 V n b)
  have e5' : s5.disk D.disk = (s4.disk D.disk).write (dataAt n) b := d5.disk
  rw [e5']
  show LiveL D.disk D.size (s4.disk D.disk).sure ((s4.disk D.disk).waits ++ [(dataAt n, b)]) n (updV V n b) (Just1 V n b)
  rw [hw4]
  refine (l4'.mono (May' := Just1 V n b) fun k x h => .inl h).wait hn ?_ (.inr ⟨rfl, rfl⟩)
  rw [d4.disk, d3.disk]
  exact f4
theorem Wrote2.pre {s1 : ShM} {D1 : DevM} {May1 : Nat → Bytes → Prop} {n : Nat} {b : Bytes} {r : Int × ShM × DevM} (h : Wrote2 s1 D1 V May1 n b r) (hr : Rest s s1 D D1) (hm : ∀ k x, May1 k x → May k x ) : Wrote2 s D V May n b r := by
 refine ⟨hr.trans h.1, h.2.imp id fun ⟨e, g⟩ => ⟨e, g.imp (fun g => ⟨g.p, g.off, g.crash.mono hm⟩) id⟩⟩
theorem Lives.write2 (h : Lives s D V May) {n : Nat} (hn : n < D.size) {b : Bytes} (hb : b.length = 128) : Wrote2 s D V May n b (devWrite s D n b) := by
 cases ho : s.off with
 | true =>
  have g := h.gone ho fun _ _ h => h
  rw [g.write hn hb]
  exact ⟨Rest.refl _ _, .inr ⟨rfl, .inl g⟩⟩
 | false =>
  obtain ⟨v1, v2⟩ := h.view hn
  have hsec : devSector s D n = ((s.disk D.disk).sure.getD (sumAt n) [], V n, 0, s.tick.tick) := by
   have e1 := pow_read h.p.pow (h.p.place hn).1
   have e2 := pow_read h.p.pow.tick (n := dataAt n) (h.p.place hn).2
   have ho2 : s.tick.off = false := ho
   rw [ho, if_neg Bool.false_ne_true] at e1
   rw [ho2, if_neg Bool.false_ne_true] at e2
   have hbd : (0 : Int) ≤ (n : Int) ∧ (n : Int) < (D.size : Int) := by omega
   rw [sec_ok (s := s) (D := D) (n := n) hbd (by rw [Int.toNat_natCast, e1]), Int.toNat_natCast, e1]
   dsimp only
   rw [e2, v2]
   show (_, rdS s D.disk (dataAt n), _, _) = _
   rw [v1]
  have h2 := h.tick.tick
  have rt : Rest s s.tick.tick D D := ⟨rfl, rfl, rfl, rfl, fun _ _ => rfl, rfl⟩
  have hf := h.fits hn
  have main : ∀ (s1 : ShM) (D1 : DevM) (May1 : Nat → Bytes → Prop), Lives s1 D1 V May1 → Rest s s1 D D1 → (s1.disk D.disk).sure.getD (sumAt n) [] = (s.disk D.disk).sure.getD (sumAt n) [] → D1.opn ≠ n →
    devOpen s.tick.tick D n = (0, s1, D1) → Wrote2 s1 D1 V May1 n b (devWrite s D n b) := by
   intro s1 D1 May1 h1 hr e6 e3 e7
   have hfst : devFirst s1 D1 n ((s.disk D.disk).sure.getD (sumAt n) []) (V n) b = (0, s1, D1) := by simp only [devFirst, hr.disk, hf, if_true]
   have hnx : nextP D n (standP ((s.disk D.disk).sure.getD (sumAt n) []) n) (V n) b = (sumB D.disk n (V n), sumB D.disk n b) := by simp only [nextP, hf, if_true]
   have e : devWrite s D n b = devPut s1 D1 n (putSums ((s1.disk D1.disk).sure.getD (sumAt n) []) n (sumB D1.disk n (V n), sumB D1.disk n b)) b := by
    simp only [devWrite, hb, hsec, if_true, e7, Int.toNat_natCast, hfst, hnx, hr.disk, e6]
   rw [e]
   exact h1.put2 (by rw [hr.size]; exact hn) e3 hb
  by_cases hop : D.opn = n
  ·rcases h2.flush2 with ⟨ho2, _⟩ | ⟨_, s1, e1, L1, w1, _, r1, q1⟩
   ·have : s.off = true := ho2
    rw [ho] at this; cases this
   ·have hm := main s1 _ (Just V) L1 (rt.trans r1) (q1 n hn) (by show (-1 : Int) ≠ n; omega) (by simp only [devOpen, hop, if_true]; exact e1)
    obtain ⟨k1, k2⟩ := hm
    refine ⟨(rt.trans r1).trans k1, k2.imp id fun ⟨e, g⟩ => ⟨e, .inr (g.elim id id)⟩⟩
  ·exact (main s.tick.tick D May h2 rt rfl hop (by simp only [devOpen, hop, if_false])).pre rt fun _ _ h => h
theorem Lives.read2 (h : Lives s D V May) {n : Nat} (hn : n < D.size) : devRead s D n = if s.off then ([], 3, s) else (V n, 0, s.tick.tick) := by
 cases ho : s.off with
 | true =>
  have e := pow_read h.p.pow (h.p.place hn).1
  rw [if_pos ho] at e
  have hbd : (0 : Int) ≤ (n : Int) ∧ (n : Int) < (D.size : Int) := by omega
  have hsec : devSector s D n = ([], [], 3, s) := by
   simp only [devSector, hbd, and_self, if_true, Int.toNat_natCast, e]
   rfl
  simp only [devRead, hsec, if_true]
  rfl
 | false =>
  obtain ⟨v1, v2⟩ := h.view hn
  have e1 := pow_read h.p.pow (h.p.place hn).1
  have e2 := pow_read h.p.pow.tick (n := dataAt n) (h.p.place hn).2
  have ho2 : s.tick.off = false := ho
  rw [ho, if_neg Bool.false_ne_true] at e1
  rw [ho2, if_neg Bool.false_ne_true] at e2
  have hbd : (0 : Int) ≤ (n : Int) ∧ (n : Int) < (D.size : Int) := by omega
  have hsec : devSector s D n = ((s.disk D.disk).sure.getD (sumAt n) [], V n, 0, s.tick.tick) := by
   rw [sec_ok (s := s) (D := D) (n := n) hbd (by rw [Int.toNat_natCast, e1]), Int.toNat_natCast, e1]
   dsimp only
   rw [e2, v2]
   show (_, rdS s D.disk (dataAt n), _, _) = _
   rw [v1]
  simp only [devRead, hsec, Int.toNat_natCast, h.fits hn, if_true]
  rfl
theorem Lives.len (h : Lives s D V May) {n : Nat} (hn : n < D.size) : (V n).length = 128 := by
 obtain ⟨v1, _⟩ := h.view hn
 rw [← v1]
 exact read_len h.p.pow.ok h.p.pow.disk (h.p.place hn).2
theorem Lives.may (h : Lives s D V May) {n : Nat} (hn : n < D.size) : May n (V n) := by
 rcases h.live.st with ⟨_, hv⟩ | ⟨m, b, _, _, _, _, hm, hb, hv⟩
 ·rw [hv n hn]; exact (h.live.good n hn).2
 ·by_cases e : n = m
  ·subst e; rw [hb]; exact hm
  ·rw [hv n hn e]; exact (h.live.good n hn).2
theorem Lives.mono (h : Lives s D V May) (hm : ∀ k x, May k x → May' k x) : Lives s D V May' := ⟨h.p, h.live.mono hm⟩
theorem Gone.read (h : Gone s D May) {n : Nat} (hn : n < D.size) : devRead s D n = ([], 3, s) := by
 have e := pow_read h.p.pow (h.p.place hn).1
 rw [if_pos h.off] at e
 have hbd : (0 : Int) ≤ (n : Int) ∧ (n : Int) < (D.size : Int) := by omega
 have hsec : devSector s D n = ([], [], 3, s) := by
  simp only [devSector, hbd, and_self, if_true, Int.toNat_natCast, e]
  rfl
 simp only [devRead, hsec]
 rfl
theorem Gone.mono (h : Gone s D May) (hm : ∀ k x, May k x → May' k x) : Gone s D May' := ⟨h.p, h.off, h.crash.mono hm⟩
theorem Wrote2.on {n : Nat} {b : Bytes} {r : Int × ShM × DevM} (h : Wrote2 s D V May n b r) (hon : s.stops = false) : r.1 = 0 ∧ Lives r.2.1 r.2.2 (updV V n b) (Just1 V n b) := by
 rcases h.2 with h2 | ⟨_, g⟩
 ·exact h2
 ·have hs := h.1.stops
  rw [hon] at hs
  rcases g with g | g <;>
  ·have := g.off
   simp [ShM.off, hs] at this
end
end
end Go.Proofs.Ytajnlhalanhicaa

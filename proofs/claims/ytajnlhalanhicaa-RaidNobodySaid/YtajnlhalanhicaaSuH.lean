/-
  A disk's blocks while the power may go at any write: just what each call leaves of each block. No program in sight.
-/
import Derived.Test.YtajnlhalanhicaaSuO
namespace Go.Proofs.Ytajnlhalanhicaa
set_option linter.all false
set_option maxRecDepth 20000
open Go.RowKit

section
variable {s : ShM} {d : Nat} {D : DevM} {V : Nat → Bytes} {May May' : Nat → Bytes → Prop}
/-- each block has just this -/
def Just (V : Nat → Bytes) (k : Nat) (x : Bytes) : Prop := x = V k
/-- .. but for one, which may have other bytes -/
def Just1 (V : Nat → Bytes) (n : Nat) (b : Bytes) (k : Nat) (x : Bytes) : Prop := x = V k ∨ (k = n ∧ x = b)
theorem setDisk_stops (s : ShM) (d : Nat) (k : DiskM) : (s.setDisk d k).stops = s.stops := rfl
theorem spend_stops (s : ShM) : s.spend.stops = s.stops := by unfold ShM.spend; split <;> rfl
theorem writeR_stops (s : ShM) (d n : Int) (b : Bytes) : (s.writeR d n b).2.stops = s.stops := by
  simp only [ShM.writeR]
  split
  · split
    · show s.spend.stops = _
      exact spend_stops s
    · rfl
  · rfl
theorem flushR_stops (s : ShM) (d : Int) : (s.flushR d).2.stops = s.stops := by
  simp only [ShM.flushR]
  split
  · split
    · show s.spend.stops = _
      exact spend_stops s
    · rfl
  · rfl
theorem readR_stops (s : ShM) (d n : Int) : (s.readR d n).2.2.stops = s.stops := by
  simp only [ShM.readR]
  split
  · split <;> rfl
  · rfl
/-- the rest is as it was -/
structure Rest (s s' : ShM) (D D' : DevM) : Prop where
  disk : D'.disk = D.disk
  size : D'.size = D.size
  len : s'.disks.length = s.disks.length
  sec : s'.sectors = s.sectors
  other : ∀ e, e ≠ D.disk → s'.disk e = s.disk e
  stops : s'.stops = s.stops
theorem Rest.refl (s : ShM) (D : DevM) : Rest s s D D := ⟨rfl, rfl, rfl, rfl, fun _ _ => rfl, rfl⟩
theorem Rest.trans {s s' s'' : ShM} {D D' D'' : DevM} (h : Rest s s' D D') (k : Rest s' s'' D' D'') : Rest s s'' D D'' :=
  ⟨k.disk.trans h.disk, k.size.trans h.size, k.len.trans h.len, k.sec.trans h.sec, fun e he => (k.other e (by rw [h.disk]; exact he)).trans (h.other e he), k.stops.trans h.stops⟩
theorem Rest.opn (s : ShM) (D : DevM) (o : Int) : Rest s s D { D with opn := o } := ⟨rfl, rfl, rfl, rfl, fun _ _ => rfl, rfl⟩
theorem Did.rest {s' : ShM} {k : DiskM} {D' : DevM} (h : Did s s' D.disk k) (e1 : D'.disk = D.disk) (e2 : D'.size = D.size) (hs : s'.stops = s.stops) : Rest s s' D D' := ⟨e1, e2, h.len, h.sec, h.other, hs⟩
theorem Lives.flush2 (h : Lives s D V May) : (s.off = true ∧ devFlush s D = (3, s, D)) ∨
    (s.off = false ∧ ∃ s', devFlush s D = (0, s', { D with opn := -1 }) ∧ Lives s' { D with opn := -1 } V (Just V) ∧ (s'.disk D.disk).waits = [] ∧ (s'.disk D.disk).sure.getD (sumAt 0) [] = (s'.disk D.disk).sure.getD (sumAt 0) [] ∧ Rest s s' D { D with opn := -1 } ∧ ∀ n, n < D.size → (s'.disk D.disk).sure.getD (sumAt n) [] = (s.disk D.disk).sure.getD (sumAt n) []) := by
  rcases pow_flush h.p.pow with ⟨ho, e⟩ | ⟨ho, s', e, hd⟩
  · exact .inl ⟨ho, by simp only [devFlush, e]; rfl⟩
  · have hst : s'.stops = s.stops := by have := flushR_stops s D.disk; rw [e] at this; exact this
    refine .inr ⟨ho, s', by simp only [devFlush, e, if_true], ⟨hd.dpow h.p rfl rfl (by simp [DiskM.settle]), ?_⟩, by rw [hd.disk]; rfl, rfl, hd.rest rfl rfl hst, fun n hn => ?_⟩
    · show LiveL D.disk D.size (s'.disk D.disk).sure (s'.disk D.disk).waits (-1) V (Just V)
      rw [hd.disk]
      exact ((h.live.flush h.p.sizes _).1).last fun k _ => rfl
    · rw [hd.disk]
      rcases h.live.st with ⟨e, _⟩ | ⟨m, bm, hmm, e, _⟩
      · show (settleL _ 0 (s.disk D.disk).waits (s.disk D.disk).sure).getD _ [] = _
        rw [e]; rfl
      · show (settleL _ 0 (s.disk D.disk).waits (s.disk D.disk).sure).getD _ [] = _
        rw [e]
        show ((s.disk D.disk).sure.set (dataAt m) bm).getD (sumAt n) [] = _
        rw [getD_set _ _ _ _ (h.p.sizes.lt m hmm).2, if_neg (fun e => (place_ne (n := n) (m := m)).1 e.symm)]
/-- what a write of a block leaves -/
def Wrote2 (s : ShM) (D : DevM) (V : Nat → Bytes) (May : Nat → Bytes → Prop) (n : Nat) (b : Bytes) (r : Int × ShM × DevM) : Prop :=
  Rest s r.2.1 D r.2.2 ∧ ((r.1 = 0 ∧ Lives r.2.1 r.2.2 (updV V n b) (Just1 V n b)) ∨ (r.1 = 3 ∧ (Gone r.2.1 r.2.2 May ∨ Gone r.2.1 r.2.2 (Just V))))
theorem Lives.put2 (h : Lives s D V May) {n : Nat} (hn : n < D.size) (hno : D.opn ≠ n) {b : Bytes} (hb : b.length = 128) :
    Wrote2 s D V May n b (devPut s D n (putSums ((s.disk D.disk).sure.getD (sumAt n) []) n (sumB D.disk n (V n), sumB D.disk n b)) b) := by
  have hpl := stand_put ((s.disk D.disk).sure.getD (sumAt n) []) n (sumB D.disk n (V n), sumB D.disk n b) (h.p.sizes.len n hn) (sumB_lt _ _ _) (sumB_lt _ _ _)
  obtain ⟨hc, hl⟩ := h.live.sums h.p.sizes hn hno b
  generalize hS : putSums ((s.disk D.disk).sure.getD (sumAt n) []) n (sumB D.disk n (V n), sumB D.disk n b) = S at *
  rcases pow_write h.p.pow (h.p.place hn).1 hpl.2 with ⟨ho, e⟩ | ⟨_, s3, e3, d3⟩
  · have e' : devPut s D n S b = (3, s, D) := by simp only [devPut, e]; rfl
    rw [e']
    exact ⟨Rest.refl _ _, .inr ⟨rfl, .inl (h.gone ho fun _ _ h => h)⟩⟩
  have hw1 := h.waits_le
  have t3 : s3.stops = s.stops := by have := writeR_stops s D.disk (sumAt n) S; rw [e3] at this; exact this
  have p3 : DPow s3 D := d3.dpow h.p rfl rfl (by simp only [DiskM.write, List.length_append, List.length_singleton]; omega)
  rcases pow_flush d3.pow with ⟨ho, e⟩ | ⟨_, s4, e4, d4⟩
  · have e' : devPut s D n S b = (3, s3, D) := by simp only [devPut, e3, if_true, devFlush, e]; rfl
    rw [e']
    refine ⟨d3.rest rfl rfl t3, .inr ⟨rfl, .inl ⟨p3, ho, ?_⟩⟩⟩
    show CrashL D.disk D.size (s3.disk D.disk).sure (s3.disk D.disk).waits May
    rw [d3.disk]
    exact hc
  obtain ⟨l4, z4, f4⟩ := hl (-1)
  have t4 : s4.stops = s3.stops := by have := flushR_stops s3 D.disk; rw [e4] at this; exact this
  have p4 : DPow s4 { D with opn := -1 } := d4.dpow p3 rfl rfl (by simp [DiskM.settle])
  have l4' : LiveL D.disk D.size (s4.disk D.disk).sure [] (-1) V (Just V) := by
    rw [d4.disk, d3.disk]
    exact l4.last fun k _ => rfl
  have hw4 : (s4.disk D.disk).waits = [] := by rw [d4.disk]; rfl
  have L4 : Lives s4 { D with opn := -1 } V (Just V) := ⟨p4, by
    show LiveL D.disk D.size (s4.disk D.disk).sure (s4.disk D.disk).waits (-1) V (Just V)
    rw [hw4]
    exact l4'⟩
  have r4 : Rest s s4 D { D with opn := -1 } := (d3.rest rfl rfl t3).trans (d4.rest rfl rfl t4)
  rcases pow_write p4.pow (p4.place hn).2 hb with ⟨ho, e⟩ | ⟨_, s5, e5, d5⟩
  · have e' : devPut s D n S b = (3, s4, { D with opn := -1 }) := by simp only [devPut, e3, if_true, devFlush, e4]; rw [e]; rfl
    rw [e']
    exact ⟨r4, .inr ⟨rfl, .inr (L4.gone ho fun _ _ h => h)⟩⟩
  · have e' : devPut s D n S b = (0, s5, { D with opn := (n : Int) }) := by simp only [devPut, e3, if_true, devFlush, e4]; rw [e5]; rfl
    have t5 : s5.stops = s4.stops := by have := writeR_stops s4 D.disk (dataAt n) b; rw [show ({ D with opn := -1 } : DevM).disk = D.disk from rfl] at e5; rw [e5] at this; exact this
    rw [e']
    refine ⟨r4.trans ((d5.rest (D := { D with opn := -1 }) (D' := { D with opn := -1 }) rfl rfl t5).trans (Rest.opn s5 { D with opn := -1 } n)), .inl ⟨rfl, d5.dpow p4 rfl rfl (by show ((s4.disk D.disk).waits ++ [(dataAt n, b)]).length ≤ 100; rw [hw4]; simp), ?_⟩⟩
    show LiveL D.disk D.size (s5.disk D.disk).sure (s5.disk D.disk).waits n (updV V n b) (Just1 V n b)
    have e5' : s5.disk D.disk = (s4.disk D.disk).write (dataAt n) b := d5.disk
    rw [e5']
    show LiveL D.disk D.size (s4.disk D.disk).sure ((s4.disk D.disk).waits ++ [(dataAt n, b)]) n (updV V n b) (Just1 V n b)
    rw [hw4]
    refine (l4'.mono (May' := Just1 V n b) fun k x h => .inl h).wait hn ?_ (.inr ⟨rfl, rfl⟩)
    rw [d4.disk, d3.disk]
    exact f4
theorem Wrote2.pre {s1 : ShM} {D1 : DevM} {May1 : Nat → Bytes → Prop} {n : Nat} {b : Bytes} {r : Int × ShM × DevM} (h : Wrote2 s1 D1 V May1 n b r) (hr : Rest s s1 D D1) (hm : ∀ k x, May1 k x → May k x ) : Wrote2 s D V May n b r := by
  refine ⟨hr.trans h.1, h.2.imp id fun ⟨e, g⟩ => ⟨e, g.imp (fun g => ⟨g.p, g.off, g.crash.mono hm⟩) id⟩⟩
theorem Lives.write2 (h : Lives s D V May) {n : Nat} (hn : n < D.size) {b : Bytes} (hb : b.length = 128) : Wrote2 s D V May n b (devWrite s D n b) := by
  cases ho : s.off with
  | true =>
    have g := h.gone ho fun _ _ h => h
    rw [g.write hn hb]
    exact ⟨Rest.refl _ _, .inr ⟨rfl, .inl g⟩⟩
  | false =>
    obtain ⟨v1, v2⟩ := h.view hn
    have hsec : devSector s D n = ((s.disk D.disk).sure.getD (sumAt n) [], V n, 0, s.tick.tick) := by
      have e1 := pow_read h.p.pow (h.p.place hn).1
      have e2 := pow_read h.p.pow.tick (n := dataAt n) (h.p.place hn).2
      have ho2 : s.tick.off = false := ho
      rw [ho, if_neg Bool.false_ne_true] at e1
      rw [ho2, if_neg Bool.false_ne_true] at e2
      have hbd : (0 : Int) ≤ (n : Int) ∧ (n : Int) < (D.size : Int) := by omega
      rw [sec_ok (s := s) (D := D) (n := n) hbd (by rw [Int.toNat_natCast, e1]), Int.toNat_natCast, e1]
      dsimp only
      rw [e2, v2]
      show (_, rdS s D.disk (dataAt n), _, _) = _
      rw [v1]
    have h2 := h.tick.tick
    have rt : Rest s s.tick.tick D D := ⟨rfl, rfl, rfl, rfl, fun _ _ => rfl, rfl⟩
    have hf := h.fits hn
    have main : ∀ (s1 : ShM) (D1 : DevM) (May1 : Nat → Bytes → Prop), Lives s1 D1 V May1 → Rest s s1 D D1 → (s1.disk D.disk).sure.getD (sumAt n) [] = (s.disk D.disk).sure.getD (sumAt n) [] → D1.opn ≠ n →
        devOpen s.tick.tick D n = (0, s1, D1) → Wrote2 s1 D1 V May1 n b (devWrite s D n b) := by
      intro s1 D1 May1 h1 hr e6 e3 e7
      have hfst : devFirst s1 D1 n ((s.disk D.disk).sure.getD (sumAt n) []) (V n) b = (0, s1, D1) := by simp only [devFirst, hr.disk, hf, if_true]
      have hnx : nextP D n (standP ((s.disk D.disk).sure.getD (sumAt n) []) n) (V n) b = (sumB D.disk n (V n), sumB D.disk n b) := by simp only [nextP, hf, if_true]
      have e : devWrite s D n b = devPut s1 D1 n (putSums ((s1.disk D1.disk).sure.getD (sumAt n) []) n (sumB D1.disk n (V n), sumB D1.disk n b)) b := by
        simp only [devWrite, hb, hsec, if_true, e7, Int.toNat_natCast, hfst, hnx, hr.disk, e6]
      rw [e]
      exact h1.put2 (by rw [hr.size]; exact hn) e3 hb
    by_cases hop : D.opn = n
    · rcases h2.flush2 with ⟨ho2, _⟩ | ⟨_, s1, e1, L1, w1, _, r1, q1⟩
      · have : s.off = true := ho2
        rw [ho] at this; cases this
      · have hm := main s1 _ (Just V) L1 (rt.trans r1) (q1 n hn) (by show (-1 : Int) ≠ n; omega) (by simp only [devOpen, hop, if_true]; exact e1)
        obtain ⟨k1, k2⟩ := hm
        refine ⟨(rt.trans r1).trans k1, k2.imp id fun ⟨e, g⟩ => ⟨e, .inr (g.elim id id)⟩⟩
    · exact (main s.tick.tick D May h2 rt rfl hop (by simp only [devOpen, hop, if_false])).pre rt fun _ _ h => h
theorem Lives.read2 (h : Lives s D V May) {n : Nat} (hn : n < D.size) : devRead s D n = if s.off then ([], 3, s) else (V n, 0, s.tick.tick) := by
  cases ho : s.off with
  | true =>
    have e := pow_read h.p.pow (h.p.place hn).1
    rw [if_pos ho] at e
    have hbd : (0 : Int) ≤ (n : Int) ∧ (n : Int) < (D.size : Int) := by omega
    have hsec : devSector s D n = ([], [], 3, s) := by
      simp only [devSector, hbd, and_self, if_true, Int.toNat_natCast, e]
      rfl
    simp only [devRead, hsec, if_true]
    rfl
  | false =>
    obtain ⟨v1, v2⟩ := h.view hn
    have e1 := pow_read h.p.pow (h.p.place hn).1
    have e2 := pow_read h.p.pow.tick (n := dataAt n) (h.p.place hn).2
    have ho2 : s.tick.off = false := ho
    rw [ho, if_neg Bool.false_ne_true] at e1
    rw [ho2, if_neg Bool.false_ne_true] at e2
    have hbd : (0 : Int) ≤ (n : Int) ∧ (n : Int) < (D.size : Int) := by omega
    have hsec : devSector s D n = ((s.disk D.disk).sure.getD (sumAt n) [], V n, 0, s.tick.tick) := by
      rw [sec_ok (s := s) (D := D) (n := n) hbd (by rw [Int.toNat_natCast, e1]), Int.toNat_natCast, e1]
      dsimp only
      rw [e2, v2]
      show (_, rdS s D.disk (dataAt n), _, _) = _
      rw [v1]
    simp only [devRead, hsec, Int.toNat_natCast, h.fits hn, if_true]
    rfl
theorem Lives.len (h : Lives s D V May) {n : Nat} (hn : n < D.size) : (V n).length = 128 := by
  obtain ⟨v1, _⟩ := h.view hn
  rw [← v1]
  exact read_len h.p.pow.ok h.p.pow.disk (h.p.place hn).2
theorem Lives.may (h : Lives s D V May) {n : Nat} (hn : n < D.size) : May n (V n) := by
  rcases h.live.st with ⟨_, hv⟩ | ⟨m, b, _, _, _, _, hm, hb, hv⟩
  · rw [hv n hn]; exact (h.live.good n hn).2
  · by_cases e : n = m
    · subst e; rw [hb]; exact hm
    · rw [hv n hn e]; exact (h.live.good n hn).2
theorem Lives.mono (h : Lives s D V May) (hm : ∀ k x, May k x → May' k x) : Lives s D V May' := ⟨h.p, h.live.mono hm⟩
theorem Gone.read (h : Gone s D May) {n : Nat} (hn : n < D.size) : devRead s D n = ([], 3, s) := by
  have e := pow_read h.p.pow (h.p.place hn).1
  rw [if_pos h.off] at e
  have hbd : (0 : Int) ≤ (n : Int) ∧ (n : Int) < (D.size : Int) := by omega
  have hsec : devSector s D n = ([], [], 3, s) := by
    simp only [devSector, hbd, and_self, if_true, Int.toNat_natCast, e]
    rfl
  simp only [devRead, hsec]
  rfl
theorem Gone.mono (h : Gone s D May) (hm : ∀ k x, May k x → May' k x) : Gone s D May' := ⟨h.p, h.off, h.crash.mono hm⟩
/-- while the power cannot go, no write fails -/
theorem Wrote2.on {n : Nat} {b : Bytes} {r : Int × ShM × DevM} (h : Wrote2 s D V May n b r) (hon : s.stops = false) : r.1 = 0 ∧ Lives r.2.1 r.2.2 (updV V n b) (Just1 V n b) := by
  rcases h.2 with h2 | ⟨_, g⟩
  · exact h2
  · have hs := h.1.stops
    rw [hon] at hs
    rcases g with g | g <;>
    · have := g.off
      simp [ShM.off, hs] at this
end
end Go.Proofs.Ytajnlhalanhicaa

/-
  A log's slots while the power may go. No program in sight.
-/
import Derived.Test.YtibpmiapcihkfaaSuH
import Derived.Test.YtibpmiapcihkfaaPpN
import Derived.Test.YtibpmiapcihkfaaPpP
import Derived.Test.YtibpmiapcihkfaaSuCr
namespace Go.Proofs.Ytibpmiapcihkfaa
set_option linter.all false
open Go.RowKit

/-- one disk of 40 sectors -/
structure One (s : ShM) (D : DevM) : Prop where
  disk : D.disk = 0
  size : D.size = 37
  len : s.disks.length = 1
  sec : s.sectors = 40
  room : Room 100 s
section
variable {s s' : ShM} {D D' : DevM} {V : Nat → Bytes} {May : Nat → Bytes → Prop}
theorem One.rest (h : One s D) (hr : Rest s s' D D') (hm : Room 100 s') : One s' D' := ⟨hr.disk.trans h.disk, hr.size.trans h.size, hr.len.trans h.len, hr.sec.trans h.sec, hm⟩
theorem hd_ne_zero (r : Rec) : hdBytes r ≠ zeroSec := by
  obtain ⟨ys, e⟩ := hd_split r
  rw [e]
  intro h
  have := congrArg (fun l => l.head?) h
  simp [magicP, zeroSec] at this
theorem zeroSec_len' : zeroSec.length = 128 := by simp [zeroSec]
theorem may_len {r : Rec} (h : mayB r = true) : r.part.length = 128 := (of_decide_eq_true h).2.2.2.2
theorem Lives.stop (h : Lives s D V May) (n : Int) : Lives (s.stop n) D V May := by
  have hd : (s.stop n).disks = s.disks := by simp only [ShM.stop]; split <;> rfl
  have hc : (s.stop n).sectors = s.sectors := by simp only [ShM.stop]; split <;> rfl
  have hk : ∀ e, (s.stop n).disk e = s.disk e := fun e => by simp only [ShM.disk, hd]
  have ho := h.p.pow.ok
  refine ⟨⟨⟨⟨by rw [hd]; exact ho.disks1, by rw [hd]; exact ho.disks17, by rw [hc]; exact ho.sectors1, by rw [hc]; exact ho.sectors4096, by rw [hd, hc]; exact ho.sure, by rw [hd]; exact ho.sec, by rw [hd, hc]; exact ho.waits⟩, by rw [hd]; exact h.p.pow.disk, by rw [hk]; exact h.p.pow.alive⟩, by rw [hc]; exact h.p.size, fun e => by rw [hk]; exact h.p.room e⟩, ?_⟩
  rw [hk]
  exact h.live
theorem One.stop (h : One s D) (n : Int) : One (s.stop n) D := by
  have hd : (s.stop n).disks = s.disks := by simp only [ShM.stop]; split <;> rfl
  have hc : (s.stop n).sectors = s.sectors := by simp only [ShM.stop]; split <;> rfl
  exact ⟨h.disk, h.size, by rw [hd]; exact h.len, by rw [hc]; exact h.sec, fun e => by simp only [ShM.disk, hd]; exact h.room e⟩
theorem one_fresh : One (freshSh 1 40) ⟨0, 37, -1⟩ ∧ Lives (freshSh 1 40) ⟨0, 37, -1⟩ (fun _ => zeroSec) (fun _ x => x = zeroSec) ∧ (freshSh 1 40).stops = false := by
  have h := crash_start (-1)
  have e : (freshSh 1 40).stop (-1) = freshSh 1 40 := by rfl
  have hf : freshDev (freshSh 1 40) 0 = ⟨0, 37, -1⟩ := rfl
  rw [e, hf] at h
  refine ⟨⟨rfl, rfl, rfl, rfl, h.room⟩, ?_, rfl⟩
  rcases h.st with ⟨W, hl, hv⟩ | hg
  · have hW : ∀ k, k < 37 → W k = zeroSec := fun k hk => by
      have := hv k hk
      simpa using this.symm
    refine ⟨hl.p, ⟨fun k hk => ⟨(hl.live.good k hk).1, by have := (hl.live.good k hk).2; simpa using this⟩, .inl ?_⟩⟩
    have hw0 : ((freshSh 1 40).disk 0).waits = [] := rfl
    rcases hl.live.st with ⟨q, hq⟩ | ⟨m, b, _, q, _⟩
    · exact ⟨q, fun k hk => by rw [← hq k hk]; exact (hW k hk).symm⟩
    · have : ((freshSh 1 40).disk (⟨0, 37, -1⟩ : DevM).disk).waits = [] := rfl
      rw [this] at q; cases q
  · have := hg.off
    cases this

/-- what may be there behind a crash, whatever happened -/
def Left (s : ShM) (D : DevM) (J : (Nat → Bytes → Prop) → Prop) : Prop := (∃ V May, Lives s D V May ∧ J May) ∨ ∃ May, Gone s D May ∧ J May
theorem Left.crash {J : (Nat → Bytes → Prop) → Prop} (h : Left s D J) (h1 : One s D) (keep : List (List Int)) : Run (s.crash keep) 0 ∧ (s.crash keep).sectors = 40 ∧ (s.crash keep).disks.length = 1 ∧
    ∃ May, J May ∧ ∀ n, n < 37 → fitsP 0 (standP (rdS (s.crash keep) 0 (sumAt n)) n) n (rdS (s.crash keep) 0 (dataAt n)) = true ∧ May n (rdS (s.crash keep) 0 (dataAt n)) := by
  rcases h with ⟨V, May, hl, hj⟩ | ⟨May, hg, hj⟩
  · obtain ⟨r1, r2, r3, r4⟩ := crash_good hl.p (hl.live.crash hl.p.sizes) keep
    rw [h1.disk] at r1 r4
    exact ⟨r1, r2.trans h1.sec, r3.trans h1.len, May, hj, fun n hn => r4 n (by rw [h1.size]; exact hn)⟩
  · obtain ⟨r1, r2, r3, r4⟩ := crash_good hg.p hg.crash keep
    rw [h1.disk] at r1 r4
    exact ⟨r1, r2.trans h1.sec, r3.trans h1.len, May, hj, fun n hn => r4 n (by rw [h1.size]; exact hn)⟩
/-- a read of what is good -/
theorem good_get {sc : ShM} {slots : Nat} {k : Nat} (hr : Run sc 0) (hs : sc.sectors = 40) (hk : k < slots) (h8 : slots ≤ 8)
    (hf : ∀ n, n < 37 → fitsP 0 (standP (rdS sc 0 (sumAt n)) n) n (rdS sc 0 (dataAt n)) = true) :
    (rdS sc 0 (dataAt (2 + 2 * k)) = zeroSec → ∃ s', logGet sc (freshDev sc 0) slots (k : Int) = (noRec, 7, s')) ∧
    (rdS sc 0 (dataAt (2 + 2 * k)) ≠ zeroSec → ∃ s', logGet sc (freshDev sc 0) slots (k : Int) = (decR (rdS sc 0 (dataAt (2 + 2 * k))) (rdS sc 0 (dataAt (2 + 2 * k + 1))), decEP (rdS sc 0 (dataAt (2 + 2 * k))) (rdS sc 0 (dataAt (2 + 2 * k + 1))), s')) := by
  have hz : (freshDev sc 0).size = 37 := by
    show (blocksI (sc.sectors : Int)).toNat = 37
    rw [hs]
    decide
  have hd : DRun sc (freshDev sc 0) := ⟨hr, by rw [hz, hs]; rfl⟩
  have e1 := run_devRead hd (n := 2 + 2 * k) (by rw [hz]; omega)
  have e2 := run_devRead hd.tick.tick (n := 2 + 2 * k + 1) (by rw [hz]; omega)
  rw [show (freshDev sc 0).disk = 0 from rfl, hf _ (by omega)] at e1
  have hf2 : fitsP 0 (standP (rdS sc.tick.tick 0 (sumAt (2 + 2 * k + 1))) (2 + 2 * k + 1)) (2 + 2 * k + 1) (rdS sc.tick.tick 0 (dataAt (2 + 2 * k + 1))) = true := hf _ (by omega)
  rw [show (freshDev sc 0).disk = 0 from rfl, hf2] at e2
  simp only [if_true] at e1 e2
  have c1 : ((2 + 2 * k : Nat) : Int) = 2 + 2 * (k : Int) := by omega
  have c2 : ((2 + 2 * k + 1 : Nat) : Int) = 2 + 2 * (k : Int) + 1 := by omega
  rw [c1] at e1
  rw [c2] at e2
  have hso : slotOk slots (k : Int) = true := decide_eq_true ⟨by omega, by omega⟩
  constructor
  · intro hzz
    exact ⟨_, by simp only [logGet, hso, if_true, e1, hzz]; rfl⟩
  · intro hzz
    exact ⟨_, by simp only [logGet, hso, if_true, e1, if_neg hzz, e2]; rfl⟩

/-! a record that was put and flushed -/
def Has2 (h p : Bytes) (May : Nat → Bytes → Prop) : Prop := (∀ x, May 6 x → x = h) ∧ ∀ x, May 7 x → x = p
theorem Left.step2 {h p : Bytes} (hL : Left s D (Has2 h p)) (h1 : One s D) {n : Nat} (hn : n < 37) (h6 : n ≠ 6) (h7 : n ≠ 7) {b : Bytes} (hb : b.length = 128) :
    Left (devWrite s D n b).2.1 (devWrite s D n b).2.2 (Has2 h p) ∧ One (devWrite s D n b).2.1 (devWrite s D n b).2.2 ∧ ((devWrite s D n b).1 = 0 ∨ (devWrite s D n b).1 = 3) := by
  rcases hL with ⟨V, May, hl, j6, j7⟩ | ⟨May, hg, hj⟩
  · have v6 := j6 _ (hl.may (n := 6) (by rw [h1.size]; omega))
    have v7 := j7 _ (hl.may (n := 7) (by rw [h1.size]; omega))
    obtain ⟨hr, h2⟩ := hl.write2 (n := n) (by rw [h1.size]; exact hn) hb
    generalize devWrite s D n b = r at *
    rcases h2 with ⟨e, g⟩ | ⟨e, g⟩
    · refine ⟨.inl ⟨_, _, g, fun x hx => ?_, fun x hx => ?_⟩, h1.rest hr g.p.room, .inl e⟩
      · rcases hx with hx | ⟨hx, _⟩
        · rw [hx, v6]
        · exact absurd hx.symm h6
      · rcases hx with hx | ⟨hx, _⟩
        · rw [hx, v7]
        · exact absurd hx.symm h7
    · rcases g with g | g
      · exact ⟨.inr ⟨_, g, j6, j7⟩, h1.rest hr g.p.room, .inr e⟩
      · exact ⟨.inr ⟨_, g, fun x hx => hx.trans v6, fun x hx => hx.trans v7⟩, h1.rest hr g.p.room, .inr e⟩
  · rw [hg.write (by rw [h1.size]; exact hn) hb]
    exact ⟨.inr ⟨May, hg, hj⟩, h1, .inr rfl⟩
/-- .. and other slots are written -/
theorem Left.put2 {h p : Bytes} (hL : Left s D (Has2 h p)) (h1 : One s D) {slot : Int} (hs : slot ≠ 2) (r : Rec) :
    Left (logPut s D 3 slot r).2.1 (logPut s D 3 slot r).2.2 (Has2 h p) ∧ One (logPut s D 3 slot r).2.1 (logPut s D 3 slot r).2.2 := by
  unfold logPut
  by_cases hso : slotOk 3 slot = true
  · obtain ⟨q1, q2⟩ := of_decide_eq_true hso
    obtain ⟨k, rfl⟩ := Int.eq_ofNat_of_zero_le q1
    rw [if_pos hso]
    by_cases hm : mayB r = true
    · rw [if_pos hm]
      have c2 : (2 + 2 * (k : Int) + 1) = ((2 + 2 * k + 1 : Nat) : Int) := by omega
      have c1 : (2 + 2 * (k : Int)) = ((2 + 2 * k : Nat) : Int) := by omega
      rw [c2, c1]
      obtain ⟨a1, a2, a3⟩ := hL.step2 h1 (n := 2 + 2 * k + 1) (by omega) (by omega) (by omega) (may_len hm)
      generalize devWrite s D ((2 + 2 * k + 1 : Nat) : Int) r.part = x at *
      dsimp only
      by_cases h0 : x.1 = 0
      · rw [if_pos h0]
        obtain ⟨b1, b2, _⟩ := a1.step2 a2 (n := 2 + 2 * k) (by omega) (by omega) (by omega) (hdBytes_len r)
        exact ⟨b1, b2⟩
      · rw [if_neg h0]
        exact ⟨a1, a2⟩
    · rw [if_neg hm]
      exact ⟨hL, h1⟩
  · rw [if_neg hso]
    exact ⟨hL, h1⟩
theorem Left.clear2 {h p : Bytes} (hL : Left s D (Has2 h p)) (h1 : One s D) {slot : Int} (hs : slot ≠ 2) :
    Left (logClear s D 3 slot).2.1 (logClear s D 3 slot).2.2 (Has2 h p) ∧ One (logClear s D 3 slot).2.1 (logClear s D 3 slot).2.2 := by
  unfold logClear
  by_cases hso : slotOk 3 slot = true
  · obtain ⟨q1, q2⟩ := of_decide_eq_true hso
    obtain ⟨k, rfl⟩ := Int.eq_ofNat_of_zero_le q1
    rw [if_pos hso]
    have c1 : (2 + 2 * (k : Int)) = ((2 + 2 * k : Nat) : Int) := by omega
    rw [c1]
    obtain ⟨a1, a2, _⟩ := hL.step2 h1 (n := 2 + 2 * k) (by omega) (by omega) (by omega) zeroSec_len'
    exact ⟨a1, a2⟩
  · rw [if_neg hso]
    exact ⟨hL, h1⟩
theorem Lives.sflush (h : Lives s D V May) (ho : s.off = false) : ∃ s', s.flushR D.disk = (0, s') ∧ Lives s' D V (Just V) ∧ Rest s s' D D := by
  rcases pow_flush h.p.pow with ⟨ho2, _⟩ | ⟨_, s', e, hd⟩
  · rw [ho] at ho2; cases ho2
  · have hst : s'.stops = s.stops := by have := flushR_stops s D.disk; rw [e] at this; exact this
    refine ⟨s', e, ⟨hd.dpow h.p rfl rfl (by simp [DiskM.settle]), ?_⟩, hd.rest rfl rfl hst⟩
    rw [hd.disk]
    exact ((h.live.flush h.p.sizes D.opn).1).last fun k _ => rfl
/-- .. is put, first of all -/
theorem sure_start (r : Rec) (hm : mayB r = true) (stop : Int) : (logPut (freshSh 1 40) ⟨0, 37, -1⟩ 3 2 r).1 = 0 ∧ Room 100 (logPut (freshSh 1 40) ⟨0, 37, -1⟩ 3 2 r).2.1 ∧
    ∃ s', (logPut (freshSh 1 40) ⟨0, 37, -1⟩ 3 2 r).2.1.flushR 0 = (0, s') ∧ Left (s'.stop stop) (logPut (freshSh 1 40) ⟨0, 37, -1⟩ 3 2 r).2.2 (Has2 (hdBytes r) r.part) ∧ One (s'.stop stop) (logPut (freshSh 1 40) ⟨0, 37, -1⟩ 3 2 r).2.2 := by
  obtain ⟨o0, l0, t0⟩ := one_fresh
  have hp : logPut (freshSh 1 40) ⟨0, 37, -1⟩ 3 2 r = (if (devWrite (freshSh 1 40) ⟨0, 37, -1⟩ ((7 : Nat) : Int) r.part).1 = 0 then devWrite (devWrite (freshSh 1 40) ⟨0, 37, -1⟩ ((7 : Nat) : Int) r.part).2.1 (devWrite (freshSh 1 40) ⟨0, 37, -1⟩ ((7 : Nat) : Int) r.part).2.2 ((6 : Nat) : Int) (hdBytes r) else devWrite (freshSh 1 40) ⟨0, 37, -1⟩ ((7 : Nat) : Int) r.part) := by
    unfold logPut
    rw [if_pos (show slotOk 3 2 = true by decide), if_pos hm]
    rfl
  rw [hp]
  generalize freshSh 1 40 = s0 at *
  generalize (⟨0, 37, -1⟩ : DevM) = D0 at *
  have w1 := l0.write2 (n := 7) (by rw [o0.size]; omega) (may_len hm)
  obtain ⟨e1, l1⟩ := w1.on t0
  have q1 := w1.1
  clear w1 hp
  generalize devWrite s0 D0 ((7 : Nat) : Int) r.part = x at *
  rw [if_pos e1]
  have o1 := o0.rest q1 l1.p.room
  have w2 := l1.write2 (n := 6) (by rw [o1.size]; omega) (hdBytes_len r)
  obtain ⟨e2, l2⟩ := w2.on (q1.stops.trans t0)
  have q2 := w2.1
  clear w2
  generalize devWrite x.2.1 x.2.2 ((6 : Nat) : Int) (hdBytes r) = y at *
  have o2 := o1.rest q2 l2.p.room
  have hoff : y.2.1.off = false := by
    have := q2.stops.trans (q1.stops.trans t0)
    simp [ShM.off, this]
  obtain ⟨s', e3, l3, q3⟩ := l2.sflush hoff
  rw [o2.disk] at e3
  refine ⟨e2, l2.p.room, s', e3, .inl ⟨_, _, l3.stop stop, fun x hx => ?_, fun x hx => ?_⟩, (o2.rest q3 l3.p.room).stop stop⟩
  · rw [hx]; simp [updV]
  · rw [hx]; simp [updV]
/-- .. and is there -/
theorem sure_end {r : Rec} (hm : mayB r = true) (hL : Left s D (Has2 (hdBytes r) r.part)) (h1 : One s D) (keep : List (List Int)) :
    Run (s.crash keep) 0 ∧ (s.crash keep).sectors = 40 ∧ ∃ s', logGet (s.crash keep) (freshDev (s.crash keep) 0) 3 2 = (r, 0, s') := by
  obtain ⟨r1, r2, _, May, ⟨j6, j7⟩, r4⟩ := hL.crash h1 keep
  have h6 := j6 _ (r4 6 (by omega)).2
  have h7 := j7 _ (r4 7 (by omega)).2
  obtain ⟨s', e⟩ := (good_get (slots := 3) (k := 2) r1 r2 (by omega) (by omega) fun n hn => (r4 n hn).1).2 (by rw [h6]; exact hd_ne_zero r)
  rw [h6, h7] at e
  obtain ⟨_, d2, d3⟩ := dec_hd r hm
  rw [d2, d3] at e
  exact ⟨r1, r2, s', e⟩
end
end Go.Proofs.Ytibpmiapcihkfaa

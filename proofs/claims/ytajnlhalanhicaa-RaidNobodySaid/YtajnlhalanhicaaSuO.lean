/-
  A disk's blocks while the power may go at any write. No program in sight.
-/
import Derived.Test.YtajnlhalanhicaaSuN
import Derived.Test.YtajnlhalanhicaaSuJ
namespace Go.Proofs.Ytajnlhalanhicaa
set_option linter.all false
set_option maxRecDepth 20000
open Go.RowKit

/-- the disk lives -/
structure Pow (s : ShM) (d : Nat) : Prop where
  ok : s.Ok
  disk : d < s.disks.length
  alive : (s.disk d).dead = false
section
variable {s : ShM} {d : Nat} {D : DevM} {V : Nat → Bytes} {May May' : Nat → Bytes → Prop}
theorem spend_eq (s : ShM) : s.spend.disks = s.disks ∧ s.spend.sectors = s.sectors := by
  unfold ShM.spend
  split <;> exact ⟨rfl, rfl⟩
theorem Pow.has (h : Pow s d) {n : Nat} (hn : n < s.sectors) : s.has d n = true := by
  simp only [ShM.has, decide_eq_true_eq]
  have := h.disk
  omega
theorem Pow.why (h : Pow s d) : s.why d = if s.off then 3 else 0 := by simp [ShM.why, h.alive]
theorem Pow.okd (h : Pow s d) : (s.disk d).sure.length = s.sectors ∧ (∀ b ∈ (s.disk d).sure, b.length = 128) ∧ ∀ x ∈ (s.disk d).waits, x.1 < s.sectors ∧ x.2.length = 128 := by
  have hm : s.disk d ∈ s.disks := by rw [← s.disk_eq h.disk]; exact List.getElem_mem _
  exact ⟨h.ok.sure _ hm, h.ok.sec _ hm, h.ok.waits _ hm⟩
theorem Pow.tick (h : Pow s d) : Pow s.tick d := ⟨⟨h.ok.disks1, h.ok.disks17, h.ok.sectors1, h.ok.sectors4096, h.ok.sure, h.ok.sec, h.ok.waits⟩, h.disk, h.alive⟩
theorem Pow.spend (h : Pow s d) : Pow s.spend d := by
  unfold ShM.spend
  split
  · exact ⟨⟨h.ok.disks1, h.ok.disks17, h.ok.sectors1, h.ok.sectors4096, h.ok.sure, h.ok.sec, h.ok.waits⟩, h.disk, h.alive⟩
  · exact h
theorem pow_read (h : Pow s d) {n : Nat} (hn : n < s.sectors) : s.readR d n = if s.off then ([], 3, s) else (rdS s d n, 0, s.tick) := by
  have hh := h.has hn
  have hw := h.why
  simp only [ShM.readR, hh, if_true, Int.toNat_natCast, hw]
  cases s.off <;> simp [rdS]
/-- what a call that did something makes of a shelf -/
structure Did (s s' : ShM) (d : Nat) (k : DiskM) : Prop where
  pow : Pow s' d
  sec : s'.sectors = s.sectors
  len : s'.disks.length = s.disks.length
  disk : s'.disk d = k
  other : ∀ e, e ≠ d → s'.disk e = s.disk e
theorem did_set (h : Pow s d) (k : DiskM) (h1 : k.sure.length = s.sectors) (h2 : ∀ b ∈ k.sure, b.length = 128) (h3 : ∀ x ∈ k.waits, x.1 < s.sectors ∧ x.2.length = 128) (h4 : k.dead = false) : Did s (s.spend.tick.setDisk d k) d k := by
  obtain ⟨q1, q2⟩ := spend_eq s
  have hp := h.spend.tick
  have hl : d < s.spend.tick.disks.length := hp.disk
  have e : (s.spend.tick.setDisk d k).disk d = k := s.spend.tick.disk_set hl _
  have hd : ∀ x, s.spend.tick.disk x = s.disk x := fun x => by simp only [ShM.disk]; show s.spend.disks.getD x noDisk = _; rw [q1]
  have hc : s.spend.tick.sectors = s.sectors := q2
  refine ⟨⟨ok_set hp.ok d k (by rw [hc]; exact h1) h2 (by rw [hc]; exact h3), by rw [s.spend.tick.set_len]; exact hl, by rw [e]; exact h4⟩, q2, ?_, e, fun x hx => (s.spend.tick.disk_set_ne hx _).trans (hd x)⟩
  rw [s.spend.tick.set_len]
  show s.spend.disks.length = _
  rw [q1]
theorem pow_write (h : Pow s d) {n : Nat} (hn : n < s.sectors) {b : Bytes} (hb : b.length = 128) :
    (s.off = true ∧ s.writeR d n b = (3, s)) ∨ (s.off = false ∧ ∃ s', s.writeR d n b = (0, s') ∧ Did s s' d ((s.disk d).write n b)) := by
  have hh := h.has hn
  have hw := h.why
  cases ho : s.off with
  | true => exact .inl ⟨rfl, by simp [ShM.writeR, hh, hb, hw, ho]⟩
  | false =>
    obtain ⟨o1, o2, o3⟩ := h.okd
    refine .inr ⟨rfl, _, by simp only [ShM.writeR, hh, hb, and_self, if_true, Int.toNat_natCast, hw, ho, Bool.false_eq_true, if_false], did_set h _ o1 o2 ?_ h.alive⟩
    intro x hx
    rcases List.mem_append.1 hx with hx | hx
    · exact o3 x hx
    · simp only [List.mem_singleton] at hx
      subst hx
      exact ⟨hn, hb⟩
theorem pow_flush (h : Pow s d) : (s.off = true ∧ s.flushR d = (3, s)) ∨ (s.off = false ∧ ∃ s', s.flushR d = (0, s') ∧ Did s s' d ((s.disk d).settle fun _ => true)) := by
  have hh := h.has (n := 0) (by have := h.ok.sectors1; omega)
  rw [show ((0 : Nat) : Int) = 0 from rfl] at hh
  have hw := h.why
  cases ho : s.off with
  | true => exact .inl ⟨rfl, by simp [ShM.flushR, hh, hw, ho]⟩
  | false =>
    obtain ⟨o1, o2, o3⟩ := h.okd
    refine .inr ⟨rfl, _, by simp only [ShM.flushR, hh, if_true, Int.toNat_natCast, hw, ho, Bool.false_eq_true, if_false], did_set h _ ((settleL_len _ _ _ _).trans o1) ?_ (fun x hx => by cases hx) h.alive⟩
    intro b hb
    rcases settleL_mem _ _ _ _ b hb with hb | ⟨x, hx, rfl⟩
    · exact o2 b hb
    · exact (o3 x hx).2
/-- the blocks' disk lives -/
structure DPow (s : ShM) (D : DevM) : Prop where
  pow : Pow s D.disk
  size : (D.size : Int) = blocksI s.sectors
  room : Room 100 s
theorem DPow.place (h : DPow s D) {n : Nat} (hn : n < D.size) : sumAt n < s.sectors ∧ dataAt n < s.sectors := by
  have hz := h.size
  have h1 := h.pow.ok.sectors1
  unfold blocksI at hz
  rw [if_neg (by omega)] at hz
  unfold sumAt dataAt
  omega
theorem DPow.sizes (h : DPow s D) : SizesL D.size (s.disk D.disk).sure := by
  obtain ⟨o1, o2, _⟩ := h.pow.okd
  refine ⟨fun k hk => by rw [o1]; exact h.place hk, fun k hk => o2 _ ?_⟩
  have := (h.place hk).1
  rw [List.getD_eq_getElem?_getD, List.getElem?_eq_getElem (by omega)]
  exact List.getElem_mem _
/-- all calls did what they ought to -/
structure Lives (s : ShM) (D : DevM) (V : Nat → Bytes) (May : Nat → Bytes → Prop) : Prop where
  p : DPow s D
  live : LiveL D.disk D.size (s.disk D.disk).sure (s.disk D.disk).waits D.opn V May
/-- the power went -/
structure Gone (s : ShM) (D : DevM) (May : Nat → Bytes → Prop) : Prop where
  p : DPow s D
  off : s.off = true
  crash : CrashL D.disk D.size (s.disk D.disk).sure (s.disk D.disk).waits May
theorem Lives.gone (h : Lives s D V May) (ho : s.off = true) (hm : ∀ k x, May k x → May' k x) : Gone s D May' := ⟨h.p, ho, (h.live.crash h.p.sizes).mono hm⟩
theorem Gone.write (h : Gone s D May) {n : Nat} (hn : n < D.size) {b : Bytes} (hb : b.length = 128) : devWrite s D n b = (3, s, D) := by
  have e := pow_read h.p.pow (h.p.place hn).1
  rw [if_pos h.off] at e
  have hsec : devSector s D n = ([], [], 3, s) := by
    have hb : (0 : Int) ≤ (n : Int) ∧ (n : Int) < (D.size : Int) := by omega
    simp only [devSector, hb, and_self, if_true, Int.toNat_natCast, e]
    rfl
  simp only [devWrite, hb, if_true, hsec]
  rfl
theorem Gone.flush (h : Gone s D May) : devFlush s D = (3, s, D) := by
  rcases pow_flush h.p.pow with ⟨_, e⟩ | ⟨e, _⟩
  · simp only [devFlush, e]; rfl
  · rw [h.off] at e; cases e
theorem Did.dpow {s' : ShM} {k : DiskM} {D' : DevM} (hd : Did s s' D.disk k) (h : DPow s D) (e1 : D'.disk = D.disk) (e2 : D'.size = D.size) (hk : k.waits.length ≤ 100) : DPow s' D' :=
  ⟨by rw [e1]; exact hd.pow, by rw [hd.sec, e2]; exact h.size, room_by h.room D.disk (by rw [hd.disk]; exact hk) hd.other⟩
theorem Lives.flush (h : Lives s D V May) : (s.off = true ∧ devFlush s D = (3, s, D)) ∨
    (s.off = false ∧ ∃ s', devFlush s D = (0, s', { D with opn := -1 }) ∧ Lives s' { D with opn := -1 } V May ∧ (s'.disk D.disk).waits = [] ∧ s'.disks.length = s.disks.length ∧ s'.sectors = s.sectors) := by
  rcases pow_flush h.p.pow with ⟨ho, e⟩ | ⟨ho, s', e, hd⟩
  · exact .inl ⟨ho, by simp only [devFlush, e]; rfl⟩
  · refine .inr ⟨ho, s', by simp only [devFlush, e, if_true], ⟨hd.dpow h.p rfl rfl (by simp [DiskM.settle]), ?_⟩, by rw [hd.disk]; rfl, hd.len, hd.sec⟩
    show LiveL D.disk D.size (s'.disk D.disk).sure (s'.disk D.disk).waits (-1) V May
    rw [hd.disk]
    exact (h.live.flush h.p.sizes _).1
theorem Lives.waits_le (h : Lives s D V May) : (s.disk D.disk).waits.length ≤ 1 := by
  rcases h.live.st with ⟨e, _⟩ | ⟨n, b, _, e, _⟩ <;> rw [e] <;> simp
theorem Lives.view (h : Lives s D V May) {n : Nat} (hn : n < D.size) : rdS s D.disk (dataAt n) = V n ∧ rdS s D.disk (sumAt n) = (s.disk D.disk).sure.getD (sumAt n) [] := by
  obtain ⟨h1, _⟩ := place_ne (n := n) (m := n)
  simp only [rdS, DiskM.read]
  rcases h.live.st with ⟨e, hv⟩ | ⟨m, b, hm, e, _, _, _, hb, hv⟩
  · rw [e]
    exact ⟨(hv n hn).symm, rfl⟩
  · rw [e, show [(dataAt m, b)] = [] ++ [(dataAt m, b)] from rfl, lastOf_app, lastOf_app]
    refine ⟨?_, by rw [if_neg (fun e => (place_ne (n := n) (m := m)).1 e.symm)]; rfl⟩
    by_cases hnm : n = m
    · subst hnm
      rw [if_pos rfl]
      exact hb.symm
    · rw [if_neg (fun e => (place_ne (n := n) (m := m)).2 hnm e.symm), hv n hn hnm]
      rfl
theorem Lives.fits (h : Lives s D V May) {n : Nat} (hn : n < D.size) : fitsP D.disk (standP ((s.disk D.disk).sure.getD (sumAt n) []) n) n (V n) = true := by
  rcases h.live.st with ⟨e, hv⟩ | ⟨m, b, hm, e, _, hf, _, hb, hv⟩
  · rw [hv n hn]
    exact (h.live.good n hn).1
  · by_cases hnm : n = m
    · subst hnm
      rw [hb]
      exact hf
    · rw [hv n hn hnm]
      exact (h.live.good n hn).1
theorem Lives.tick (h : Lives s D V May) : Lives s.tick D V May := ⟨⟨h.p.pow.tick, h.p.size, h.p.room⟩, h.live⟩
/-- what a write of a block leaves -/
def Written (s : ShM) (D : DevM) (V : Nat → Bytes) (May' : Nat → Bytes → Prop) (n : Nat) (b : Bytes) (r : Int × ShM × DevM) : Prop :=
  r.2.2.disk = D.disk ∧ r.2.2.size = D.size ∧ r.2.1.disks.length = s.disks.length ∧ r.2.1.sectors = s.sectors ∧ ((r.1 = 0 ∧ Lives r.2.1 r.2.2 (updV V n b) May') ∨ (r.1 = 3 ∧ Gone r.2.1 r.2.2 May'))
theorem Lives.put (h : Lives s D V May) {n : Nat} (hn : n < D.size) (hno : D.opn ≠ n) {b : Bytes} (hb : b.length = 128) (hm : ∀ k x, May k x → May' k x) (hmn : May' n b) :
    Written s D V May' n b (devPut s D n (putSums ((s.disk D.disk).sure.getD (sumAt n) []) n (sumB D.disk n (V n), sumB D.disk n b)) b) := by
  have hpl := stand_put ((s.disk D.disk).sure.getD (sumAt n) []) n (sumB D.disk n (V n), sumB D.disk n b) (h.p.sizes.len n hn) (sumB_lt _ _ _) (sumB_lt _ _ _)
  obtain ⟨hc, hl⟩ := h.live.sums h.p.sizes hn hno b
  generalize hS : putSums ((s.disk D.disk).sure.getD (sumAt n) []) n (sumB D.disk n (V n), sumB D.disk n b) = S at *
  rcases pow_write h.p.pow (h.p.place hn).1 hpl.2 with ⟨ho, e⟩ | ⟨_, s3, e3, d3⟩
  · refine ⟨by simp only [devPut, e]; rfl, by simp only [devPut, e]; rfl, by simp only [devPut, e]; rfl, by simp only [devPut, e]; rfl, .inr ?_⟩
    simp only [devPut, e]
    exact ⟨rfl, h.gone ho hm⟩
  have hw1 := h.waits_le
  have p3 : DPow s3 D := d3.dpow h.p rfl rfl (by simp only [DiskM.write, List.length_append, List.length_singleton]; omega)
  rcases pow_flush d3.pow with ⟨ho, e⟩ | ⟨_, s4, e4, d4⟩
  · have e' : devPut s D n S b = (3, s3, D) := by simp only [devPut, e3, if_true, devFlush, e]; rfl
    rw [e']
    refine ⟨rfl, rfl, d3.len, d3.sec, .inr ⟨rfl, p3, ho, ?_⟩⟩
    show CrashL D.disk D.size (s3.disk D.disk).sure (s3.disk D.disk).waits May'
    rw [d3.disk]
    exact hc.mono hm
  obtain ⟨l4, z4, f4⟩ := hl (-1)
  have p4 : DPow s4 { D with opn := -1 } := d4.dpow p3 rfl rfl (by simp [DiskM.settle])
  have L4 : Lives s4 { D with opn := -1 } V May := ⟨p4, by
    show LiveL D.disk D.size (s4.disk D.disk).sure (s4.disk D.disk).waits (-1) V May
    rw [d4.disk, d3.disk]
    exact l4⟩
  have hw4 : (s4.disk D.disk).waits = [] := by rw [d4.disk]; rfl
  rcases pow_write p4.pow (p4.place hn).2 hb with ⟨ho, e⟩ | ⟨_, s5, e5, d5⟩
  · have e' : devPut s D n S b = (3, s4, { D with opn := -1 }) := by simp only [devPut, e3, if_true, devFlush, e4]; rw [e]; rfl
    rw [e']
    exact ⟨rfl, rfl, d4.len.trans d3.len, d4.sec.trans d3.sec, .inr ⟨rfl, L4.gone ho hm⟩⟩
  · have e' : devPut s D n S b = (0, s5, { D with opn := (n : Int) }) := by simp only [devPut, e3, if_true, devFlush, e4]; rw [e5]; rfl
    rw [e']
    refine ⟨rfl, rfl, d5.len.trans (d4.len.trans d3.len), d5.sec.trans (d4.sec.trans d3.sec), .inl ⟨rfl, d5.dpow p4 rfl rfl (by show ((s4.disk D.disk).waits ++ [(dataAt n, b)]).length ≤ 100; rw [hw4]; simp), ?_⟩⟩
    show LiveL D.disk D.size (s5.disk D.disk).sure (s5.disk D.disk).waits n (updV V n b) May'
    have e5' : s5.disk D.disk = (s4.disk D.disk).write (dataAt n) b := d5.disk
    rw [e5']
    show LiveL D.disk D.size (s4.disk D.disk).sure ((s4.disk D.disk).waits ++ [(dataAt n, b)]) n (updV V n b) May'
    rw [hw4]
    have l4' : LiveL D.disk D.size (s4.disk D.disk).sure [] (-1) V May' := by
      rw [d4.disk, d3.disk]
      exact l4.mono hm
    refine l4'.wait hn ?_ hmn
    rw [d4.disk, d3.disk]
    exact f4
theorem Lives.write (h : Lives s D V May) {n : Nat} (hn : n < D.size) {b : Bytes} (hb : b.length = 128) (hm : ∀ k x, May k x → May' k x) (hmn : May' n b) : Written s D V May' n b (devWrite s D n b) := by
  cases ho : s.off with
  | true =>
    have g := h.gone ho hm
    rw [g.write hn hb]
    exact ⟨rfl, rfl, rfl, rfl, .inr ⟨rfl, g⟩⟩
  | false =>
    obtain ⟨v1, v2⟩ := h.view hn
    have hsec : devSector s D n = ((s.disk D.disk).sure.getD (sumAt n) [], V n, 0, s.tick.tick) := by
      have e1 := pow_read h.p.pow (h.p.place hn).1
      have e2 := pow_read h.p.pow.tick (n := dataAt n) (h.p.place hn).2
      have ho2 : s.tick.off = false := ho
      rw [ho, if_neg Bool.false_ne_true] at e1
      rw [ho2, if_neg Bool.false_ne_true] at e2
      have hbd : (0 : Int) ≤ (n : Int) ∧ (n : Int) < (D.size : Int) := by omega
      rw [sec_ok (s := s) (D := D) (n := n) hbd (by rw [Int.toNat_natCast, e1]), Int.toNat_natCast, e1]
      dsimp only
      rw [e2, v2]
      show (_, rdS s D.disk (dataAt n), _, _) = _
      rw [v1]
    have h2 := h.tick.tick
    have hf := h.fits hn
    have main : ∀ (s1 : ShM) (D1 : DevM), Lives s1 D1 V May → D1.disk = D.disk → D1.size = D.size → D1.opn ≠ n → s1.disks.length = s.disks.length → s1.sectors = s.sectors → (s1.disk D.disk).sure.getD (sumAt n) [] = (s.disk D.disk).sure.getD (sumAt n) [] →
        devOpen s.tick.tick D n = (0, s1, D1) → Written s D V May' n b (devWrite s D n b) := by
      intro s1 D1 h1 e1 e2 e3 e4 e5 e6 e7
      have hfst : devFirst s1 D1 n ((s.disk D.disk).sure.getD (sumAt n) []) (V n) b = (0, s1, D1) := by simp only [devFirst, e1, hf, if_true]
      have hnx : nextP D n (standP ((s.disk D.disk).sure.getD (sumAt n) []) n) (V n) b = (sumB D.disk n (V n), sumB D.disk n b) := by simp only [nextP, hf, if_true]
      have e : devWrite s D n b = devPut s1 D1 n (putSums ((s1.disk D1.disk).sure.getD (sumAt n) []) n (sumB D1.disk n (V n), sumB D1.disk n b)) b := by
        simp only [devWrite, hb, hsec, if_true, e7, Int.toNat_natCast, hfst, hnx, e1, e6]
      rw [e]
      obtain ⟨r1, r2, r3, r4, r5⟩ := h1.put (by rw [e2]; exact hn) e3 hb hm hmn
      exact ⟨r1.trans e1, r2.trans e2, r3.trans e4, r4.trans e5, r5⟩
    by_cases hop : D.opn = n
    · rcases h2.flush with ⟨ho2, _⟩ | ⟨_, s1, e1, L1, w1, l1, c1⟩
      · have : s.off = true := ho2
        rw [ho] at this; cases this
      · refine main s1 _ L1 rfl rfl (by show (-1 : Int) ≠ n; omega) l1 c1 ?_ (by simp only [devOpen, hop, if_true]; exact e1)
        rcases pow_flush h2.p.pow with ⟨ho2, _⟩ | ⟨_, sx, ex, dx⟩
        · have : s.off = true := ho2
          rw [ho] at this; cases this
        · simp only [devFlush, ex, if_true] at e1
          injection e1 with _ e1
          injection e1 with e1 _
          subst e1
          rw [dx.disk]
          rcases h.live.st with ⟨e, _⟩ | ⟨m, bm, hmm, e, _⟩
          · show (settleL _ 0 (s.disk D.disk).waits (s.disk D.disk).sure).getD _ [] = _
            rw [e]; rfl
          · show (settleL _ 0 (s.disk D.disk).waits (s.disk D.disk).sure).getD _ [] = _
            rw [e]
            show ((s.disk D.disk).sure.set (dataAt m) bm).getD (sumAt n) [] = _
            rw [getD_set _ _ _ _ (h.p.sizes.lt m hmm).2, if_neg (fun e => (place_ne (n := n) (m := m)).1 e.symm)]
    · exact main s.tick.tick D h2 rfl rfl hop rfl rfl rfl (by simp only [devOpen, hop, if_false])
theorem crash_ok (h : s.Ok) (keep : List (List Int)) : (s.crash keep).Ok := by
  have hl : (s.crash keep).disks.length = s.disks.length := by simp [ShM.crash]
  refine ⟨by rw [hl]; exact h.disks1, by rw [hl]; exact h.disks17, h.sectors1, h.sectors4096, ?_, ?_, ?_⟩
  all_goals
    intro k hk
    simp only [ShM.crash, List.mem_mapIdx] at hk
    obtain ⟨i, hi, rfl⟩ := hk
    have hm : s.disks[i] ∈ s.disks := List.getElem_mem hi
  · exact (settleL_len _ _ _ _).trans (h.sure _ hm)
  · intro b hb
    rcases settleL_mem _ _ _ _ b hb with hb | ⟨x, hx, rfl⟩
    · exact h.sec _ hm b hb
    · exact (h.waits _ hm x hx).2
  · intro x hx
    cases hx
/-- .. behind a crash -/
theorem crash_good (hp : DPow s D) (hc : CrashL D.disk D.size (s.disk D.disk).sure (s.disk D.disk).waits May) (keep : List (List Int)) :
    Run (s.crash keep) D.disk ∧ (s.crash keep).sectors = s.sectors ∧ (s.crash keep).disks.length = s.disks.length ∧
    ∀ n, n < D.size → fitsP D.disk (standP (rdS (s.crash keep) D.disk (sumAt n)) n) n (rdS (s.crash keep) D.disk (dataAt n)) = true ∧ May n (rdS (s.crash keep) D.disk (dataAt n)) := by
  have hl : (s.crash keep).disks.length = s.disks.length := by simp [ShM.crash]
  have e : (s.crash keep).disk D.disk = (s.disk D.disk).settle (keepsOf keep D.disk) := crash_disk s keep hp.pow.disk
  refine ⟨⟨crash_ok hp.pow.ok keep, rfl, by rw [hl]; exact hp.pow.disk, by rw [e]; exact hp.pow.alive⟩, rfl, hl, fun n hn => ?_⟩
  simp only [rdS, DiskM.read, e]
  exact hc (keepsOf keep D.disk) n hn
end
end Go.Proofs.Ytajnlhalanhicaa

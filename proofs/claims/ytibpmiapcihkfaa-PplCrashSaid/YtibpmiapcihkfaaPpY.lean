/-
  Any record of a slot, while the power may go. No program in sight.
-/
import Derived.Test.YtibpmiapcihkfaaPpZ
namespace Go.Proofs.Ytibpmiapcihkfaa
set_option linter.all false
open Go.RowKit

section
variable {s s' : ShM} {D D' : DevM} {V : Nat → Bytes} {May : Nat → Bytes → Prop}
/-! any record of slot 1 -/
def Pair1 (rs : List Rec) (x4 x5 : Bytes) : Prop := x4 = zeroSec ∨ ((∃ r, r ∈ rs ∧ mayB r = true ∧ x4 = hdBytes r) ∧ ∃ r, r ∈ rs ∧ mayB r = true ∧ x5 = r.part)
def Pairs (rs : List Rec) (May : Nat → Bytes → Prop) : Prop := ∀ x4 x5, May 4 x4 → May 5 x5 → Pair1 rs x4 x5
theorem Pair1.more {rs rs' : List Rec} (hs : ∀ r, r ∈ rs → r ∈ rs') {x4 x5 : Bytes} (h : Pair1 rs x4 x5) : Pair1 rs' x4 x5 := by
  rcases h with h | ⟨⟨r, h1, h2, h3⟩, r', h4, h5, h6⟩
  · exact .inl h
  · exact .inr ⟨⟨r, hs r h1, h2, h3⟩, r', hs r' h4, h5, h6⟩
theorem Left.morep {rs rs' : List Rec} (hs : ∀ r, r ∈ rs → r ∈ rs') (h : Left s D (Pairs rs)) : Left s D (Pairs rs') := by
  rcases h with ⟨V, May, hl, hj⟩ | ⟨May, hg, hj⟩
  · exact .inl ⟨V, May, hl, fun x4 x5 h4 h5 => (hj x4 x5 h4 h5).more hs⟩
  · exact .inr ⟨May, hg, fun x4 x5 h4 h5 => (hj x4 x5 h4 h5).more hs⟩
/-- another block is written -/
theorem Left.stepo {rs : List Rec} (hL : Left s D (Pairs rs)) (h1 : One s D) {n : Nat} (hn : n < 37) (h4 : n ≠ 4) (h5 : n ≠ 5) {b : Bytes} (hb : b.length = 128) :
    Left (devWrite s D n b).2.1 (devWrite s D n b).2.2 (Pairs rs) ∧ One (devWrite s D n b).2.1 (devWrite s D n b).2.2 := by
  rcases hL with ⟨V, May, hl, hj⟩ | ⟨May, hg, hj⟩
  · have hv := hj _ _ (hl.may (n := 4) (by rw [h1.size]; omega)) (hl.may (n := 5) (by rw [h1.size]; omega))
    obtain ⟨hr, h2⟩ := hl.write2 (n := n) (by rw [h1.size]; exact hn) hb
    generalize devWrite s D n b = r at *
    rcases h2 with ⟨e, g⟩ | ⟨e, g⟩
    · refine ⟨.inl ⟨_, _, g, fun x4 x5 k4 k5 => ?_⟩, h1.rest hr g.p.room⟩
      have e4 : x4 = V 4 := k4.elim id fun ⟨e, _⟩ => absurd e.symm h4
      have e5 : x5 = V 5 := k5.elim id fun ⟨e, _⟩ => absurd e.symm h5
      rw [e4, e5]
      exact hv
    · rcases g with g | g
      · exact ⟨.inr ⟨_, g, hj⟩, h1.rest hr g.p.room⟩
      · exact ⟨.inr ⟨_, g, fun x4 x5 k4 k5 => by rw [show x4 = V 4 from k4, show x5 = V 5 from k5]; exact hv⟩, h1.rest hr g.p.room⟩
  · rw [hg.write (by rw [h1.size]; exact hn) hb]
    exact ⟨.inr ⟨May, hg, hj⟩, h1⟩
/-- the part is written -/
theorem Left.step5 {rs : List Rec} (hL : Left s D (Pairs rs)) (h1 : One s D) {r : Rec} (hm : mayB r = true) (hr : r ∈ rs) :
    One (devWrite s D (5 : Nat) r.part).2.1 (devWrite s D (5 : Nat) r.part).2.2 ∧ Left (devWrite s D (5 : Nat) r.part).2.1 (devWrite s D (5 : Nat) r.part).2.2 (Pairs rs) ∧
    ((devWrite s D (5 : Nat) r.part).1 = 0 → ∃ V May, Lives (devWrite s D (5 : Nat) r.part).2.1 (devWrite s D (5 : Nat) r.part).2.2 V May ∧ Pairs rs May ∧ V 5 = r.part) := by
  rcases hL with ⟨V, May, hl, hj⟩ | ⟨May, hg, hj⟩
  · have hv := hj _ _ (hl.may (n := 4) (by rw [h1.size]; omega)) (hl.may (n := 5) (by rw [h1.size]; omega))
    obtain ⟨hq, h2⟩ := hl.write2 (n := 5) (by rw [h1.size]; omega) (may_len hm)
    generalize devWrite s D (5 : Nat) r.part = x at *
    rcases h2 with ⟨e, g⟩ | ⟨e, g⟩
    · have hp : Pairs rs (Just1 V 5 r.part) := fun x4 x5 k4 k5 => by
        have e4 : x4 = V 4 := k4.elim id fun ⟨e, _⟩ => absurd e (by omega)
        rw [e4]
        rcases hv with hv | ⟨hv, hv2⟩
        · exact .inl hv
        · refine .inr ⟨hv, ?_⟩
          rcases k5 with e5 | ⟨_, e5⟩
          · rw [e5]; exact hv2
          · rw [e5]; exact ⟨r, hr, hm, rfl⟩
      exact ⟨h1.rest hq g.p.room, .inl ⟨_, _, g, hp⟩, fun _ => ⟨_, _, g, hp, by simp [updV]⟩⟩
    · refine ⟨?_, ?_, fun h0 => by rw [e] at h0; cases h0⟩
      · rcases g with g | g <;> exact h1.rest hq g.p.room
      · rcases g with g | g
        · exact .inr ⟨_, g, hj⟩
        · exact .inr ⟨_, g, fun x4 x5 k4 k5 => by rw [show x4 = V 4 from k4, show x5 = V 5 from k5]; exact hv⟩
  · rw [hg.write (by rw [h1.size]; omega) (may_len hm)]
    exact ⟨h1, .inr ⟨May, hg, hj⟩, fun h0 => by cases h0⟩
/-- .. and then the head, or none -/
theorem Lives.step4 {rs : List Rec} (hl : Lives s D V May) (hj : Pairs rs May) (h1 : One s D) {b : Bytes} (hb : b.length = 128) (hp : Pair1 rs b (V 5)) :
    One (devWrite s D (4 : Nat) b).2.1 (devWrite s D (4 : Nat) b).2.2 ∧ Left (devWrite s D (4 : Nat) b).2.1 (devWrite s D (4 : Nat) b).2.2 (Pairs rs) := by
  have hv := hj _ _ (hl.may (n := 4) (by rw [h1.size]; omega)) (hl.may (n := 5) (by rw [h1.size]; omega))
  obtain ⟨hq, h2⟩ := hl.write2 (n := 4) (by rw [h1.size]; omega) hb
  generalize devWrite s D (4 : Nat) b = x at *
  rcases h2 with ⟨e, g⟩ | ⟨e, g⟩
  · refine ⟨h1.rest hq g.p.room, .inl ⟨_, _, g, fun x4 x5 k4 k5 => ?_⟩⟩
    have e5 : x5 = V 5 := k5.elim id fun ⟨e, _⟩ => absurd e (by omega)
    rw [e5]
    rcases k4 with e4 | ⟨_, e4⟩
    · rw [e4]; exact hv
    · rw [e4]; exact hp
  · rcases g with g | g
    · exact ⟨h1.rest hq g.p.room, .inr ⟨_, g, hj⟩⟩
    · exact ⟨h1.rest hq g.p.room, .inr ⟨_, g, fun x4 x5 k4 k5 => by rw [show x4 = V 4 from k4, show x5 = V 5 from k5]; exact hv⟩⟩
theorem Left.put1 {rs : List Rec} (hL : Left s D (Pairs rs)) (h1 : One s D) (slot : Int) (r : Rec) (hr : slot = 1 → r ∈ rs) :
    Left (logPut s D 2 slot r).2.1 (logPut s D 2 slot r).2.2 (Pairs rs) ∧ One (logPut s D 2 slot r).2.1 (logPut s D 2 slot r).2.2 := by
  unfold logPut
  by_cases hso : slotOk 2 slot = true
  · obtain ⟨q1, q2⟩ := of_decide_eq_true hso
    obtain ⟨k, rfl⟩ := Int.eq_ofNat_of_zero_le q1
    rw [if_pos hso]
    by_cases hm : mayB r = true
    · rw [if_pos hm]
      have hk : k = 0 ∨ k = 1 := by omega
      rcases hk with rfl | rfl
      · obtain ⟨a1, a2⟩ := hL.stepo h1 (n := 3) (by omega) (by omega) (by omega) (may_len hm)
        rw [show (2 + 2 * ((0 : Nat) : Int) + 1) = ((3 : Nat) : Int) from rfl, show (2 + 2 * ((0 : Nat) : Int)) = ((2 : Nat) : Int) from rfl]
        generalize devWrite s D ((3 : Nat) : Int) r.part = x at *
        dsimp only
        split
        · exact a1.stepo a2 (n := 2) (by omega) (by omega) (by omega) (hdBytes_len r)
        · exact ⟨a1, a2⟩
      · obtain ⟨a1, a2, a3⟩ := hL.step5 h1 hm (hr rfl)
        rw [show (2 + 2 * ((1 : Nat) : Int) + 1) = ((5 : Nat) : Int) from rfl, show (2 + 2 * ((1 : Nat) : Int)) = ((4 : Nat) : Int) from rfl]
        generalize devWrite s D ((5 : Nat) : Int) r.part = x at *
        dsimp only
        split
        · rename_i h0
          obtain ⟨V, May, hl, hj, hv⟩ := a3 h0
          obtain ⟨b1, b2⟩ := hl.step4 hj a1 (hdBytes_len r) (.inr ⟨⟨r, hr rfl, hm, rfl⟩, r, hr rfl, hm, hv⟩)
          exact ⟨b2, b1⟩
        · exact ⟨a2, a1⟩
    · rw [if_neg hm]
      exact ⟨hL, h1⟩
  · rw [if_neg hso]
    exact ⟨hL, h1⟩
theorem Left.clear1 {rs : List Rec} (hL : Left s D (Pairs rs)) (h1 : One s D) (slot : Int) :
    Left (logClear s D 2 slot).2.1 (logClear s D 2 slot).2.2 (Pairs rs) ∧ One (logClear s D 2 slot).2.1 (logClear s D 2 slot).2.2 := by
  unfold logClear
  by_cases hso : slotOk 2 slot = true
  · obtain ⟨q1, q2⟩ := of_decide_eq_true hso
    obtain ⟨k, rfl⟩ := Int.eq_ofNat_of_zero_le q1
    rw [if_pos hso]
    have hk : k = 0 ∨ k = 1 := by omega
    rcases hk with rfl | rfl
    · rw [show (2 + 2 * ((0 : Nat) : Int)) = ((2 : Nat) : Int) from rfl]
      exact hL.stepo h1 (n := 2) (by omega) (by omega) (by omega) zeroSec_len'
    · rw [show (2 + 2 * ((1 : Nat) : Int)) = ((4 : Nat) : Int) from rfl]
      rcases hL with ⟨V, May, hl, hj⟩ | ⟨May, hg, hj⟩
      · obtain ⟨b1, b2⟩ := hl.step4 hj h1 zeroSec_len' (.inl rfl)
        exact ⟨b2, b1⟩
      · rw [hg.write (by rw [h1.size]; omega) zeroSec_len']
        exact ⟨.inr ⟨May, hg, hj⟩, h1⟩
  · rw [if_neg hso]
    exact ⟨hL, h1⟩
theorem crash1_start (stop : Int) : Left ((freshSh 1 40).stop stop) ⟨0, 37, -1⟩ (Pairs []) ∧ One ((freshSh 1 40).stop stop) ⟨0, 37, -1⟩ := by
  obtain ⟨o0, l0, _⟩ := one_fresh
  exact ⟨.inl ⟨_, _, l0.stop stop, fun x4 _ h4 _ => .inl h4⟩, o0.stop stop⟩
theorem crash1_end {rs : List Rec} (hL : Left s D (Pairs rs)) (h1 : One s D) (keep : List (List Int)) :
    Run (s.crash keep) 0 ∧ (s.crash keep).sectors = 40 ∧ ∃ r e s', logGet (s.crash keep) (freshDev (s.crash keep) 0) 2 1 = (r, e, s') ∧ (e = 7 ∨ e = 8 ∨ (e = 0 ∧ (∃ q, q ∈ rs ∧ q.stripe = r.stripe ∧ q.place = r.place ∧ crc 0 q.part = crc 0 r.part) ∧ ∃ q, q ∈ rs ∧ q.part = r.part)) ∧ (e ≠ 0 → r = noRec) ∧ r.part.length ≤ 128 := by
  obtain ⟨r1, r2, _, May, hj, r4⟩ := hL.crash h1 keep
  have h4 := (r4 4 (by omega)).2
  have h5 := (r4 5 (by omega)).2
  obtain ⟨g1, g2⟩ := good_get (slots := 2) (k := 1) r1 r2 (by omega) (by omega) fun n hn => (r4 n hn).1
  refine ⟨r1, r2, ?_⟩
  by_cases hz : rdS (s.crash keep) 0 (dataAt 4) = zeroSec
  · obtain ⟨s', e⟩ := g1 hz
    exact ⟨_, _, s', e, .inl rfl, fun _ => rfl, by simp [noRec]⟩
  · obtain ⟨s', e⟩ := g2 hz
    refine ⟨_, _, s', e, ?_, ?_, ?_⟩
    all_goals rw [show dataAt (2 + 2 * 1) = dataAt 4 from rfl, show dataAt (2 + 2 * 1 + 1) = dataAt 5 from rfl] at *
    · cases hk : decOKP (rdS (s.crash keep) 0 (dataAt 4)) (rdS (s.crash keep) 0 (dataAt 5)) with
      | false => exact .inr (.inl (decEP_bad hk))
      | true =>
        refine .inr (.inr ⟨decEP_ok hk, ?_⟩)
        rw [decR_ok hk]
        rcases hj _ _ h4 h5 with hx | ⟨⟨q, q1, q2, q3⟩, q', q4, q5, q6⟩
        · exact absurd hx hz
        · refine ⟨⟨q, q1, ?_⟩, q', q4, q6.symm⟩
          rw [q3] at hk ⊢
          have hq := recP_hd q (of_decide_eq_true q2)
          unfold decOKP at hk
          simp only [Bool.and_eq_true, beq_iff_eq] at hk
          obtain ⟨ys, e1⟩ := hd_split q
          have hstr : (recP (hdBytes q) (rdS (s.crash keep) 0 (dataAt 5))).stripe = q.stripe := by
            have := congrArg Rec.stripe hq
            exact this
          have hpl : (recP (hdBytes q) (rdS (s.crash keep) 0 (dataAt 5))).place = q.place := by
            have := congrArg Rec.place hq
            exact this
          refine ⟨hstr.symm, hpl.symm, ?_⟩
          have he := hk.2
          have hpp : (recP (hdBytes q) (rdS (s.crash keep) 0 (dataAt 5))).part = rdS (s.crash keep) 0 (dataAt 5) := rfl
          generalize recP (hdBytes q) (rdS (s.crash keep) 0 (dataAt 5)) = p at *
          obtain ⟨zs, e2⟩ := hd_split p
          rw [he, e1] at e2
          have h := congrArg (fun l => (l.drop 12).take 4) e2
          have k1 := fun a b c ys => drop_take_mid (magicP ++ (leBytes a 4 ++ leBytes b 4)) (leBytes c 4) ys
          simp only [List.append_assoc, List.length_append, leBytes_len, show magicP.length + (4 + 4) = 12 from rfl] at k1
          simp only [k1] at h
          exact leBytes_inj (n := 4) (by have := crc_lt 0 q.part; omega) (by have := crc_lt 0 p.part; omega) h
    · intro h0
      cases hk : decOKP (rdS (s.crash keep) 0 (dataAt 4)) (rdS (s.crash keep) 0 (dataAt 5)) with
      | false => exact decR_bad hk
      | true => exact absurd (decEP_ok hk) h0
    · cases hk : decOKP (rdS (s.crash keep) 0 (dataAt 4)) (rdS (s.crash keep) 0 (dataAt 5)) with
      | false => rw [decR_bad hk]; simp [noRec]
      | true =>
        rw [decR_ok hk]
        unfold decOKP at hk
        simp only [Bool.and_eq_true] at hk
        rw [may_len hk.1]
        exact Nat.le_refl _
end
end Go.Proofs.Ytibpmiapcihkfaa

/-
  THE WALK over the sums' Read.
-/
import Derived.Test.YtikfbhepnnbdoaaSuD
namespace Go.Proofs.Ytikfbhepnnbdoaa
set_option linter.all false
open Go.RowKit

theorem ok_read {s : ShM} (h : s.Ok) (d n : Int) : (s.readR d n).2.2.Ok := by
  simp only [ShM.readR]
  split
  · split
    · exact ⟨h.disks1, h.disks17, h.sectors1, h.sectors4096, h.sure, h.sec, h.waits⟩
    · exact h
  · exact h
theorem readR_128 {s : ShM} (hok : s.Ok) {d n : Int} (he : (s.readR d n).2.1 = 0) : (s.readR d n).1.length = 128 := by
  by_cases hh : s.has d n = true
  · obtain ⟨⟨h1, h2⟩, h3, h4⟩ := has_of hh
    by_cases hw : s.why d.toNat = 0
    · have e : s.readR d n = ((s.disk d.toNat).read n.toNat, 0, s.tick) := by simp [ShM.readR, hh, hw]
      rw [e]
      exact read_len hok (by omega) (by omega)
    · simp [ShM.readR, hh, hw] at he
  · simp [ShM.readR, hh] at he
theorem sec_len {s : ShM} (hok : s.Ok) {D : DevM} {n : Int} (he : (devSector s D n).2.2.1 = 0) : (devSector s D n).1.length = 128 ∧ (devSector s D n).2.1.length = 128 ∧ 0 ≤ n ∧ n < D.size := by
  by_cases hb : 0 ≤ n ∧ n < D.size
  · by_cases h1 : (s.readR D.disk (sumAt n.toNat)).2.1 = 0
    · rw [sec_ok hb h1] at he ⊢
      exact ⟨readR_128 hok h1, readR_128 (ok_read hok _ _) he, hb.1, hb.2⟩
    · rw [sec_err hb h1] at he
      exact absurd he h1
  · rw [sec_bad hb] at he
    have he' : (1 : Int) = 0 := he
    omega
/-- what a call of 'Read' leaves -/
def RdPost (X : Nat → Prop) (a g : Nat) (w : World) (D : DevM) (r : Bytes × Int × ShM) (e : Ending) (w' : World) : Prop :=
  ∃ v, e = .returned (.tuple #[v, .int .i64 r.2.1]) ∧ Fresh w w' v r.1 ∧ DvX (fun b => X b ∨ v.ownBlock = some b) a g w' r.2.2 D ∧ Kept X w w'
theorem Fresh.below {w0 w w' : World} {v : Value} {bs : Bytes} (h : Fresh w0 w v bs) (hb : Below w.heap.size w w') : Fresh w0 w' v bs := by
  obtain ⟨A, c, rfl, hA⟩ := h
  rcases hA with ⟨rfl, hn⟩ | ⟨x, rfl, hx, hr⟩
  · exact ⟨none, c, rfl, .inl ⟨rfl, hn⟩⟩
  · exact ⟨_, c, rfl, .inr ⟨x, rfl, hx, hr.of_block (hb.block x hr.lt)⟩⟩
section
variable {X : Nat → Prop} {a g : Nat} {w w' : World} {s s' : ShM} {D : DevM}
theorem su_read_nil (w : World) (n : Int) : Calls Try.prog 26 #[.pointer none, .int .i64 n] w fun e w' => e = .returned (.tuple #[.slice none 0 0, .int .i64 2]) ∧ w = w' := by
  go_enter Try.func26, Try.ntmps26
  go_wp2
  go_ret2
  exact ⟨rfl, rfl⟩
set_option maxRecDepth 10000 in
set_option maxHeartbeats 2000000 in
theorem su_read (h : DvX X a g w s D) (hroom : Room 1000000000000 s) (n : Int) (hn0 : -9223372036854775808 ≤ n) (hn1 : n ≤ 9223372036854775807) :
    Calls Try.prog 26 #[.pointer (some ⟨a, 0, none⟩), .int .i64 n] w (RdPost X a g w D (devRead s D n)) := by
  have hct := su_sector h hroom n hn0 hn1
  have hln := Lib.hid fun he => sec_len (s := s) (D := D) (n := n) h.sh.ok he
  have hlt := h.lt
  have hsz := h.size
  have hrd : Hid (devRead s D n = _) := Lib.hid (show devRead s D n = let r := devSector s D n; if r.2.2.1 = 0 then (if fitsP D.disk (standP r.1 n.toNat) n.toNat r.2.1 then (r.2.1, 0, r.2.2.2) else ([], 5, r.2.2.2)) else ([], r.2.2.1, r.2.2.2) from rfl)
  generalize hr : devSector s D n = r at *
  replace hr := Lib.hid hr
  obtain ⟨x1, x2, er, s1⟩ := r
  dsimp only at hln hrd hct
  go_enter Try.func26, Try.ntmps26
  go_wp2_with fail
  refine hct.mono ?_
  rintro e w1 ⟨v1, v2, rfl, hf1, hf2, hne, h1, hK1⟩
  dsimp only at hf1 hf2 h1
  replace hlt := Lib.hid hlt
  by_cases he : er = 0
  · obtain ⟨l1, l2, n0, n1⟩ := hln.out he
    have hz := hrd.out
    rw [if_pos he] at hz
    obtain ⟨k, rfl⟩ := Int.eq_ofNat_of_zero_le n0
    rw [Int.toNat_natCast] at hz
    obtain ⟨A1, c1, rfl, hr1, _, _⟩ := hf1.form2 (by omega)
    obtain ⟨A2, c2, rfl, hr2, _, hn2⟩ := hf2.form2 (by omega)
    rw [l1] at hf1 hne h1 ⊢
    rw [l2] at hf2 hne h1 hn2 ⊢
    have hst := su_stand A1 c1 x1 k w1 hr1 l1 (by omega)
    have hfi : Hid (∀ W, Below w1.heap.size w1 W → _) := Lib.hid fun W hW => su_fits a g D (standP x1 k) k A2 128 c2 x2 W ((hW.block a h1.alt).trans h1.row) (hr2.below hW) l2
    have heb : (er != 0) = false := by simp [he]
    subst he
    replace hrd := hz
    generalize hft : fitsP D.disk (standP x1 k) k x2 = ft at *
    unfold pairAgg at hst hfi
    generalize (standP x1 k).1 = p1 at *
    generalize (standP x1 k).2 = p2 at *
    have hfin : Hid (∀ W, Below w1.heap.size w1 W → RdPost X a g w D (devRead s D k) (.returned (.tuple #[if ft then .slice A2 128 c2 else .slice none 0 0, .int .i64 (if ft then 0 else 5)])) W) := Lib.hid fun W hW => by
      rw [hrd]
      have hKW : Kept X w W := hK1.trans ((Kept.of_below hW h1.lt).mono fun b hb => .inl hb)
      cases ft
      · refine ⟨_, rfl, Fresh.nil _ _, (h1.below hW).mono fun b hb => ?_, hKW⟩
        rcases hb with hb | hb
        · exact .inl hb
        · cases hb
      · refine ⟨_, rfl, hf2.below hW, (h1.below hW).mono fun b hb => ?_, hKW⟩
        rcases hb with hb | hb
        · exact .inl hb
        · exact .inr (.inr hb)
    replace hrd := Lib.hid hrd
    replace hft := Lib.hid hft
    replace l1 := Lib.hid l1
    replace l2 := Lib.hid l2
    clear hct hz hf1 hf2 hr1 hr2 hn2 hne hln
    go_wp2_with fail
    refine hst.mono ?_
    rintro e w2 ⟨rfl, hb2⟩
    clear hst
    go_wp2_with fail
    refine (hfi.out w2 hb2).mono ?_
    rintro e w3 ⟨rfl, hb3⟩
    have hq := hfin.out w3 (below_to hb2 hb3)
    clear hfi hfin
    cases ft
    · replace hq := Lib.hid hq
      go_wp2
      go_ret2
      exact hq.out
    · replace hq := Lib.hid hq
      go_wp2
      go_ret2
      exact hq.out
  · have heb : (er != 0) = true := by simp [he]
    have hz := hrd.out
    rw [if_neg he] at hz
    have hq : RdPost X a g w D (devRead s D n) (.returned (.tuple #[.slice none 0 0, .int .i64 er])) w1 := by
      rw [hz]
      refine ⟨_, rfl, Fresh.nil _ _, h1.mono fun b hb => ?_, hK1⟩
      rcases hb with hb | hb
      · exact .inl hb
      · cases hb
    replace hq := Lib.hid hq
    replace he := Lib.hid he
    clear hct hz hf1 hf2 hne hln
    go_wp2
    go_ret2
    exact hq.out
end
end Go.Proofs.Ytikfbhepnnbdoaa

/-
  What a crash may leave of a disk's blocks, whenever the power goes. No program in sight.
-/
import Derived.Test.YtajnlhalanhicaaSuJ
namespace Go.Proofs.Ytajnlhalanhicaa
set_option linter.all false
set_option maxRecDepth 20000
open Go.RowKit

theorem getD_set (l : List Bytes) (i j : Nat) (v : Bytes) (hi : i < l.length) : (l.set i v).getD j [] = if i = j then v else l.getD j [] := by
  by_cases h : i = j
  · subst h; simp [List.getD_eq_getElem?_getD, hi]
  · simp [List.getD_eq_getElem?_getD, List.getElem?_set_ne h, h]
/-- each block of the sectors that lie is good, and may be -/
def GoodL (d size : Nat) (sure : List Bytes) (May : Nat → Bytes → Prop) : Prop :=
  ∀ k, k < size → fitsP d (standP (sure.getD (sumAt k) []) k) k (sure.getD (dataAt k) []) = true ∧ May k (sure.getD (dataAt k) [])
/-- .. whatever of the writes that wait is kept -/
def CrashL (d size : Nat) (sure : List Bytes) (waits : List (Nat × Bytes)) (May : Nat → Bytes → Prop) : Prop :=
  ∀ keeps, GoodL d size (settleL keeps 0 waits sure) May
structure SizesL (size : Nat) (sure : List Bytes) : Prop where
  lt : ∀ k, k < size → sumAt k < sure.length ∧ dataAt k < sure.length
  len : ∀ k, k < size → (sure.getD (sumAt k) []).length = 128
/-- all calls did what they ought to -/
structure LiveL (d size : Nat) (sure : List Bytes) (waits : List (Nat × Bytes)) (opn : Int) (V : Nat → Bytes) (May : Nat → Bytes → Prop) : Prop where
  good : GoodL d size sure May
  st : (waits = [] ∧ ∀ k, k < size → V k = sure.getD (dataAt k) []) ∨
    ∃ n b, n < size ∧ waits = [(dataAt n, b)] ∧ opn = n ∧ fitsP d (standP (sure.getD (sumAt n) []) n) n b = true ∧ May n b ∧ V n = b ∧ ∀ k, k < size → k ≠ n → V k = sure.getD (dataAt k) []
section
variable {d size : Nat} {sure : List Bytes} {waits : List (Nat × Bytes)} {opn : Int} {V : Nat → Bytes} {May May' : Nat → Bytes → Prop}
theorem GoodL.mono (h : GoodL d size sure May) (hm : ∀ k x, May k x → May' k x) : GoodL d size sure May' := fun k hk => ⟨(h k hk).1, hm _ _ (h k hk).2⟩
theorem CrashL.mono (h : CrashL d size sure waits May) (hm : ∀ k x, May k x → May' k x) : CrashL d size sure waits May' := fun keeps => (h keeps).mono hm
theorem LiveL.mono (h : LiveL d size sure waits opn V May) (hm : ∀ k x, May k x → May' k x) : LiveL d size sure waits opn V May' :=
  ⟨h.good.mono hm, h.st.imp id fun ⟨n, b, h1, h2, h3, h4, h5, h6⟩ => ⟨n, b, h1, h2, h3, h4, hm _ _ h5, h6⟩⟩
/-- other bytes of a block -/
theorem GoodL.data (h : GoodL d size sure May) (hs : SizesL size sure) {n : Nat} (hn : n < size) {b : Bytes} (hf : fitsP d (standP (sure.getD (sumAt n) []) n) n b = true) (hm : May n b) : GoodL d size (sure.set (dataAt n) b) May := by
  intro k hk
  obtain ⟨h1, h2⟩ := place_ne (n := k) (m := n)
  rw [getD_set _ _ _ _ (hs.lt n hn).2, getD_set _ _ _ _ (hs.lt n hn).2, if_neg (fun e => h1 e.symm)]
  by_cases hkn : k = n
  · subst hkn
    rw [if_pos rfl]
    exact ⟨hf, hm⟩
  · rw [if_neg (fun e => h2 hkn e.symm)]
    exact h k hk
theorem SizesL.data (hs : SizesL size sure) {n : Nat} (hn : n < size) (b : Bytes) : SizesL size (sure.set (dataAt n) b) := by
  refine ⟨fun k hk => by simpa using hs.lt k hk, fun k hk => ?_⟩
  rw [getD_set _ _ _ _ (hs.lt n hn).2, if_neg (fun e => (place_ne (n := k) (m := n)).1 e.symm)]
  exact hs.len k hk
theorem sumAt_mod {k n : Nat} (h : sumAt k = sumAt n) (hne : k ≠ n) : n % 16 ≠ k % 16 := by
  unfold sumAt at h
  omega
/-- the sums of other bytes of a block -/
theorem GoodL.sums (h : GoodL d size sure May) (hs : SizesL size sure) {n : Nat} (hn : n < size) (p : Nat × Nat) (h1 : p.1 < 4294967296) (h2 : p.2 < 4294967296) (hp : p.1 = sumB d n (sure.getD (dataAt n) [])) :
    GoodL d size (sure.set (sumAt n) (putSums (sure.getD (sumAt n) []) n p)) May := by
  intro k hk
  obtain ⟨e1, _⟩ := place_ne (n := n) (m := k)
  rw [getD_set _ _ _ _ (hs.lt n hn).1, getD_set _ _ _ _ (hs.lt n hn).1, if_neg e1]
  by_cases hsk : sumAt n = sumAt k
  · rw [if_pos hsk]
    by_cases hkn : k = n
    · subst hkn
      rw [(stand_put _ _ _ (hs.len k hk) h1 h2).1]
      exact ⟨fits_fst _ _ _ _ hp.symm, (h k hk).2⟩
    · rw [stand_put_ne _ _ _ _ (hs.len n hn) (sumAt_mod hsk.symm hkn), hsk]
      exact h k hk
  · rw [if_neg hsk]
    exact h k hk
theorem SizesL.sums (hs : SizesL size sure) {n : Nat} (hn : n < size) (S : Bytes) (hS : S.length = 128) : SizesL size (sure.set (sumAt n) S) := by
  refine ⟨fun k hk => by simpa using hs.lt k hk, fun k hk => ?_⟩
  rw [getD_set _ _ _ _ (hs.lt n hn).1]
  split
  · exact hS
  · exact hs.len k hk
theorem LiveL.crash (h : LiveL d size sure waits opn V May) (hs : SizesL size sure) : CrashL d size sure waits May := by
  intro keeps
  rcases h.st with ⟨rfl, _⟩ | ⟨n, b, hn, rfl, _, hf, hm, _⟩
  · exact h.good
  · show GoodL d size (if keeps 0 then sure.set (dataAt n) b else sure) May
    split
    · exact h.good.data hs hn hf hm
    · exact h.good
/-- all is sure -/
theorem LiveL.flush (h : LiveL d size sure waits opn V May) (hs : SizesL size sure) :
    ∀ o, LiveL d size (settleL (fun _ => true) 0 waits sure) [] o V May ∧ SizesL size (settleL (fun _ => true) 0 waits sure) := by
  intro o
  have hc := h.crash hs (fun _ => true)
  rcases h.st with ⟨rfl, hv⟩ | ⟨n, b, hn, rfl, _, hf, hm, hb, hv⟩
  · exact ⟨⟨hc, .inl ⟨rfl, hv⟩⟩, hs⟩
  · refine ⟨⟨hc, .inl ⟨rfl, fun k hk => ?_⟩⟩, hs.data hn b⟩
    show V k = (sure.set (dataAt n) b).getD (dataAt k) []
    rw [getD_set _ _ _ _ (hs.lt n hn).2]
    by_cases hkn : k = n
    · subst hkn
      rw [if_pos rfl]
      exact hb
    · rw [if_neg (fun e => (place_ne (n := k) (m := n)).2 hkn e.symm)]
      exact hv k hk hkn
/-- with all sure, only the last that may be may be -/
theorem LiveL.last (h : LiveL d size sure [] opn V May) (hm : ∀ k, k < size → May' k (V k)) : LiveL d size sure [] opn V May' := by
  rcases h.st with ⟨_, hv⟩ | ⟨n, b, _, hw, _⟩
  · exact ⟨fun k hk => ⟨(h.good k hk).1, by rw [← hv k hk]; exact hm k hk⟩, .inl ⟨rfl, hv⟩⟩
  · cases hw
/-- the sums of other bytes wait, too -/
theorem LiveL.sums (h : LiveL d size sure waits opn V May) (hs : SizesL size sure) {n : Nat} (hn : n < size) (hno : opn ≠ n) (b : Bytes) :
    CrashL d size sure (waits ++ [(sumAt n, putSums (sure.getD (sumAt n) []) n (sumB d n (V n), sumB d n b))]) May ∧
    ∀ o, LiveL d size (settleL (fun _ => true) 0 (waits ++ [(sumAt n, putSums (sure.getD (sumAt n) []) n (sumB d n (V n), sumB d n b))]) sure) [] o V May ∧
      SizesL size (settleL (fun _ => true) 0 (waits ++ [(sumAt n, putSums (sure.getD (sumAt n) []) n (sumB d n (V n), sumB d n b))]) sure) ∧
      fitsP d (standP ((settleL (fun _ => true) 0 (waits ++ [(sumAt n, putSums (sure.getD (sumAt n) []) n (sumB d n (V n), sumB d n b))]) sure).getD (sumAt n) []) n) n b = true := by
  have l1 : sumB d n (V n) < 4294967296 := sumB_lt _ _ _
  have l2 : sumB d n b < 4294967296 := sumB_lt _ _ _
  have hpl := stand_put (sure.getD (sumAt n) []) n (sumB d n (V n), sumB d n b) (hs.len n hn) l1 l2
  -- on sectors sure' with the same sums' sector and V n as the block
  have key : ∀ su : List Bytes, GoodL d size su May → SizesL size su → su.getD (sumAt n) [] = sure.getD (sumAt n) [] → su.getD (dataAt n) [] = V n → (∀ k, k < size → V k = su.getD (dataAt k) []) →
      ∀ o, LiveL d size (su.set (sumAt n) (putSums (sure.getD (sumAt n) []) n (sumB d n (V n), sumB d n b))) [] o V May ∧
        SizesL size (su.set (sumAt n) (putSums (sure.getD (sumAt n) []) n (sumB d n (V n), sumB d n b))) ∧
        fitsP d (standP ((su.set (sumAt n) (putSums (sure.getD (sumAt n) []) n (sumB d n (V n), sumB d n b))).getD (sumAt n) []) n) n b = true := by
    intro su hg hz e1 e2 hv o
    refine ⟨⟨?_, .inl ⟨rfl, fun k hk => ?_⟩⟩, hz.sums hn _ hpl.2, ?_⟩
    · rw [← e1]
      exact hg.sums hz hn (sumB d n (V n), sumB d n b) l1 l2 (by rw [e2])
    · rw [getD_set _ _ _ _ (hz.lt n hn).1, if_neg (place_ne (n := n) (m := k)).1]
      exact hv k hk
    · rw [getD_set _ _ _ _ (hz.lt n hn).1, if_pos rfl, hpl.1]
      exact fits_snd _ _ _ _ rfl
  have gs : ∀ su : List Bytes, GoodL d size su May → SizesL size su → su.getD (sumAt n) [] = sure.getD (sumAt n) [] → su.getD (dataAt n) [] = V n →
      GoodL d size (su.set (sumAt n) (putSums (sure.getD (sumAt n) []) n (sumB d n (V n), sumB d n b))) May := by
    intro su hg hz e1 e2
    rw [← e1]
    exact hg.sums hz hn (sumB d n (V n), sumB d n b) l1 l2 (by rw [e2])
  rcases h.st with ⟨rfl, hv⟩ | ⟨n0, b0, hn0, rfl, ho, hf, hm, hb0, hv⟩
  · refine ⟨fun keeps => ?_, key sure h.good hs rfl (hv n hn).symm hv⟩
    show GoodL d size (if keeps 0 then sure.set (sumAt n) _ else sure) May
    split
    · exact gs sure h.good hs rfl (hv n hn).symm
    · exact h.good
  · have hnn : n ≠ n0 := fun e => hno (by rw [ho, e])
    have g0 := h.good.data hs hn0 hf hm
    have z0 := hs.data hn0 b0
    have e1 : (sure.set (dataAt n0) b0).getD (sumAt n) [] = sure.getD (sumAt n) [] := by
      rw [getD_set _ _ _ _ (hs.lt n0 hn0).2, if_neg (fun e => (place_ne (n := n) (m := n0)).1 e.symm)]
    have e2 : (sure.set (dataAt n0) b0).getD (dataAt n) [] = V n := by
      rw [getD_set _ _ _ _ (hs.lt n0 hn0).2, if_neg (fun e => (place_ne (n := n) (m := n0)).2 hnn e.symm), hv n hn hnn]
    have hv' : ∀ k, k < size → V k = (sure.set (dataAt n0) b0).getD (dataAt k) [] := by
      intro k hk
      rw [getD_set _ _ _ _ (hs.lt n0 hn0).2]
      by_cases hk0 : k = n0
      · subst hk0
        rw [if_pos rfl]
        exact hb0
      · rw [if_neg (fun e => (place_ne (n := k) (m := n0)).2 hk0 e.symm)]
        exact hv k hk hk0
    refine ⟨fun keeps => ?_, key _ g0 z0 e1 e2 hv'⟩
    show GoodL d size (if keeps 1 then (if keeps 0 then sure.set (dataAt n0) b0 else sure).set (sumAt n) _ else (if keeps 0 then sure.set (dataAt n0) b0 else sure)) May
    cases keeps 0 <;> cases keeps 1 <;> simp only [Bool.false_eq_true, if_true, if_false]
    · exact h.good
    · exact gs sure h.good hs rfl (hv n hn hnn).symm
    · exact g0
    · exact gs _ g0 z0 e1 e2
def updV (V : Nat → Bytes) (n : Nat) (b : Bytes) (k : Nat) : Bytes := if k = n then b else V k
/-- the bytes wait -/
theorem LiveL.wait (h : LiveL d size sure [] opn V May) {n : Nat} (hn : n < size) {b : Bytes} (hf : fitsP d (standP (sure.getD (sumAt n) []) n) n b = true) (hm : May n b) :
    LiveL d size sure [(dataAt n, b)] n (updV V n b) May := by
  rcases h.st with ⟨_, hv⟩ | ⟨_, _, _, hw, _⟩
  · refine ⟨h.good, .inr ⟨n, b, hn, rfl, rfl, hf, hm, by simp [updV], fun k hk hkn => ?_⟩⟩
    rw [updV, if_neg hkn]
    exact hv k hk
  · cases hw
end
end Go.Proofs.Ytajnlhalanhicaa

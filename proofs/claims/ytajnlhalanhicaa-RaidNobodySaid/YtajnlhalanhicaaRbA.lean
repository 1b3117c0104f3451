/-
  An array all of whose disks live: each block of each disk has what was written last. No program in sight.
-/
import Derived.Test.YtajnlhalanhicaaRaM
import Derived.Test.YtajnlhalanhicaaRgA
import Derived.Test.YtajnlhalanhicaaSuH
import Derived.Test.YtajnlhalanhicaaSuY
namespace Go.Proofs.Ytajnlhalanhicaa
set_option linter.all false
set_option maxRecDepth 20000
open Go.RowKit

section
variable {s s' : ShM} {V V' : VolM} {U : Nat → Nat → Bytes} {M : Nat → Nat → Bytes → Prop}
/-- all that is the same but for the disks' open blocks -/
structure SameV (V V' : VolM) : Prop where
  sup : V'.sup = V.sup
  opens : V'.opens = V.opens
  used : V'.used = V.used
  len : V'.devs.length = V.devs.length
theorem SameV.refl (V : VolM) : SameV V V := ⟨rfl, rfl, rfl, rfl⟩
theorem SameV.trans {V V' V'' : VolM} (h : SameV V V') (k : SameV V' V'') : SameV V V'' := ⟨k.sup.trans h.sup, k.opens.trans h.opens, k.used.trans h.used, k.len.trans h.len⟩
theorem SameV.setDev (V : VolM) (i : Nat) (D : DevM) : SameV V (V.setDev i D) := ⟨rfl, rfl, rfl, by simp [VolM.setDev]⟩
theorem dev_set1 {V : VolM} {i : Nat} (hi : i < V.devs.length) (D : DevM) : (V.setDev i D).dev i = D := by simp [VolM.setDev, VolM.dev, List.getD_eq_getElem?_getD, hi]
theorem dev_set_ne {V : VolM} {i j : Nat} (h : j ≠ i) (D : DevM) : (V.setDev i D).dev j = V.dev j := by simp [VolM.setDev, VolM.dev, List.getD_eq_getElem?_getD, List.getElem?_set_ne (Ne.symm h)]
/-- the array: its disks live -/
structure ArrL (s : ShM) (V : VolM) (U : Nat → Nat → Bytes) (M : Nat → Nat → Bytes → Prop) : Prop where
  dd : ∀ i, i < V.devs.length → (V.dev i).disk = i
  live : ∀ i, i < V.devs.length → Lives s (V.dev i) (U i) (M i)
theorem Lives.other {D D' E : DevM} {W W' : Nat → Bytes} {m m' : Nat → Bytes → Prop} (h : Lives s E W m) (hr : Rest s s' D D') (hl : Lives s' D' W' m') (hne : E.disk ≠ D.disk) : Lives s' E W m := by
  have e := hr.other _ hne
  refine ⟨⟨⟨hl.p.pow.ok, by rw [hr.len]; exact h.p.pow.disk, by rw [e]; exact h.p.pow.alive⟩, by rw [hr.sec]; exact h.p.size, hl.p.room⟩, ?_⟩
  rw [e]
  exact h.live
theorem ArrL.set (h : ArrL s V U M) {i : Nat} (hi : i < V.devs.length) {D' : DevM} {W : Nat → Bytes} {m : Nat → Bytes → Prop} (hr : Rest s s' (V.dev i) D') (hl : Lives s' D' W m) : ArrL s' (V.setDev i D') (updM U i W) (updM M i m) := by
  have hlen : (V.setDev i D').devs.length = V.devs.length := by simp [VolM.setDev]
  refine ⟨fun j hj => ?_, fun j hj => ?_⟩
  all_goals
    rw [hlen] at hj
    by_cases e : j = i
  · subst e
    rw [dev_set1 hi, hr.disk]
    exact h.dd j hi
  · rw [dev_set_ne e]
    exact h.dd j hj
  · subst e
    rw [dev_set1 hi, updM_same, updM_same]
    exact hl
  · rw [dev_set_ne e, updM_ne _ _ e, updM_ne _ _ e]
    exact (h.live j hj).other hr hl (by rw [h.dd j hj, h.dd i hi]; exact e)
theorem ArrL.tick (h : ArrL s V U M) : ArrL s.tick V U M := ⟨h.dd, fun i hi => (h.live i hi).tick⟩
theorem on_off (h : s.stops = false) : s.off = false := by simp [ShM.off, h]
/-- while the power cannot go: a read, a flush, a write -/
theorem ArrL.rd (h : ArrL s V U M) (hon : s.stops = false) {i : Nat} (hi : i < V.devs.length) {n : Nat} (hn : n < (V.dev i).size) : devRead s (V.dev i) (n : Int) = (U i n, 0, s.tick.tick) := by
  rw [(h.live i hi).read2 hn, on_off hon]
  rfl
theorem ArrL.fl (h : ArrL s V U M) (hon : s.stops = false) {i : Nat} (hi : i < V.devs.length) :
    (volFl s V i).1 = 0 ∧ (volFl s V i).2.1.stops = false ∧ SameV V (volFl s V i).2.2 ∧ (∀ j, ((volFl s V i).2.2.dev j).size = (V.dev j).size) ∧ ArrL (volFl s V i).2.1 (volFl s V i).2.2 U (updM M i (Just (U i))) := by
  rcases (h.live i hi).flush2 with ⟨ho, _⟩ | ⟨_, s', e, hl, _, _, hr, _⟩
  · rw [on_off hon] at ho; cases ho
  · unfold volFl
    rw [e]
    dsimp only
    refine ⟨rfl, hr.stops.trans hon, SameV.setDev _ _ _, fun j => ?_, ?_⟩
    · by_cases e : j = i
      · subst e; rw [dev_set1 hi]
      · rw [dev_set_ne e]
    · have := h.set hi hr hl
      have e : updM U i (U i) = U := by funext j; unfold updM; split <;> simp_all
      rw [e] at this
      exact this
theorem ArrL.wr (h : ArrL s V U M) (hon : s.stops = false) {i : Nat} (hi : i < V.devs.length) {n : Nat} (hn : n < (V.dev i).size) {b : Bytes} (hb : b.length = 128) :
    (volWr s V i (n : Int) b).1 = 0 ∧ (volWr s V i (n : Int) b).2.1.stops = false ∧ SameV V (volWr s V i (n : Int) b).2.2 ∧ (∀ j, ((volWr s V i (n : Int) b).2.2.dev j).size = (V.dev j).size) ∧ ArrL (volWr s V i (n : Int) b).2.1 (volWr s V i (n : Int) b).2.2 (updM U i (updV (U i) n b)) (updM M i (Just1 (U i) n b)) := by
  have hw := (h.live i hi).write2 hn hb
  obtain ⟨e1, hl⟩ := hw.on hon
  have hr := hw.1
  unfold volWr
  clear hw
  generalize devWrite s (V.dev i) (n : Int) b = r at *
  dsimp only
  refine ⟨e1, hr.stops.trans hon, SameV.setDev _ _ _, fun j => ?_, h.set hi hr hl⟩
  by_cases e : j = i
  · subst e; rw [dev_set1 hi, hr.size]
  · rw [dev_set_ne e]
/-- .. all are flushed -/
theorem ArrL.syncOn : ∀ (f i : Nat) (s : ShM) (V : VolM) (M : Nat → Nat → Bytes → Prop), i + f = V.devs.length → ArrL s V U M → s.stops = false →
    (syncFrom s V i f).1 = 0 ∧ (syncFrom s V i f).2.1.stops = false ∧ SameV V (syncFrom s V i f).2.2 ∧ (∀ j, ((syncFrom s V i f).2.2.dev j).size = (V.dev j).size) ∧ ArrL (syncFrom s V i f).2.1 (syncFrom s V i f).2.2 U (fun j => if i ≤ j then (if j < V.devs.length then Just (U j) else M j) else M j)
  | 0, i, s, V, M, hf, h, hon => ⟨rfl, hon, SameV.refl V, fun _ => rfl, h.dd, fun j hj => by
      show Lives s (V.dev j) (U j) (if i ≤ j then (if j < V.devs.length then Just (U j) else M j) else M j)
      have hj' : j < V.devs.length := hj
      rw [if_neg (by omega)]
      exact h.live j hj⟩
  | f + 1, i, s, V, M, hf, h, hon => by
    obtain ⟨e1, e2, e3, e4, e5⟩ := h.fl hon (i := i) (by omega)
    have ih := syncOn f (i + 1) (volFl s V i).2.1 (volFl s V i).2.2 _ (by rw [e3.len]; omega) e5 e2
    unfold syncFrom
    dsimp only
    rw [if_pos (.inl e1)]
    obtain ⟨k1, k2, k3, k4, k5⟩ := ih
    refine ⟨k1, k2, e3.trans k3, fun j => (k4 j).trans (e4 j), k5.dd, fun j hj => ?_⟩
    have := k5.live j hj
    rw [e3.len] at this
    have hM : (if i + 1 ≤ j then (if j < V.devs.length then Just (U j) else updM M i (Just (U i)) j) else updM M i (Just (U i)) j) = (if i ≤ j then (if j < V.devs.length then Just (U j) else M j) else M j) := by
      by_cases e : j = i
      · subst e
        rw [if_neg (by omega), updM_same, if_pos (by omega), if_pos (by omega)]
      · rw [updM_ne _ _ e]
        by_cases e2 : i + 1 ≤ j
        · have e3 : i ≤ j := by omega
          rw [if_pos e2, if_pos e3]
        · have e3 : ¬ i ≤ j := by omega
          rw [if_neg e2, if_neg e3]
    rw [hM] at this
    exact this
theorem ArrL.sync (h : ArrL s V U M) (hon : s.stops = false) :
    (volSync s V).1 = 0 ∧ (volSync s V).2.1.stops = false ∧ SameV V (volSync s V).2.2 ∧ (∀ j, ((volSync s V).2.2.dev j).size = (V.dev j).size) ∧ ArrL (volSync s V).2.1 (volSync s V).2.2 U (fun j => Just (U j)) := by
  obtain ⟨k1, k2, k3, k4, k5⟩ := ArrL.syncOn V.devs.length 0 s V M (by omega) h hon
  refine ⟨k1, k2, k3, k4, k5.dd, fun j hj => ?_⟩
  have := k5.live j hj
  have hj' : j < V.devs.length := by rw [← k3.len]; exact hj
  rw [if_pos (Nat.zero_le _), if_pos hj'] at this
  exact this
/-- .. what the array is, said on a disk -/
theorem ArrL.sayOn (h : ArrL s V U M) (hon : s.stops = false) {i : Nat} (hi : i < V.devs.length) (x : Sup) (hx : rightB { x with disk := i } = true) (hz : 2 ≤ (V.dev i).size) :
    (volSay s V i x).1 = 0 ∧ (volSay s V i x).2.1.stops = false ∧ SameV V (volSay s V i x).2.2 ∧ (∀ j, ((volSay s V i x).2.2.dev j).size = (V.dev j).size) ∧ ArrL (volSay s V i x).2.1 (volSay s V i x).2.2 (updM U i (updV (U i) (x.gen % 2).toNat (supBytes { x with disk := i }))) (updM M i (Just (updV (U i) (x.gen % 2).toNat (supBytes { x with disk := i })))) := by
  unfold volSay
  dsimp only
  rw [if_pos hx]
  have hg : x.gen % 2 = (((x.gen % 2).toNat : Nat) : Int) := by omega
  have hlt : (x.gen % 2).toNat < 2 := by omega
  rw [hg]
  simp only [Int.toNat_natCast]
  generalize (x.gen % 2).toNat = g at *
  obtain ⟨a1, a2, a3, a4, a5⟩ := h.wr hon hi (n := g) (by omega) (supBytes_len { x with disk := i })
  generalize volWr s V i (g : Int) (supBytes { x with disk := i }) = r at *
  rw [if_pos a1]
  obtain ⟨b1, b2, b3, b4, b5⟩ := a5.fl a2 (i := i) (by rw [a3.len]; exact hi)
  refine ⟨b1, b2, a3.trans b3, fun j => (b4 j).trans (a4 j), ?_⟩
  rw [updM_same] at b5
  have e : updM (updM M i (Just1 (U i) g (supBytes { x with disk := i }))) i (Just (updV (U i) g (supBytes { x with disk := i }))) = updM M i (Just (updV (U i) g (supBytes { x with disk := i }))) := by
    funext j
    by_cases e : j = i
    · subst e; rw [updM_same, updM_same]
    · rw [updM_ne _ _ e, updM_ne _ _ e, updM_ne _ _ e]
  rw [e] at b5
  exact b5
/-- .. on all -/
def saidU (U : Nat → Nat → Bytes) (x : Sup) (i n : Nat) (j : Nat) : Nat → Bytes := if i ≤ j ∧ j < n then updV (U j) (x.gen % 2).toNat (supBytes { x with disk := j }) else U j
theorem ArrL.sayAll (x : Sup) : ∀ (f i : Nat) (s : ShM) (V : VolM) (U : Nat → Nat → Bytes), i + f = V.devs.length → (∀ j, j < V.devs.length → rightB { x with disk := j } = true) → (∀ j, j < V.devs.length → 2 ≤ (V.dev j).size) → ArrL s V U (fun j => Just (U j)) → s.stops = false →
    (sayFrom s V x i f).1 = 0 ∧ (sayFrom s V x i f).2.1.stops = false ∧ SameV V (sayFrom s V x i f).2.2 ∧ (∀ j, ((sayFrom s V x i f).2.2.dev j).size = (V.dev j).size) ∧ ArrL (sayFrom s V x i f).2.1 (sayFrom s V x i f).2.2 (saidU U x i V.devs.length) (fun j => Just (saidU U x i V.devs.length j))
  | 0, i, s, V, U, hf, hx, hz, h, hon => ⟨rfl, hon, SameV.refl V, fun _ => rfl, h.dd, fun j hj => by
      show Lives s (V.dev j) (saidU U x i V.devs.length j) (Just (saidU U x i V.devs.length j))
      unfold saidU
      rw [if_neg (by omega)]
      exact h.live j hj⟩
  | f + 1, i, s, V, U, hf, hx, hz, h, hon => by
    have hi : i < V.devs.length := by omega
    obtain ⟨a1, a2, a3, a4, a5⟩ := h.sayOn hon hi x (hx i hi) (hz i hi)
    have eU : updM (fun j => Just (U j)) i (Just (updV (U i) (x.gen % 2).toNat (supBytes { x with disk := i }))) = fun j => Just (updM U i (updV (U i) (x.gen % 2).toNat (supBytes { x with disk := i })) j) := by
      funext j
      by_cases e : j = i
      · subst e; rw [updM_same, updM_same]
      · rw [updM_ne _ _ e, updM_ne _ _ e]
    rw [eU] at a5
    unfold sayFrom
    dsimp only
    rw [if_pos (.inl a1)]
    generalize volSay s V i x = r at *
    obtain ⟨k1, k2, k3, k4, k5⟩ := sayAll x f (i + 1) r.2.1 r.2.2 _ (by rw [a3.len]; omega) (fun j hj => hx j (by rw [← a3.len]; exact hj)) (fun j hj => by rw [a4]; exact hz j (by rw [← a3.len]; exact hj)) a5 a2
    refine ⟨k1, k2, a3.trans k3, fun j => (k4 j).trans (a4 j), k5.dd, fun j hj => ?_⟩
    have := k5.live j hj
    rw [a3.len] at this
    have e : saidU (updM U i (updV (U i) (x.gen % 2).toNat (supBytes { x with disk := i }))) x (i + 1) V.devs.length j = saidU U x i V.devs.length j := by
      unfold saidU
      by_cases e : j = i
      · subst e
        rw [if_neg (by omega), updM_same, if_pos (by omega)]
      · rw [updM_ne _ _ e]
        by_cases e2 : i + 1 ≤ j ∧ j < V.devs.length
        · rw [if_pos e2, if_pos (by omega)]
        · rw [if_neg e2, if_neg (by omega)]
    rw [e] at this
    exact this
/-- .. noughts stay noughts -/
theorem zeroIn_on (d : Nat) : ∀ (f n : Nat) (s : ShM), (∀ k, n ≤ k → k < n + f → U d k = zeroSec ∧ k < (V.dev d).size) → d < V.devs.length → ArrL s V U M → s.stops = false →
    (zeroIn s V d n f).1 = 0 ∧ (zeroIn s V d n f).2.2 = V ∧ (zeroIn s V d n f).2.1.stops = false ∧ ArrL (zeroIn s V d n f).2.1 V U M
  | 0, n, s, hz, hd, h, hon => ⟨rfl, rfl, hon, h⟩
  | f + 1, n, s, hz, hd, h, hon => by
    obtain ⟨z1, z2⟩ := hz n (by omega) (by omega)
    have e := h.rd hon hd z2
    unfold zeroIn
    rw [e]
    dsimp only
    rw [if_pos ⟨rfl, z1⟩]
    exact zeroIn_on d f (n + 1) s.tick.tick (fun k h1 h2 => hz k (by omega) (by omega)) hd h.tick.tick hon
theorem zeroFrom_on : ∀ (f d : Nat) (s : ShM), d + f = V.devs.length → (∀ i, i < V.devs.length → ∀ k, k < V.base + V.stripes → U i k = zeroSec ∧ k < (V.dev i).size) → ArrL s V U M → s.stops = false →
    (zeroFrom s V d f).1 = 0 ∧ (zeroFrom s V d f).2.2 = V ∧ (zeroFrom s V d f).2.1.stops = false ∧ ArrL (zeroFrom s V d f).2.1 V U M
  | 0, d, s, hf, hz, h, hon => ⟨rfl, rfl, hon, h⟩
  | f + 1, d, s, hf, hz, h, hon => by
    obtain ⟨a1, a2, a3, a4⟩ := zeroIn_on (V := V) (U := U) (M := M) d (V.base + V.stripes) 0 s (fun k _ h2 => hz d (by omega) k (by omega)) (by omega) h hon
    unfold zeroFrom
    dsimp only
    rw [if_pos a1, a2]
    exact zeroFrom_on f (d + 1) _ (by omega) hz a4 a3
theorem stand_zero (k : Nat) : standP zeroSec k = (0, 0) := by
  have h1 : ∀ o, leNum ((zeroSec.drop o).take 4) = 0 := by
    intro o
    have : ∀ (j : Nat) (m : Nat), leNum ((List.replicate m (0 : UInt8)).take j) = 0 := by
      intro j m
      rw [List.take_replicate]
      generalize min j m = q
      induction q with
      | zero => rfl
      | succ q ih => rw [List.replicate_succ]; simp [leNum, ih]
    unfold zeroSec
    rw [List.drop_replicate]
    exact this _ _
  unfold standP
  rw [h1, h1]
/-- a fresh shelf -/
theorem fresh_lives (d k : Nat) (h1 : 1 ≤ d) (h17 : d ≤ 17) (hk : k < d) : Lives (freshSh d 40) ⟨k, 37, -1⟩ (fun _ => zeroSec) (Just fun _ => zeroSec) := by
  have hl : (freshSh d 40).disks.length = d := by simp [freshSh]
  have he : (freshSh d 40).disk k = freshDisk 40 := by simp [ShM.disk, freshSh, List.getD_eq_getElem?_getD, List.getElem?_replicate, hk]
  have hg : ∀ n, n < 40 → (freshDisk 40).sure.getD n [] = zeroSec := fun n hn => by
    show (List.replicate 40 zeroSec).getD n [] = zeroSec
    rw [List.getD_eq_getElem?_getD, List.getElem?_replicate, if_pos hn]
    rfl
  have hp : ∀ k, k < 37 → sumAt k < 40 ∧ dataAt k < 40 := fun k hk => by unfold sumAt dataAt; omega
  refine ⟨⟨⟨freshSh_ok d 40 h1 h17 (by omega) (by omega), by rw [hl]; exact hk, by rw [he]; rfl⟩, by show ((37 : Nat) : Int) = blocksI ((40 : Nat) : Int); decide, (room_fresh d 40).mono (by omega)⟩, ?_⟩
  show LiveL k 37 ((freshSh d 40).disk k).sure ((freshSh d 40).disk k).waits _ _ _
  rw [he]
  refine ⟨fun k hk => ?_, .inl ⟨rfl, fun k hk => (hg _ (hp k hk).2).symm⟩⟩
  rw [hg _ (hp k hk).1, hg _ (hp k hk).2, stand_zero]
  exact ⟨by simp [fitsP], rfl⟩
theorem fresh_devs (d : Nat) (x : Sup) : (volBuild (freshSh d 40) x).devs.length = d ∧ ∀ i, i < d → (volBuild (freshSh d 40) x).dev i = ⟨i, 37, -1⟩ := by
  have hl : (freshSh d 40).disks.length = d := by simp [freshSh]
  have hz : (blocksI ((freshSh d 40).sectors : Nat)).toNat = 37 := by show (blocksI ((40 : Nat) : Int)).toNat = 37; decide
  unfold volBuild devsOf
  rw [hl, hz]
  refine ⟨by simp, fun i hi => ?_⟩
  simp [VolM.dev, List.getD_eq_getElem?_getD, hi]
theorem fresh_arr (d : Nat) (h1 : 1 ≤ d) (h17 : d ≤ 17) (x : Sup) : ArrL (freshSh d 40) (volBuild (freshSh d 40) x) (fun _ _ => zeroSec) (fun _ => Just fun _ => zeroSec) := by
  obtain ⟨e1, e2⟩ := fresh_devs d x
  refine ⟨fun i hi => ?_, fun i hi => ?_⟩
  all_goals
    rw [e1] at hi
    rw [e2 i hi]
  exact fresh_lives d i h1 h17 hi
/-- what Create says -/
def madeSup (m st l : Int) : Sup := { newSup m st l with gen := 1 }
theorem make_fresh (d : Nat) (h1 : 1 ≤ d) (h17 : d ≤ 17) (m st l : Int) (hb : buildOk (freshSh d 40) (newSup m st l) = true) :
    (volMake (freshSh d 40) (volBuild (freshSh d 40) (newSup m st l))).1 = 0 ∧ (volMake (freshSh d 40) (volBuild (freshSh d 40) (newSup m st l))).2.1.stops = false ∧
    (volMake (freshSh d 40) (volBuild (freshSh d 40) (newSup m st l))).2.2.sup = madeSup m st l ∧ (volMake (freshSh d 40) (volBuild (freshSh d 40) (newSup m st l))).2.2.opens = [] ∧ (volMake (freshSh d 40) (volBuild (freshSh d 40) (newSup m st l))).2.2.used = [] ∧
    (volMake (freshSh d 40) (volBuild (freshSh d 40) (newSup m st l))).2.2.devs.length = d ∧ (∀ i, i < d → ((volMake (freshSh d 40) (volBuild (freshSh d 40) (newSup m st l))).2.2.dev i).size = 37) ∧
    ArrL (volMake (freshSh d 40) (volBuild (freshSh d 40) (newSup m st l))).2.1 (volMake (freshSh d 40) (volBuild (freshSh d 40) (newSup m st l))).2.2 (saidU (fun _ _ => zeroSec) (madeSup m st l) 0 d) (fun j => Just (saidU (fun _ _ => zeroSec) (madeSup m st l) 0 d j)) := by
  obtain ⟨k1, k2, k3, k4, k5, k6, k7, k8⟩ := of_decide_eq_true hb
  obtain ⟨e1, e2⟩ := fresh_devs d (newSup m st l)
  have hA := fresh_arr d h1 h17 (newSup m st l)
  have hon : (freshSh d 40).stops = false := rfl
  have hnd : anyDead (freshSh d 40) = false := by
    unfold anyDead
    rw [List.any_eq_false]
    intro x hx
    have : x = freshDisk 40 := List.eq_of_mem_replicate hx
    rw [this]
    simp [freshDisk]
  have hbk : blocksI ((freshSh d 40).sectors : Nat) = 37 := by show blocksI ((40 : Nat) : Int) = 37; decide
  have hdl : (freshSh d 40).disks.length = d := by simp [freshSh]
  rw [hbk] at k8
  rw [hdl] at k7
  have hV1 : (volBuild (freshSh d 40) (newSup m st l)).sup = newSup m st l := rfl
  have hV2 : (volBuild (freshSh d 40) (newSup m st l)).opens = [] := rfl
  have hV3 : (volBuild (freshSh d 40) (newSup m st l)).used = [] := rfl
  have hbs : (volBuild (freshSh d 40) (newSup m st l)).base + (volBuild (freshSh d 40) (newSup m st l)).stripes ≤ 37 := by
    unfold VolM.base VolM.stripes
    rw [hV1]
    have : (newSup m st l).logs = l := rfl
    have : (newSup m st l).stripes = st := rfl
    have h3 : 1 ≤ l := k1
    have h4 : 1 ≤ st := k3
    have h5 : 2 + 2 * l + st ≤ 37 := k8
    omega
  unfold volMake
  rw [hnd, if_neg Bool.false_ne_true]
  dsimp only
  generalize volBuild (freshSh d 40) (newSup m st l) = V at *
  generalize freshSh d 40 = s at *
  obtain ⟨a1, a2, a3, a4⟩ := zeroFrom_on (V := V) V.devs.length 0 s (by omega) (fun i hi k hk => ⟨rfl, by rw [e2 i (by omega)]; show k < 37; omega⟩) hA hon
  rw [if_pos a1, a2]
  generalize (zeroFrom s V 0 V.devs.length).2.1 = s1 at *
  obtain ⟨b1, b2, b3, b4, b5⟩ := a4.sync a3
  rw [if_pos b1]
  have hsz : ∀ j, j < d → ((volSync s1 V).2.2.dev j).size = 37 := fun j hj => by rw [b4, e2 j hj]
  generalize volSync s1 V = y at *
  obtain ⟨y0, s2, V2⟩ := y
  dsimp only at *
  have hsup : V2.sup = newSup m st l := b3.sup.trans hV1
  have hln : V2.devs.length = d := b3.len.trans e1
  unfold volSave
  have hg0 : V2.sup.gen < 4611686018427387904 := by rw [hsup]; show (0 : Int) < _; omega
  rw [if_pos hg0]
  dsimp only
  have hnx : nextSup V2 V2.sup = madeSup m st l := by rw [hsup]; unfold nextSup; rw [hsup]; rfl
  rw [hnx]
  obtain ⟨c1, c2, c3, c4, c5⟩ := ArrL.sayAll (madeSup m st l) V2.devs.length 0 s2 V2 _ (by omega) (fun j hj => decide_eq_true (by
    have h3 : 3 ≤ m := k5
    have h4 : m ≤ 16 := k6
    have h5 : 1 ≤ st := k3
    have h6 : st ≤ 1024 := k4
    have h7 : 1 ≤ l := k1
    have h8 : l ≤ 8 := k2
    have h9 : (d : Int) = m ∨ (d : Int) = m + 1 := k7
    unfold RightP madeSup newSup
    dsimp only
    omega)) (fun j hj => by rw [hsz j (by omega)]; omega) b5 b2
  rw [if_pos c1]
  dsimp only
  rw [hln] at c1 c2 c3 c4 c5 ⊢
  refine ⟨rfl, c2, rfl, (c3.opens.trans b3.opens).trans hV2, (c3.used.trans b3.used).trans hV3, c3.len.trans hln, fun i hi => (c4 i).trans (hsz i hi), ⟨c5.dd, c5.live⟩⟩
end
end Go.Proofs.Ytajnlhalanhicaa

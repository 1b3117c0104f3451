/-
 Several texts of this work in one (merge.py): RbA, RbB, RbC, RbD, RbE, RbF, RbG, RbH, RbI, RbJ, RbK, RbL, RbM, RbN, RbO, RbP, RbQ, RbR, RdA, RdB.
-/
import Derived.Test.YtajnlhalanhicaaRaM
import Derived.Test.YtajnlhalanhicaaRgA
import Derived.Test.YtajnlhalanhicaaSuZ
import Derived.Test.YtajnlhalanhicaaSuY
import Derived.Test.YtajnlhalanhicaaPpN
import Derived.Test.YtajnlhalanhicaaPpP
import Derived.Test.YtajnlhalanhicaaSupN
namespace Go.Proofs.Ytajnlhalanhicaa
set_option linter.all false
set_option maxRecDepth 20000
section
open Go.RowKit
section
variable {s s' : ShM} {V V' : VolM} {U : Nat → Nat → Bytes} {M : Nat → Nat → Bytes → Prop}
structure SameV (V V' : VolM) : Prop where
 sup : V'.sup = V.sup
 opens : V'.opens = V.opens
 used : V'.used = V.used
 len : V'.devs.length = V.devs.length
theorem SameV.refl (V : VolM) : SameV V V := ⟨rfl, rfl, rfl, rfl⟩
theorem SameV.trans {V V' V'' : VolM} (h : SameV V V') (k : SameV V' V'') : SameV V V'' := ⟨k.sup.trans h.sup, k.opens.trans h.opens, k.used.trans h.used, k.len.trans h.len⟩
theorem SameV.setDev (V : VolM) (i : Nat) (D : DevM) : SameV V (V.setDev i D) := ⟨rfl, rfl, rfl, by simp [VolM.setDev]⟩
theorem dev_set1 {V : VolM} {i : Nat} (hi : i < V.devs.length) (D : DevM) : (V.setDev i D).dev i = D := by simp [VolM.setDev, VolM.dev, List.getD_eq_getElem?_getD, hi]
theorem dev_set_ne {V : VolM} {i j : Nat} (h : j ≠ i) (D : DevM) : (V.setDev i D).dev j = V.dev j := by simp [VolM.setDev, VolM.dev, List.getD_eq_getElem?_getD, List.getElem?_set_ne (Ne.symm h)]
structure ArrL (s : ShM) (V : VolM) (U : Nat → Nat → Bytes) (M : Nat → Nat → Bytes → Prop) : Prop where
 dd : ∀ i, i < V.devs.length → (V.dev i).disk = i
 live : ∀ i, i < V.devs.length → Lives s (V.dev i) (U i) (M i)
theorem Lives.other {D D' E : DevM} {W W' : Nat → Bytes} {m m' : Nat → Bytes → Prop} (h : Lives s E W m) (hr : Rest s s' D D') (hl : Lives s' D' W' m') (hne : E.disk ≠ D.disk) : Lives s' E W m := by
 have e := hr.other _ hne
 refine ⟨⟨⟨hl.p.pow.ok, by rw [hr.len]; exact h.p.pow.disk, by rw [e]; exact h.p.pow.alive⟩, by rw [hr.sec]; exact h.p.size, hl.p.room⟩, ?_⟩
 rw [e]
 exact h.live
theorem ArrL.set (h : ArrL s V U M) {i : Nat} (hi : i < V.devs.length) {D' : DevM} {W : Nat → Bytes} {m : Nat → Bytes → Prop} (hr : Rest s s' (V.dev i) D') (hl : Lives s' D' W m) : ArrL s' (V.setDev i D') (updM U i W) (updM M i m) := by
 have hlen : (V.setDev i D').devs.length = V.devs.length := by simp [VolM.setDev]
 refine ⟨fun j hj => ?_, fun j hj => ?_⟩
 all_goals
  rw [hlen] at hj
  by_cases e : j = i
 ·subst e
  rw [dev_set1 hi, hr.disk]
  exact h.dd j hi
 ·rw [dev_set_ne e]
  exact h.dd j hj
 ·subst e
  rw [dev_set1 hi, updM_same, updM_same]
  exact hl
 ·rw [dev_set_ne e, updM_ne _ _ e, updM_ne _ _ e]
  exact (h.live j hj).other hr hl (by rw [h.dd j hj, h.dd i hi]; exact e)
theorem ArrL.tick (h : ArrL s V U M) : ArrL s.tick V U M := ⟨h.dd, fun i hi => (h.live i hi).tick⟩
theorem on_off (h : s.stops = false) : s.off = false := by simp [ShM.off, h]
theorem ArrL.rd (h : ArrL s V U M) (hon : s.stops = false) {i : Nat} (hi : i < V.devs.length) {n : Nat} (hn : n < (V.dev i).size) : devRead s (V.dev i) (n : Int) = (U i n, 0, s.tick.tick) := by
 rw [(h.live i hi).read2 hn, on_off hon]
 rfl
theorem ArrL.fl (h : ArrL s V U M) (hon : s.stops = false) {i : Nat} (hi : i < V.devs.length) :
  (volFl s V i).1 = 0 ∧ (volFl s V i).2.1.stops = false ∧ SameV V (volFl s V i).2.2 ∧ (∀ j, ((volFl s V i).2.2.dev j).size = (V.dev j).size) ∧ ArrL (volFl s V i).2.1 (volFl s V i).2.2 U (updM M i (Just (U i))) := by
 rcases (h.live i hi).flush2 with ⟨ho, _⟩ | ⟨_, s', e, hl, _, _, hr, _⟩
 ·rw [on_off hon] at ho; cases ho
 ·unfold volFl
  rw [e]
  dsimp only
  refine ⟨rfl, hr.stops.trans hon, SameV.setDev _ _ _, fun j => ?_, ?_⟩
  ·by_cases e : j = i
   ·subst e; rw [dev_set1 hi]
   ·rw [dev_set_ne e]
  ·have := h.set hi hr hl
   have e : updM U i (U i) = U := by funext j; unfold updM; split <;> simp_all
   rw [e] at this
   exact this
theorem ArrL.wr (h : ArrL s V U M) (hon : s.stops = false) {i : Nat} (hi : i < V.devs.length) {n : Nat} (hn : n < (V.dev i).size) {b : Bytes} (hb : b.length = 128) :
  (volWr s V i (n : Int) b).1 = 0 ∧ (volWr s V i (n : Int) b).2.1.stops = false ∧ SameV V (volWr s V i (n : Int) b).2.2 ∧ (∀ j, ((volWr s V i (n : Int) b).2.2.dev j).size = (V.dev j).size) ∧ ArrL (volWr s V i (n : Int) b).2.1 (volWr s V i (n : Int) b).2.2 (updM U i (updV (U i) n b)) (updM M i (Just1 (U i) n b)) := by
 have hw := (h.live i hi).write2 hn hb
 obtain ⟨e1, hl⟩ := hw.on hon
 have hr := hw.1
 unfold volWr
 clear hw
 generalize devWrite s (V.dev i) (n : Int) b = r at *
 dsimp only
 refine ⟨e1, hr.stops.trans hon, SameV.setDev _ _ _, fun j => ?_, h.set hi hr hl⟩
 by_cases e : j = i
 ·subst e; rw [dev_set1 hi, hr.size]
 ·rw [dev_set_ne e]
theorem ArrL.syncOn : ∀ (f i : Nat) (s : ShM) (V : VolM) (M : Nat → Nat → Bytes → Prop), i + f = V.devs.length → ArrL s V U M → s.stops = false →
  (syncFrom s V i f).1 = 0 ∧ (syncFrom s V i f).2.1.stops = false ∧ SameV V (syncFrom s V i f).2.2 ∧ (∀ j, ((syncFrom s V i f).2.2.dev j).size = (V.dev j).size) ∧ ArrL (syncFrom s V i f).2.1 (syncFrom s V i f).2.2 U (fun j => if i ≤ j then (if j < V.devs.length then Just (U j) else M j) else M j)
 | 0, i, s, V, M, hf, h, hon => ⟨rfl, hon, SameV.refl V, fun _ => rfl, h.dd, fun j hj => by
   show Lives s (V.dev j) (U j) (if i ≤ j then (if j < V.devs.length then Just (U j) else M j) else M j)
   have hj' : j < V.devs.length := hj
   rw [if_neg (by omega)]
   exact h.live j hj⟩
 | f + 1, i, s, V, M, hf, h, hon => by
  obtain ⟨e1, e2, e3, e4, e5⟩ := h.fl hon (i := i) (by omega)
  have ih := syncOn f (i + 1) (volFl s V i).2.1 (volFl s V i).2.2 _ (by rw [e3.len]; omega) e5 e2
  unfold syncFrom
  dsimp only
  rw [if_pos (.inl e1)]
  obtain ⟨k1, k2, k3, k4, k5⟩ := ih
  refine ⟨k1, k2, e3.trans k3, fun j => (k4 j).trans (e4 j), k5.dd, fun j hj => ?_⟩
  have := k5.live j hj
  rw [e3.len] at this
  have hM : (if i + 1 ≤ j then (if j < V.devs.length then Just (U j) else updM M i (Just (U i)) j) else updM M i (Just (U i)) j) = (if i ≤ j then (if j < V.devs.length then Just (U j) else M j) else M j) := by
   by_cases e : j = i
   ·subst e
    rw [if_neg (by omega), updM_same, if_pos (by omega), if_pos (by omega)]
   ·rw [updM_ne _ _ e]
    by_cases e2 : i + 1 ≤ j
    ·have e3 : i ≤ j := by omega
     rw [if_pos e2, if_pos e3]
    ·have e3 : ¬ i ≤ j := by omega
     rw [if_neg e2, if_neg e3]
  rw [hM] at this
  exact this
theorem ArrL.sync (h : ArrL s V U M) (hon : s.stops = false) :
  (volSync s V).1 = 0 ∧ (volSync s V).2.1.stops = false ∧ SameV V (volSync s V).2.2 ∧ (∀ j, ((volSync s V).2.2.dev j).size = (V.dev j).size) ∧ ArrL (volSync s V).2.1 (volSync s V).2.2 U (fun j => Just (U j)) := by
 obtain ⟨k1, k2, k3, k4, k5⟩ := ArrL.syncOn V.devs.length 0 s V M (by omega) h hon
 refine ⟨k1, k2, k3, k4, k5.dd, fun j hj => ?_⟩
 have := k5.live j hj
 have hj' : j < V.devs.length := by rw [← k3.len]; exact hj
 rw [if_pos (Nat.zero_le _), if_pos hj'] at this
 exact this
theorem ArrL.sayOn (h : ArrL s V U M) (hon : s.stops = false) {i : Nat} (hi : i < V.devs.length) (x : Sup) (hx : rightB { x with disk := i } = true) (hz : 2 ≤ (V.dev i).size) :
  (volSay s V i x).1 = 0 ∧ (volSay s V i x).2.1.stops = false ∧ SameV V (volSay s V i x).2.2 ∧ (∀ j, ((volSay s V i x).2.2.dev j).size = (V.dev j).size) ∧ ArrL (volSay s V i x).2.1 (volSay s V i x).2.2 (updM U i (updV (U i) (x.gen % 2).toNat (supBytes { x with disk := i }))) (updM M i (Just (updV (U i) (x.gen % 2).toNat (supBytes { x with disk := i })))) := by
 unfold volSay
 dsimp only
 rw [if_pos hx]
 have hg : x.gen % 2 = (((x.gen % 2).toNat : Nat) : Int) := by omega
 have hlt : (x.gen % 2).toNat < 2 := by omega
 rw [hg]
 simp only [Int.toNat_natCast]
 generalize (x.gen % 2).toNat = g at *
 obtain ⟨a1, a2, a3, a4, a5⟩ := h.wr hon hi (n := g) (by omega) (supBytes_len { x with disk := i })
 generalize volWr s V i (g : Int) (supBytes { x with disk := i }) = r at *
 rw [if_pos a1]
 obtain ⟨b1, b2, b3, b4, b5⟩ := a5.fl a2 (i := i) (by rw [a3.len]; exact hi)
 refine ⟨b1, b2, a3.trans b3, fun j => (b4 j).trans (a4 j), ?_⟩
 rw [updM_same] at b5
 have e : updM (updM M i (Just1 (U i) g (supBytes { x with disk := i }))) i (Just (updV (U i) g (supBytes { x with disk := i }))) = updM M i (Just (updV (U i) g (supBytes { x with disk := i }))) := by
  funext j
  by_cases e : j = i
  ·subst e; rw [updM_same, updM_same]
  ·rw [updM_ne _ _ e, updM_ne _ _ e, updM_ne _ _ e]
 rw [e] at b5
 exact b5
def saidU (U : Nat → Nat → Bytes) (x : Sup) (i n : Nat) (j : Nat) : Nat → Bytes := if i ≤ j ∧ j < n then updV (U j) (x.gen % 2).toNat (supBytes { x with disk := j }) else U j
theorem ArrL.sayAll (x : Sup) : ∀ (f i : Nat) (s : ShM) (V : VolM) (U : Nat → Nat → Bytes), i + f = V.devs.length → (∀ j, j < V.devs.length → rightB { x with disk := j } = true) → (∀ j, j < V.devs.length → 2 ≤ (V.dev j).size) → ArrL s V U (fun j => Just (U j)) → s.stops = false →
  (sayFrom s V x i f).1 = 0 ∧ (sayFrom s V x i f).2.1.stops = false ∧ SameV V (sayFrom s V x i f).2.2 ∧ (∀ j, ((sayFrom s V x i f).2.2.dev j).size = (V.dev j).size) ∧ ArrL (sayFrom s V x i f).2.1 (sayFrom s V x i f).2.2 (saidU U x i V.devs.length) (fun j => Just (saidU U x i V.devs.length j))
 | 0, i, s, V, U, hf, hx, hz, h, hon => ⟨rfl, hon, SameV.refl V, fun _ => rfl, h.dd, fun j hj => by
   show Lives s (V.dev j) (saidU U x i V.devs.length j) (Just (saidU U x i V.devs.length j))
   unfold saidU
   rw [if_neg (by omega)]
   exact h.live j hj⟩
 | f + 1, i, s, V, U, hf, hx, hz, h, hon => by
  have hi : i < V.devs.length := by omega
  obtain ⟨a1, a2, a3, a4, a5⟩ := h.sayOn hon hi x (hx i hi) (hz i hi)
  have eU : updM (fun j => Just (U j)) i (Just (updV (U i) (x.gen % 2).toNat (supBytes { x with disk := i }))) = fun j => Just (updM U i (updV (U i) (x.gen % 2).toNat (supBytes { x with disk := i })) j) := by
   funext j
   by_cases e : j = i
   ·subst e; rw [updM_same, updM_same]
   ·rw [updM_ne _ _ e, updM_ne _ _ e]
  rw [eU] at a5
  unfold sayFrom
  dsimp only
  rw [if_pos (.inl a1)]
  generalize volSay s V i x = r at *
  obtain ⟨k1, k2, k3, k4, k5⟩ := sayAll x f (i + 1) r.2.1 r.2.2 _ (by rw [a3.len]; omega) (fun j hj => hx j (by rw [← a3.len]; exact hj)) (fun j hj => by rw [a4]; exact hz j (by rw [← a3.len]; exact hj)) a5 a2
  refine ⟨k1, k2, a3.trans k3, fun j => (k4 j).trans (a4 j), k5.dd, fun j hj => ?_⟩
  have := k5.live j hj
  rw [a3.len] at this
  have e : saidU (updM U i (updV (U i) (x.gen % 2).toNat (supBytes { x with disk := i }))) x (i + 1) V.devs.length j = saidU U x i V.devs.length j := by
   unfold saidU
   by_cases e : j = i
   ·subst e
    rw [if_neg (by omega), updM_same, if_pos (by omega)]
   ·rw [updM_ne _ _ e]
    by_cases e2 : i + 1 ≤ j ∧ j < V.devs.length
    ·rw [if_pos e2, if_pos (by omega)]
    ·rw [if_neg e2, if_neg (by omega)]
  rw [e] at this
  exact this
theorem zeroIn_on (d : Nat) : ∀ (f n : Nat) (s : ShM), (∀ k, n ≤ k → k < n + f → U d k = zeroSec ∧ k < (V.dev d).size) → d < V.devs.length → ArrL s V U M → s.stops = false →
  (zeroIn s V d n f).1 = 0 ∧ (zeroIn s V d n f).2.2 = V ∧ (zeroIn s V d n f).2.1.stops = false ∧ ArrL (zeroIn s V d n f).2.1 V U M
 | 0, n, s, hz, hd, h, hon => ⟨rfl, rfl, hon, h⟩
 | f + 1, n, s, hz, hd, h, hon => by
  obtain ⟨z1, z2⟩ := hz n (by omega) (by omega)
  have e := h.rd hon hd z2
  unfold zeroIn
  rw [e]
  dsimp only
  rw [if_pos ⟨rfl, z1⟩]
  exact zeroIn_on d f (n + 1) s.tick.tick (fun k h1 h2 => hz k (by omega) (by omega)) hd h.tick.tick hon
theorem zeroFrom_on : ∀ (f d : Nat) (s : ShM), d + f = V.devs.length → (∀ i, i < V.devs.length → ∀ k, k < V.base + V.stripes → U i k = zeroSec ∧ k < (V.dev i).size) → ArrL s V U M → s.stops = false →
  (zeroFrom s V d f).1 = 0 ∧ (zeroFrom s V d f).2.2 = V ∧ (zeroFrom s V d f).2.1.stops = false ∧ ArrL (zeroFrom s V d f).2.1 V U M
 | 0, d, s, hf, hz, h, hon => ⟨rfl, rfl, hon, h⟩
 | f + 1, d, s, hf, hz, h, hon => by
  obtain ⟨a1, a2, a3, a4⟩ := zeroIn_on (V := V) (U := U) (M := M) d (V.base + V.stripes) 0 s (fun k _ h2 => hz d (by omega) k (by omega)) (by omega) h hon
  unfold zeroFrom
  dsimp only
  rw [if_pos a1, a2]
  exact zeroFrom_on f (d + 1) _ (by omega) hz a4 a3
theorem stand_zero (k : Nat) : standP zeroSec k = (0, 0) := by
 have h1 : ∀ o, leNum ((zeroSec.drop o).take 4) = 0 := by
  intro o
  have : ∀ (j : Nat) (m : Nat), leNum ((List.replicate m (0 : UInt8)).take j) = 0 := by
   intro j m
   rw [List.take_replicate]
   generalize min j m = q
   induction q with
   | zero => rfl
   | succ q ih => rw [List.replicate_succ]; simp [leNum, ih]
  unfold zeroSec
  rw [List.drop_replicate]
  exact this _ _
 unfold standP
 rw [h1, h1]
theorem fresh_lives (d k : Nat) (h1 : 1 ≤ d) (h17 : d ≤ 17) (hk : k < d) : Lives (freshSh d 40) ⟨k, 37, -1⟩ (fun _ => zeroSec) (Just fun _ => zeroSec) := by
 have hl : (freshSh d 40).disks.length = d := by simp [freshSh]
 have he : (freshSh d 40).disk k = freshDisk 40 := by simp [ShM.disk, freshSh, List.getD_eq_getElem?_getD, List.getElem?_replicate, hk]
 have hg : ∀ n, n < 40 → (freshDisk 40).sure.getD n [] = zeroSec := fun n hn => by
  show (List.replicate 40 zeroSec).getD n [] = zeroSec
  rw [List.getD_eq_getElem?_getD, List.getElem?_replicate, if_pos hn]
  rfl
 have hp : ∀ k, k < 37 → sumAt k < 40 ∧ dataAt k < 40 := fun k hk => by unfold sumAt dataAt; omega
 refine ⟨⟨⟨freshSh_ok d 40 h1 h17 (by omega) (by omega), by rw [hl]; exact hk, by rw [he]; rfl⟩, by show ((37 : Nat) : Int) = blocksI ((40 : Nat) : Int); decide, (room_fresh d 40).mono (by omega)⟩, ?_⟩
 show LiveL k 37 ((freshSh d 40).disk k).sure ((freshSh d 40).disk k).waits _ _ _
 rw [he]
 refine ⟨fun k hk => ?_, .inl ⟨rfl, fun k hk => (hg _ (hp k hk).2).symm⟩⟩
 rw [hg _ (hp k hk).1, hg _ (hp k hk).2, stand_zero]
 exact ⟨by simp [fitsP], rfl⟩
theorem fresh_devs (d : Nat) (x : Sup) : (volBuild (freshSh d 40) x).devs.length = d ∧ ∀ i, i < d → (volBuild (freshSh d 40) x).dev i = ⟨i, 37, -1⟩ := by
 have hl : (freshSh d 40).disks.length = d := by simp [freshSh]
 have hz : (blocksI ((freshSh d 40).sectors : Nat)).toNat = 37 := by show (blocksI ((40 : Nat) : Int)).toNat = 37; decide
 unfold volBuild devsOf
 rw [hl, hz]
 refine ⟨by simp, fun i hi => ?_⟩
 simp [VolM.dev, List.getD_eq_getElem?_getD, hi]
theorem fresh_arr (d : Nat) (h1 : 1 ≤ d) (h17 : d ≤ 17) (x : Sup) : ArrL (freshSh d 40) (volBuild (freshSh d 40) x) (fun _ _ => zeroSec) (fun _ => Just fun _ => zeroSec) := by
 obtain ⟨e1, e2⟩ := fresh_devs d x
 refine ⟨fun i hi => ?_, fun i hi => ?_⟩
 all_goals
  rw [e1] at hi
  rw [e2 i hi]
 exact fresh_lives d i h1 h17 hi
def madeSup (m st l : Int) : Sup := { newSup m st l with gen := 1 }
theorem make_fresh (d : Nat) (h1 : 1 ≤ d) (h17 : d ≤ 17) (m st l : Int) (hb : buildOk (freshSh d 40) (newSup m st l) = true) :
  (volMake (freshSh d 40) (volBuild (freshSh d 40) (newSup m st l))).1 = 0 ∧ (volMake (freshSh d 40) (volBuild (freshSh d 40) (newSup m st l))).2.1.stops = false ∧
  (volMake (freshSh d 40) (volBuild (freshSh d 40) (newSup m st l))).2.2.sup = madeSup m st l ∧ (volMake (freshSh d 40) (volBuild (freshSh d 40) (newSup m st l))).2.2.opens = [] ∧ (volMake (freshSh d 40) (volBuild (freshSh d 40) (newSup m st l))).2.2.used = [] ∧
  (volMake (freshSh d 40) (volBuild (freshSh d 40) (newSup m st l))).2.2.devs.length = d ∧ (∀ i, i < d → ((volMake (freshSh d 40) (volBuild (freshSh d 40) (newSup m st l))).2.2.dev i).size = 37) ∧
  ArrL (volMake (freshSh d 40) (volBuild (freshSh d 40) (newSup m st l))).2.1 (volMake (freshSh d 40) (volBuild (freshSh d 40) (newSup m st l))).2.2 (saidU (fun _ _ => zeroSec) (madeSup m st l) 0 d) (fun j => Just (saidU (fun _ _ => zeroSec) (madeSup m st l) 0 d j)) := by
 obtain ⟨k1, k2, k3, k4, k5, k6, k7, k8⟩ := of_decide_eq_true hb
 obtain ⟨e1, e2⟩ := fresh_devs d (newSup m st l)
 have hA := fresh_arr d h1 h17 (newSup m st l)
 have hon : (freshSh d 40).stops = false := rfl
 have hnd : anyDead (freshSh d 40) = false := by
  unfold anyDead
  rw [List.any_eq_false]
  intro x hx
  have : x = freshDisk 40 := List.eq_of_mem_replicate hx
  rw [this]
  simp [freshDisk]
 have hbk : blocksI ((freshSh d 40).sectors : Nat) = 37 := by show blocksI ((40 : Nat) : Int) = 37; decide
 have hdl : (freshSh d 40).disks.length = d := by simp [freshSh]
 rw [hbk] at k8
 rw [hdl] at k7
 have hV1 : (volBuild (freshSh d 40) (newSup m st l)).sup = newSup m st l := rfl
 have hV2 : (volBuild (freshSh d 40) (newSup m st l)).opens = [] := rfl
 have hV3 : (volBuild (freshSh d 40) (newSup m st l)).used = [] := rfl
 have hbs : (volBuild (freshSh d 40) (newSup m st l)).base + (volBuild (freshSh d 40) (newSup m st l)).stripes ≤ 37 := by
  unfold VolM.base VolM.stripes
  rw [hV1]
  have : (newSup m st l).logs = l := rfl
  have : (newSup m st l).stripes = st := rfl
  have h3 : 1 ≤ l := k1
  have h4 : 1 ≤ st := k3
  have h5 : 2 + 2 * l + st ≤ 37 := k8
  omega
 unfold volMake
 rw [hnd, if_neg Bool.false_ne_true]
 dsimp only
 generalize volBuild (freshSh d 40) (newSup m st l) = V at *
 generalize freshSh d 40 = s at *
 obtain ⟨a1, a2, a3, a4⟩ := zeroFrom_on (V := V) V.devs.length 0 s (by omega) (fun i hi k hk => ⟨rfl, by rw [e2 i (by omega)]; show k < 37; omega⟩) hA hon
 rw [if_pos a1, a2]
 generalize (zeroFrom s V 0 V.devs.length).2.1 = s1 at *
 obtain ⟨b1, b2, b3, b4, b5⟩ := a4.sync a3
 rw [if_pos b1]
 have hsz : ∀ j, j < d → ((volSync s1 V).2.2.dev j).size = 37 := fun j hj => by rw [b4, e2 j hj]
 generalize volSync s1 V = y at *
 obtain ⟨y0, s2, V2⟩ := y
 dsimp only at *
 have hsup : V2.sup = newSup m st l := b3.sup.trans hV1
 have hln : V2.devs.length = d := b3.len.trans e1
 unfold volSave
 have hg0 : V2.sup.gen < 4611686018427387904 := by rw [hsup]; show (0 : Int) < _; omega
 rw [if_pos hg0]
 dsimp only
 have hnx : nextSup V2 V2.sup = madeSup m st l := by rw [hsup]; unfold nextSup; rw [hsup]; rfl
 rw [hnx]
 obtain ⟨c1, c2, c3, c4, c5⟩ := ArrL.sayAll (madeSup m st l) V2.devs.length 0 s2 V2 _ (by omega) (fun j hj => decide_eq_true (by
  have h3 : 3 ≤ m := k5
  have h4 : m ≤ 16 := k6
  have h5 : 1 ≤ st := k3
  have h6 : st ≤ 1024 := k4
  have h7 : 1 ≤ l := k1
  have h8 : l ≤ 8 := k2
  have h9 : (d : Int) = m ∨ (d : Int) = m + 1 := k7
  unfold RightP madeSup newSup
  dsimp only
  omega)) (fun j hj => by rw [hsz j (by omega)]; omega) b5 b2
 rw [if_pos c1]
 dsimp only
 rw [hln] at c1 c2 c3 c4 c5 ⊢
 refine ⟨rfl, c2, rfl, (c3.opens.trans b3.opens).trans hV2, (c3.used.trans b3.used).trans hV3, c3.len.trans hln, fun i hi => (c4 i).trans (hsz i hi), ⟨c5.dd, c5.live⟩⟩
end
end
section
open Go.RowKit
section
theorem xorB_l128 {a b : Bytes} (ha : a.length = 128) (hb : b.length = 128) : (xorB a b).length = 128 := by simp [xorB, ha, hb]
theorem xorB_comm (a b : Bytes) : xorB a b = xorB b a := by
 unfold xorB
 induction a generalizing b with
 | nil => cases b <;> rfl
 | cons x a ih =>
  cases b with
  | nil => rfl
  | cons y b => simp only [List.zipWith_cons_cons, ih b, UInt8.xor_comm]
theorem xorB_assoc (a b c : Bytes) : xorB (xorB a b) c = xorB a (xorB b c) := by
 unfold xorB
 induction a generalizing b c with
 | nil => cases b <;> cases c <;> rfl
 | cons x a ih =>
  cases b with
  | nil => cases c <;> rfl
  | cons y b =>
   cases c with
   | nil => rfl
   | cons z c => simp only [List.zipWith_cons_cons, ih b c, UInt8.xor_assoc]
theorem xorB_zero {a : Bytes} (ha : a.length = 128) : xorB a zeroSec = a := by
 have : ∀ (n : Nat) (a : Bytes), a.length = n → List.zipWith (fun x1 x2 => x1 ^^^ x2) a (List.replicate n (0 : UInt8)) = a := by
  intro n
  induction n with
  | zero => intro a h; rw [List.length_eq_zero_iff.1 h]; rfl
  | succ n ih =>
   intro a h
   cases a with
   | nil => simp at h
   | cons x a => simp only [List.replicate_succ, List.zipWith_cons_cons, UInt8.xor_zero, ih a (by simpa using h)]
 exact this 128 a ha
theorem xorB_self {a : Bytes} (ha : a.length = 128) : xorB a a = zeroSec := by
 have : ∀ (n : Nat) (a : Bytes), a.length = n → List.zipWith (fun x1 x2 => x1 ^^^ x2) a a = List.replicate n (0 : UInt8) := by
  intro n
  induction n with
  | zero => intro a h; rw [List.length_eq_zero_iff.1 h]; rfl
  | succ n ih =>
   intro a h
   cases a with
   | nil => simp at h
   | cons x a => simp only [List.replicate_succ, List.zipWith_cons_cons, UInt8.xor_self, ih a (by simpa using h)]
 exact this 128 a ha
theorem xorB_cancel {a b : Bytes} (ha : a.length = 128) (hb : b.length = 128) : xorB (xorB a b) b = a := by rw [xorB_assoc, xorB_self hb, xorB_zero ha]
theorem zeroSec_l : zeroSec.length = 128 := by simp [zeroSec]
def xorF (f : Nat → Bytes) (l : List Nat) (z : Bytes) : Bytes := l.foldl (fun a m => xorB a (f m)) z
variable {f g : Nat → Bytes}
theorem xorF_len (l : List Nat) (hf : ∀ k ∈ l, (f k).length = 128) : ∀ z : Bytes, z.length = 128 → (xorF f l z).length = 128 := by
 induction l with
 | nil => intro z hz; exact hz
 | cons k l ih => intro z hz; exact ih (fun j hj => hf j (.tail _ hj)) _ (xorB_l128 hz (hf k (.head _)))
theorem xorF_congr (l : List Nat) (h : ∀ k ∈ l, f k = g k) : ∀ z, xorF f l z = xorF g l z := by
 induction l with
 | nil => intro z; rfl
 | cons k l ih => intro z; show xorF f l (xorB z (f k)) = xorF g l (xorB z (g k)); rw [h k (.head _)]; exact ih (fun j hj => h j (.tail _ hj)) _
theorem xorF_out (l : List Nat) : ∀ z x, xorF f l (xorB z x) = xorB (xorF f l z) x := by
 induction l with
 | nil => intro z x; rfl
 | cons k l ih =>
  intro z x
  show xorF f l (xorB (xorB z x) (f k)) = xorB (xorF f l (xorB z (f k))) x
  rw [xorB_assoc, xorB_comm x, ← xorB_assoc, ih]
theorem xorF_split (l : List Nat) (k : Nat) (hn : l.Nodup) (hk : k ∈ l) (z : Bytes) : xorF f l z = xorB (xorF f (l.filter fun j => !(j == k)) z) (f k) := by
 induction l generalizing z with
 | nil => cases hk
 | cons j l ih =>
  obtain ⟨hj, hn⟩ := List.nodup_cons.1 hn
  by_cases e : j = k
  ·subst e
   have : (j :: l).filter (fun i => !(i == j)) = l := by
    rw [List.filter_cons_of_neg (by simp)]
    exact List.filter_eq_self.2 fun i hi => by
     have : i ≠ j := fun e => hj (e ▸ hi)
     simpa using this
   rw [this]
   exact xorF_out l z (f j)
  ·rw [List.filter_cons_of_pos (by simpa using e)]
   have hk' : k ∈ l := by
    rcases List.mem_cons.1 hk with h | h
    ·exact absurd h.symm e
    ·exact h
   exact ih hn hk' (xorB z (f j))
theorem xorF_lost (l : List Nat) (k : Nat) (hn : l.Nodup) (hk : k ∈ l) (hf : ∀ j ∈ l, (f j).length = 128) (h0 : xorF f l zeroSec = zeroSec) : xorF f (l.filter fun j => !(j == k)) zeroSec = f k := by
 have h := xorF_split (f := f) l k hn hk zeroSec
 rw [h0] at h
 have hl := xorF_len (l.filter fun j => !(j == k)) (fun j hj => hf j (List.mem_filter.1 hj).1) zeroSec zeroSec_l
 have := congrArg (fun x => xorB x (f k)) h
 rw [xorB_cancel hl (hf k hk), xorB_comm, xorB_zero (hf k hk)] at this
 exact this.symm
theorem memL_mem {m st k : Nat} (hk : k < m) : k ∈ memL m st := by
 unfold memL
 refine List.mem_map.2 ⟨(k + (2 * m - parN m st - 1)) % m, List.mem_range.2 (Nat.mod_lt _ (by omega)), ?_⟩
 have hp := parN_lt (m := m) (st := st) (by omega)
 rw [Nat.add_mod, Nat.mod_mod, ← Nat.add_mod]
 have : parN m st + 1 + (k + (2 * m - parN m st - 1)) = k + m * 2 := by omega
 rw [this, Nat.add_mul_mod_self_left]
 exact Nat.mod_eq_of_lt hk
theorem memL_inj {m st i j : Nat} (hi : i < m) (hj : j < m) (h : (parN m st + 1 + i) % m = (parN m st + 1 + j) % m) : i = j := by
 have hp := parN_lt (m := m) (st := st) (by omega)
 generalize parN m st + 1 = a at *
 have h1 := Nat.div_add_mod (a + i) m
 have h2 := Nat.div_add_mod (a + j) m
 rw [h] at h1
 generalize (a + i) / m = q at *
 generalize (a + j) / m = r at *
 generalize (a + j) % m = x at *
 rcases Nat.lt_trichotomy q r with hqr | hqr | hqr
 ·have : m * (q + 1) ≤ m * r := Nat.mul_le_mul_left m hqr
  rw [Nat.mul_add] at this
  omega
 ·subst hqr; omega
 ·have : m * (r + 1) ≤ m * q := Nat.mul_le_mul_left m hqr
  rw [Nat.mul_add] at this
  omega
theorem memL_nodup (m st : Nat) : (memL m st).Nodup := by
 unfold memL
 refine List.pairwise_map.2 (List.Pairwise.imp_of_mem ?_ List.nodup_range)
 intro i j hi hj hij e
 exact hij (memL_inj (List.mem_range.1 hi) (List.mem_range.1 hj) e)
theorem memL_data {m st : Nat} (hm : 0 < m) : (memL m st).take (m - 1) = (memL m st).filter fun k => !(k == parN m st) := by
 have hl : memL m st = (memL m st).take (m - 1) ++ [parN m st] := by
  have h := List.take_append_drop (m - 1) (memL m st)
  have hd : (memL m st).drop (m - 1) = [parN m st] := by
   have hlen : (memL m st).length = m := by simp [memL]
   rw [List.drop_eq_getElem_cons (by omega), List.drop_eq_nil_of_le (by omega)]
   congr 1
   unfold memL
   simp only [List.getElem_map, List.getElem_range]
   have hp := parN_lt (m := m) (st := st) hm
   have : parN m st + 1 + (m - 1) = parN m st + m := by omega
   rw [this, Nat.add_mod_right, Nat.mod_eq_of_lt hp]
  rw [hd] at h
  exact h.symm
 have hn := memL_nodup m st
 rw [hl] at hn
 have hnot : parN m st ∉ (memL m st).take (m - 1) := by
  intro h
  have := (List.nodup_append.1 hn).2.2 _ h _ (List.mem_singleton.2 rfl)
  exact this rfl
 conv => rhs; rw [hl]
 rw [List.filter_append, List.filter_eq_self.2 (fun i hi => by
  have : i ≠ parN m st := fun e => hnot (e ▸ hi)
  simpa using this)]
 simp
end
end
section
open Go.RowKit
section
variable {s s' : ShM} {V V' : VolM} {U D : Nat → Nat → Bytes} {M : Nat → Nat → Bytes → Prop}
def Ticked (s s' : ShM) : Prop := s'.left = s.left ∧ s'.stops = s.stops ∧ s'.disks = s.disks ∧ s'.sectors = s.sectors
theorem Ticked.refl (s : ShM) : Ticked s s := ⟨rfl, rfl, rfl, rfl⟩
theorem Ticked.trans {s s' s'' : ShM} (h : Ticked s s') (k : Ticked s' s'') : Ticked s s'' := ⟨k.1.trans h.1, k.2.1.trans h.2.1, k.2.2.1.trans h.2.2.1, k.2.2.2.trans h.2.2.2⟩
theorem Ticked.tick2 (s : ShM) : Ticked s s.tick.tick := ⟨rfl, rfl, rfl, rfl⟩
theorem Ticked.disk (h : Ticked s s') (d : Nat) : s'.disk d = s.disk d := by simp only [ShM.disk, h.2.2.1]
theorem Ticked.off (h : Ticked s s') : s'.off = s.off := by simp only [ShM.off, h.1, h.2.1]
theorem Ticked.ok (h : Ticked s s') (o : s.Ok) : s'.Ok := ⟨by rw [h.2.2.1]; exact o.disks1, by rw [h.2.2.1]; exact o.disks17, by rw [h.2.2.2]; exact o.sectors1, by rw [h.2.2.2]; exact o.sectors4096, by rw [h.2.2.1, h.2.2.2]; exact o.sure, by rw [h.2.2.1]; exact o.sec, by rw [h.2.2.1, h.2.2.2]; exact o.waits⟩
theorem Lives.ticked {E : DevM} {W : Nat → Bytes} {m : Nat → Bytes → Prop} (h : Lives s E W m) (t : Ticked s s') : Lives s' E W m :=
 ⟨⟨⟨t.ok h.p.pow.ok, by rw [t.2.2.1]; exact h.p.pow.disk, by rw [t.disk]; exact h.p.pow.alive⟩, by rw [t.2.2.2]; exact h.p.size, fun e => by rw [t.disk]; exact h.p.room e⟩, by rw [t.disk]; exact h.live⟩
structure ArrS (s : ShM) (V : VolM) (U : Nat → Nat → Bytes) (M : Nat → Nat → Bytes → Prop) : Prop where
 ok : s.Ok
 slen : s.disks.length = V.devs.length
 dd : ∀ i, i < V.devs.length → (V.dev i).disk = i
 sz : ∀ i, i < V.devs.length → ((V.dev i).size : Int) = blocksI s.sectors
 room : Room 100 s
 live : ∀ i, i < V.devs.length → (s.disk i).dead = false → Lives s (V.dev i) (U i) (M i)
theorem ArrS.ticked (h : ArrS s V U M) (t : Ticked s s') : ArrS s' V U M :=
 ⟨t.ok h.ok, by rw [t.2.2.1]; exact h.slen, h.dd, fun i hi => by rw [t.2.2.2]; exact h.sz i hi, fun e => by rw [t.disk]; exact h.room e, fun i hi hd => (h.live i hi (by rw [← t.disk]; exact hd)).ticked t⟩
theorem ArrS.read (h : ArrS s V U M) {i : Nat} (hi : i < V.devs.length) {n : Nat} (hn : n < (V.dev i).size) :
  devRead s (V.dev i) (n : Int) = if s.off then ([], 3, s) else if (s.disk i).dead then ([], 4, s) else (U i n, 0, s.tick.tick) := by
 cases hd : (s.disk i).dead with
 | false => exact (h.live i hi hd).read2 hn
 | true =>
  have hz := h.sz i hi
  have h1 := h.ok.sectors1
  have hp : sumAt n < s.sectors := by
   unfold blocksI at hz
   rw [if_neg (by omega)] at hz
   unfold sumAt
   omega
  have hl := h.slen
  have hh : s.has ((V.dev i).disk : Nat) (sumAt n : Nat) = true := by
   rw [h.dd i hi]
   simp only [ShM.has, decide_eq_true_eq]
   omega
  have hr : s.readR ((V.dev i).disk : Nat) (sumAt n : Nat) = if s.off then ([], 3, s) else ([], 4, s) := by
   unfold ShM.readR
   rw [hh, if_pos rfl, Int.toNat_natCast, h.dd i hi]
   unfold ShM.why
   rw [hd]
   cases s.off <;> rfl
  have hbd : (0 : Int) ≤ (n : Int) ∧ (n : Int) < ((V.dev i).size : Int) := by omega
  have hsec : devSector s (V.dev i) n = if s.off then ([], [], 3, s) else ([], [], 4, s) := by
   simp only [devSector, hbd, and_self, if_true, Int.toNat_natCast, hr]
   cases s.off <;> rfl
  simp only [devRead, hsec]
  cases s.off <;> rfl
theorem disk_plain (hsp : V.sup.spare < 0) (j st : Nat) : V.diskOf j st = j := by
 unfold VolM.diskOf
 rw [if_neg (by omega)]
theorem tog_on (hsp : V.sup.spare < 0) (st : Nat) : ∀ (l : List Nat) (s : ShM) (sum : Bytes), ArrS s V U M → s.off = false → (∀ j ∈ l, j < V.devs.length ∧ V.base + st < (V.dev j).size) → (∀ j ∈ l, (s.disk j).dead = false) →
  (togL s V st sum l).1 = xorF (fun j => U j (V.base + st)) l sum ∧ (togL s V st sum l).2.1 = 0 ∧ Ticked s (togL s V st sum l).2.2
 | [], s, sum, h, ho, hl, hd => ⟨rfl, rfl, Ticked.refl s⟩
 | j :: l, s, sum, h, ho, hl, hd => by
  obtain ⟨h1, h2⟩ := hl j (.head _)
  have e := h.read h1 h2
  rw [ho, hd j (.head _), if_neg Bool.false_ne_true, if_neg Bool.false_ne_true] at e
  have t := Ticked.tick2 s
  obtain ⟨k1, k2, k3⟩ := tog_on hsp st l s.tick.tick (xorB sum (U j (V.base + st))) (h.ticked t) (t.off.trans ho) (fun i hi => hl i (.tail _ hi)) (fun i hi => by rw [t.disk]; exact hd i (.tail _ hi))
  have hg : volGet s V j st = (U j (V.base + st), 0, s.tick.tick) := by unfold volGet; rw [disk_plain hsp, e]
  unfold togL
  dsimp only
  rw [hg]
  dsimp only
  rw [if_neg (by omega), if_neg (by omega)]
  exact ⟨k1, k2, t.trans k3⟩
theorem tog_dead (hsp : V.sup.spare < 0) (st : Nat) : ∀ (l : List Nat) (s : ShM) (sum : Bytes), ArrS s V U M → s.off = false → (∀ j ∈ l, j < V.devs.length ∧ V.base + st < (V.dev j).size) → (∃ j ∈ l, (s.disk j).dead = true) →
  (togL s V st sum l).1 = [] ∧ (togL s V st sum l).2.1 = 10 ∧ Ticked s (togL s V st sum l).2.2
 | [], s, sum, h, ho, hl, hd => by obtain ⟨j, hj, _⟩ := hd; cases hj
 | j :: l, s, sum, h, ho, hl, hd => by
  obtain ⟨h1, h2⟩ := hl j (.head _)
  have e := h.read h1 h2
  rw [ho, if_neg Bool.false_ne_true] at e
  have hg : volGet s V j st = devRead s (V.dev j) ((V.base + st : Nat) : Int) := by unfold volGet; rw [disk_plain hsp]
  cases hdj : (s.disk j).dead with
  | true =>
   rw [hdj, if_pos rfl] at e
   unfold togL
   dsimp only
   rw [hg, e]
   dsimp only
   rw [if_neg (by omega), if_pos (by omega)]
   exact ⟨rfl, rfl, Ticked.refl s⟩
  | false =>
   rw [hdj, if_neg Bool.false_ne_true] at e
   have t := Ticked.tick2 s
   obtain ⟨k1, k2, k3⟩ := tog_dead hsp st l s.tick.tick (xorB sum (U j (V.base + st))) (h.ticked t) (t.off.trans ho) (fun i hi => hl i (.tail _ hi)) (by
    obtain ⟨i, hi, hdi⟩ := hd
    rcases List.mem_cons.1 hi with rfl | hi
    ·rw [hdj] at hdi; cases hdi
    ·exact ⟨i, hi, by rw [t.disk]; exact hdi⟩)
   unfold togL
   dsimp only
   rw [hg, e]
   dsimp only
   rw [if_neg (by omega), if_neg (by omega)]
   exact ⟨k1, k2, t.trans k3⟩
theorem tog_off (hsp : V.sup.spare < 0) (st : Nat) {l : List Nat} {sum : Bytes} (hne : l ≠ []) (h : ArrS s V U M) (ho : s.off = true) (hl : ∀ j ∈ l, j < V.devs.length ∧ V.base + st < (V.dev j).size) :
  togL s V st sum l = ([], 3, s) := by
 cases l with
 | nil => exact absurd rfl hne
 | cons j l =>
  obtain ⟨h1, h2⟩ := hl j (.head _)
  have e := h.read h1 h2
  rw [ho, if_pos rfl] at e
  have hg : volGet s V j st = ([], 3, s) := by unfold volGet; rw [disk_plain hsp, e]
  unfold togL
  dsimp only
  rw [hg]
  dsimp only
  rw [if_pos rfl]
theorem memL_below {m st k : Nat} (h : k ∈ memL m st) : k < m := by
 obtain ⟨j, hj, rfl⟩ := List.mem_map.1 h
 exact Nat.mod_lt _ (by have := List.mem_range.1 hj; omega)
structure Stripes (s : ShM) (V : VolM) (U D : Nat → Nat → Bytes) : Prop where
 sp : V.sup.spare < 0
 m3 : 3 ≤ V.m
 len : V.m ≤ V.devs.length
 room : ∀ j, j < V.devs.length → V.base + V.stripes ≤ (V.dev j).size
 dl : ∀ st, st < V.stripes → ∀ j, j < V.m → (D j st).length = 128
 zero : ∀ st, st < V.stripes → xorF (fun j => D j st) (memL V.m st) zeroSec = zeroSec
 same : ∀ st, st < V.stripes → ∀ j, j < V.m → (s.disk j).dead = false → U j (V.base + st) = D j st
def One1 (s : ShM) (V : VolM) : Prop := ∀ i j, i < V.m → j < V.m → (s.disk i).dead = true → (s.disk j).dead = true → i = j
theorem Stripes.lost (h : Stripes s V U D) (a : ArrS s V U M) (ho : s.off = false) (h1 : One1 s V) {j st : Nat} (hj : j < V.m) (hst : st < V.stripes) (hd : (s.disk j).dead = true) :
  (volLost s V j st).1 = D j st ∧ (volLost s V j st).2.1 = 0 ∧ Ticked s (volLost s V j st).2.2 := by
 have hmem : ∀ i ∈ (memL V.m st).filter (fun k => !(k == j)), i < V.m ∧ i ≠ j := fun i hi => by
  obtain ⟨k1, k2⟩ := List.mem_filter.1 hi
  exact ⟨memL_below k1, by simpa using k2⟩
 have hal : ∀ i ∈ (memL V.m st).filter (fun k => !(k == j)), (s.disk i).dead = false := fun i hi => by
  obtain ⟨k1, k2⟩ := hmem i hi
  cases hdi : (s.disk i).dead with
  | false => rfl
  | true => exact absurd (h1 i j k1 hj hdi hd) k2
 obtain ⟨e1, e2, e3⟩ := tog_on h.sp st ((memL V.m st).filter fun k => !(k == j)) s zeroSec a ho (fun i hi => by
  have := (hmem i hi).1
  have := h.len
  have := h.room i (by omega)
  exact ⟨by omega, by omega⟩) hal
 refine ⟨?_, e2, e3⟩
 show (togL s V st zeroSec _).1 = _
 rw [e1, xorF_congr _ (g := fun i => D i st) (fun i hi => h.same st hst i (hmem i hi).1 (hal i hi))]
 exact xorF_lost (f := fun i => D i st) (memL V.m st) j (memL_nodup _ _) (memL_mem hj) (fun i hi => h.dl st hst i (memL_below hi)) (h.zero st hst)
theorem spot_in {m b n : Nat} (hm : 3 ≤ m) (hb : b < n * (m - 1)) : (spotN m b).stripe < n ∧ (spotN m b).member < m ∧ (spotN m b).place < m - 1 :=
 ⟨Nat.div_lt_of_lt_mul (by rw [Nat.mul_comm]; exact hb), Nat.mod_lt _ (by omega), Nat.mod_lt _ (by omega)⟩
theorem Stripes.readOn (h : Stripes s V U D) (a : ArrS s V U M) (ho : s.off = false) (h1 : One1 s V) {b : Nat} (hb : b < V.size) :
  (volRead s V (b : Int)).1 = D (spotN V.m b).member (spotN V.m b).stripe ∧ (volRead s V (b : Int)).2.1 = 0 ∧ Ticked s (volRead s V (b : Int)).2.2.1 ∧ (volRead s V (b : Int)).2.2.2 = V := by
 obtain ⟨q1, q2, _⟩ := spot_in h.m3 hb
 have hr := h.room (spotN V.m b).member (by have := h.len; omega)
 have e := a.read (i := (spotN V.m b).member) (by have := h.len; omega) (n := V.base + (spotN V.m b).stripe) (by omega)
 rw [ho, if_neg Bool.false_ne_true] at e
 have hg : volGet s V (spotN V.m b).member (spotN V.m b).stripe = devRead s (V.dev (spotN V.m b).member) ((V.base + (spotN V.m b).stripe : Nat) : Int) := by unfold volGet; rw [disk_plain h.sp]
 unfold volRead
 rw [if_pos (by omega), Int.toNat_natCast]
 dsimp only
 rw [hg, e]
 cases hd : (s.disk (spotN V.m b).member).dead with
 | false =>
  rw [if_neg Bool.false_ne_true]
  dsimp only
  rw [if_pos (.inl rfl)]
  exact ⟨h.same _ q1 _ q2 hd, rfl, Ticked.tick2 s, rfl⟩
 | true =>
  rw [if_pos rfl]
  dsimp only
  rw [if_neg (by omega)]
  obtain ⟨k1, k2, k3⟩ := h.lost a ho h1 q2 q1 hd
  rw [if_pos k2, if_neg (by omega)]
  exact ⟨k1, rfl, k3, rfl⟩
theorem Stripes.readOff (h : Stripes s V U D) (a : ArrS s V U M) (ho : s.off = true) {b : Nat} (hb : b < V.size) : volRead s V (b : Int) = ([], 3, s, V) := by
 obtain ⟨q1, q2, _⟩ := spot_in h.m3 hb
 have hr := h.room (spotN V.m b).member (by have := h.len; omega)
 have e := a.read (i := (spotN V.m b).member) (by have := h.len; omega) (n := V.base + (spotN V.m b).stripe) (by omega)
 rw [ho, if_pos rfl] at e
 have hg : volGet s V (spotN V.m b).member (spotN V.m b).stripe = devRead s (V.dev (spotN V.m b).member) ((V.base + (spotN V.m b).stripe : Nat) : Int) := by unfold volGet; rw [disk_plain h.sp]
 unfold volRead
 rw [if_pos (by omega), Int.toNat_natCast]
 dsimp only
 rw [hg, e]
 dsimp only
 rw [if_pos (.inr rfl)]
end
end
section
open Go.RowKit
section
variable {s s' : ShM} {D D' : DevM} {U : Nat → Bytes} {M : Nat → Bytes → Prop}
def SlotB (U : Nat → Bytes) (k : Nat) (o : Option Rec) : Prop := match o with
 | some r => mayB r = true ∧ U (2 + 2 * k) = hdBytes r ∧ U (2 + 2 * k + 1) = r.part
 | none => U (2 + 2 * k) = zeroSec
theorem SlotB.upd {k n : Nat} {b : Bytes} {o : Option Rec} (h : SlotB U k o) (h1 : n ≠ 2 + 2 * k) (h2 : n ≠ 2 + 2 * k + 1) : SlotB (updV U n b) k o := by
 unfold SlotB at h ⊢
 cases o with
 | none =>
  dsimp only at h ⊢
  rw [updV, if_neg (fun e => h1 e.symm)]
  exact h
 | some r =>
  dsimp only at h ⊢
  rw [updV, if_neg (fun e => h1 e.symm), updV, if_neg (fun e => h2 e.symm)]
  exact h
theorem put_any (h : Lives s D U M) {slots k : Nat} (hz : 2 + 2 * slots ≤ D.size) (hk : k < slots) {r : Rec} (hm : mayB r = true) :
    Rest s (logPut s D slots (k : Int) r).2.1 D (logPut s D slots (k : Int) r).2.2 ∧
    (((logPut s D slots (k : Int) r).1 = 0 ∧ Lives (logPut s D slots (k : Int) r).2.1 (logPut s D slots (k : Int) r).2.2 (updV (updV U (2 + 2 * k + 1) r.part) (2 + 2 * k) (hdBytes r)) (Just1 (updV U (2 + 2 * k + 1) r.part) (2 + 2 * k) (hdBytes r))) ∨
     ((logPut s D slots (k : Int) r).1 = 3 ∧ Gone (logPut s D slots (k : Int) r).2.1 (logPut s D slots (k : Int) r).2.2 (fun n x => M n x ∨ x = U n ∨ (n = 2 + 2 * k + 1 ∧ x = r.part)))) := by
  have hso : slotOk slots (k : Int) = true := decide_eq_true ⟨by omega, by omega⟩
  have c2 : (2 + 2 * (k : Int) + 1) = ((2 + 2 * k + 1 : Nat) : Int) := by omega
  have c1 : (2 + 2 * (k : Int)) = ((2 + 2 * k : Nat) : Int) := by omega
  have hp : r.part.length = 128 := (of_decide_eq_true hm).2.2.2.2
  unfold logPut
  rw [if_pos hso, if_pos hm, c2, c1]
  have w1 := h.write2 (n := 2 + 2 * k + 1) (by omega) hp
  generalize devWrite s D ((2 + 2 * k + 1 : Nat) : Int) r.part = x at *
  obtain ⟨q1, w1⟩ := w1
  dsimp only
  rcases w1 with ⟨e1, l1⟩ | ⟨e1, g1⟩
  · rw [if_pos e1]
    have hsz : x.2.2.size = D.size := q1.size
    have w2 := l1.write2 (n := 2 + 2 * k) (by omega) (hdBytes_len r)
    generalize devWrite x.2.1 x.2.2 ((2 + 2 * k : Nat) : Int) (hdBytes r) = y at *
    obtain ⟨q2, w2⟩ := w2
    refine ⟨q1.trans q2, ?_⟩
    rcases w2 with ⟨e2, l2⟩ | ⟨e2, g2⟩
    · exact .inl ⟨e2, l2⟩
    · refine .inr ⟨e2, ?_⟩
      rcases g2 with g2 | g2
      · exact g2.mono fun n y hy => by
          rcases hy with hy | ⟨hy, hy2⟩
          · exact .inr (.inl hy)
          · exact .inr (.inr ⟨hy, hy2⟩)
      · exact g2.mono fun n y hy => by
          have hy : y = updV U (2 + 2 * k + 1) r.part n := hy
          unfold updV at hy
          split at hy
          · rename_i e; exact .inr (.inr ⟨e, hy⟩)
          · exact .inr (.inl hy)
  · rw [if_neg (by omega)]
    refine ⟨q1, .inr ⟨e1, ?_⟩⟩
    rcases g1 with g1 | g1
    · exact g1.mono fun n y hy => .inl hy
    · exact g1.mono fun n y hy => .inr (.inl hy)
theorem write_any (h : Lives s D U M) {n : Nat} (hn : n < D.size) {b : Bytes} (hb : b.length = 128) :
    Rest s (devWrite s D (n : Int) b).2.1 D (devWrite s D (n : Int) b).2.2 ∧
    (((devWrite s D (n : Int) b).1 = 0 ∧ Lives (devWrite s D (n : Int) b).2.1 (devWrite s D (n : Int) b).2.2 (updV U n b) (Just1 U n b)) ∨
     ((devWrite s D (n : Int) b).1 = 3 ∧ Gone (devWrite s D (n : Int) b).2.1 (devWrite s D (n : Int) b).2.2 (fun n x => M n x ∨ x = U n))) := by
  obtain ⟨q1, w1⟩ := h.write2 hn hb
  refine ⟨q1, w1.imp id fun ⟨e, g⟩ => ⟨e, ?_⟩⟩
  rcases g with g | g
  · exact g.mono fun n y hy => .inl hy
  · exact g.mono fun n y hy => .inr hy
theorem flush_any (h : Lives s D U M) : (s.off = true ∧ devFlush s D = (3, s, D)) ∨
  (s.off = false ∧ (devFlush s D).1 = 0 ∧ Lives (devFlush s D).2.1 (devFlush s D).2.2 U (Just U) ∧ Rest s (devFlush s D).2.1 D (devFlush s D).2.2) := by
 rcases h.flush2 with h | ⟨ho, s', e, hl, _, _, hr, _⟩
 ·exact .inl h
 ·refine .inr ⟨ho, ?_⟩
  rw [e]
  exact ⟨rfl, hl, hr⟩
theorem SlotB.put {k : Nat} {r : Rec} (hm : mayB r = true) : SlotB (updV (updV U (2 + 2 * k + 1) r.part) (2 + 2 * k) (hdBytes r)) k (some r) := by
 refine ⟨hm, ?_, ?_⟩
 ·simp [updV]
 ·show updV _ _ _ (2 + 2 * k + 1) = _
  rw [updV, if_neg (by omega), updV, if_pos rfl]
end
end
section
open Go.RowKit
section
variable {s s' : ShM} {V V' : VolM} {U : Nat → Nat → Bytes} {M M' : Nat → Nat → Bytes → Prop}
structure Fall (s : ShM) (V : VolM) (M : Nat → Nat → Bytes → Prop) : Prop where
 ok : s.Ok
 slen : s.disks.length = V.devs.length
 dd : ∀ i, i < V.devs.length → (V.dev i).disk = i
 sz : ∀ i, i < V.devs.length → ((V.dev i).size : Int) = blocksI s.sectors
 room : Room 100 s
 crash : ∀ i, i < V.devs.length → (s.disk i).dead = false → CrashL i (V.dev i).size (s.disk i).sure (s.disk i).waits (M i)
theorem Fall.mono (h : Fall s V M) (hm : ∀ i, i < V.devs.length → ∀ n x, M i n x → M' i n x) : Fall s V M' := ⟨h.ok, h.slen, h.dd, h.sz, h.room, fun i hi hd => (h.crash i hi hd).mono (hm i hi)⟩
theorem ArrS.fall (h : ArrS s V U M) : Fall s V M :=
 ⟨h.ok, h.slen, h.dd, h.sz, h.room, fun i hi hd => by
  have hl := h.live i hi hd
  have := hl.live.crash hl.p.sizes
  rw [h.dd i hi] at this
  exact this⟩
theorem Fall.pow (h : Fall s V M) {i : Nat} (hi : i < V.devs.length) (hd : (s.disk i).dead = false) : DPow s (V.dev i) :=
 ⟨⟨h.ok, by rw [h.dd i hi, h.slen]; exact hi, by rw [h.dd i hi]; exact hd⟩, h.sz i hi, h.room⟩
theorem crash_dead (s : ShM) (keep : List (List Int)) (i : Nat) : ((s.crash keep).disk i).dead = (s.disk i).dead := by
 simp only [ShM.crash, ShM.disk, List.getD_eq_getElem?_getD, List.getElem?_mapIdx]
 cases s.disks[i]? <;> rfl
theorem crash_waits (s : ShM) (keep : List (List Int)) (i : Nat) : ((s.crash keep).disk i).waits = [] := by
 simp only [ShM.crash, ShM.disk, List.getD_eq_getElem?_getD, List.getElem?_mapIdx]
 cases s.disks[i]? <;> rfl
theorem crash_len (s : ShM) (keep : List (List Int)) : (s.crash keep).disks.length = s.disks.length := by simp [ShM.crash]
theorem build_devs (s : ShM) (x : Sup) : (volBuild s x).devs.length = s.disks.length ∧ ∀ i, i < s.disks.length → (volBuild s x).dev i = ⟨i, (blocksI s.sectors).toNat, -1⟩ := by
 unfold volBuild devsOf
 refine ⟨by simp, fun i hi => ?_⟩
 simp [VolM.dev, List.getD_eq_getElem?_getD, hi]
theorem fall_crash (h : Fall s V M) (keep : List (List Int)) (x : Sup) :
  ∃ U', ArrS (s.crash keep) (volBuild (s.crash keep) x) U' (fun i => Just (U' i)) ∧ ∀ i, i < V.devs.length → (s.disk i).dead = false → ∀ n, n < (V.dev i).size → M i n (U' i n) := by
 obtain ⟨b1, b2⟩ := build_devs (s.crash keep) x
 have hcl := crash_len s keep
 have hsl := h.slen
 have hcs : (s.crash keep).sectors = s.sectors := rfl
 have hbi : 0 ≤ blocksI s.sectors := by
  by_cases hz : 0 < V.devs.length
  ·have := h.sz 0 hz; omega
  ·have := h.ok.disks1; omega
 have hroom : Room 100 (s.crash keep) := fun e => by rw [crash_waits]; exact Nat.zero_le _
 refine ⟨fun i n => rdS (s.crash keep) i (dataAt n), ⟨crash_ok h.ok keep, b1.symm, fun i hi => by rw [b2 i (by omega)], fun i hi => by rw [b2 i (by omega)]; show ((blocksI (s.crash keep).sectors).toNat : Int) = _; rw [hcs]; omega, hroom, fun i hi hd => ?_⟩, fun i hi hd n hn => ?_⟩
 ·rw [b1, hcl] at hi
  rw [crash_dead] at hd
  have hi' : i < V.devs.length := by omega
  have hz := h.sz i hi'
  have hg := crash_good (h.pow hi' hd) (by rw [h.dd i hi']; exact h.crash i hi' hd) keep
  rw [h.dd i hi'] at hg
  obtain ⟨g1, _, _, g4⟩ := hg
  rw [b2 i (by omega)]
  have hsz : (blocksI (s.crash keep).sectors).toNat = (V.dev i).size := by rw [hcs]; omega
  rw [hsz]
  have hrd : ∀ m, rdS (s.crash keep) i m = ((s.crash keep).disk i).sure.getD m [] := fun m => rd_nowait (crash_waits s keep i) m
  refine ⟨⟨⟨g1.ok, g1.disk, g1.alive⟩, by show ((V.dev i).size : Int) = _; rw [hcs]; exact hz, hroom⟩, ?_⟩
  show LiveL i (V.dev i).size ((s.crash keep).disk i).sure ((s.crash keep).disk i).waits (-1) _ _
  rw [crash_waits]
  refine ⟨fun k hk => ?_, .inl ⟨rfl, fun k hk => hrd _⟩⟩
  have := (g4 k hk).1
  rw [hrd, hrd] at this
  exact ⟨this, (hrd _).symm⟩
 ·have hg := crash_good (h.pow hi hd) (by rw [h.dd i hi]; exact h.crash i hi hd) keep
  rw [h.dd i hi] at hg
  exact (hg.2.2.2 n hn).2
theorem ArrS.step (h : ArrS s V U M) {i : Nat} (hi : i < V.devs.length) (hd : (s.disk i).dead = false) {E : DevM} {W : Nat → Bytes} {m : Nat → Bytes → Prop} (hr : Rest s s' (V.dev i) E) (hl : Lives s' E W m) : ArrS s' (V.setDev i E) (updM U i W) (updM M i m) := by
 have hlen : (V.setDev i E).devs.length = V.devs.length := by simp [VolM.setDev]
 have hoth : ∀ j, j ≠ i → s'.disk j = s.disk j := fun j e => hr.other j (by rw [h.dd i hi]; exact e)
 refine ⟨hl.p.pow.ok, by rw [hr.len, hlen]; exact h.slen, fun j hj => ?_, fun j hj => ?_, hl.p.room, fun j hj hdj => ?_⟩
 all_goals
  rw [hlen] at hj
  by_cases e : j = i
 ·subst e; rw [dev_set1 hi, hr.disk]; exact h.dd j hi
 ·rw [dev_set_ne e]; exact h.dd j hj
 ·subst e; rw [dev_set1 hi, hr.size, hr.sec]; exact h.sz j hi
 ·rw [dev_set_ne e, hr.sec]; exact h.sz j hj
 ·subst e; rw [dev_set1 hi, updM_same, updM_same]; exact hl
 ·rw [dev_set_ne e, updM_ne _ _ e, updM_ne _ _ e]
  exact (h.live j hj (by rw [← hoth j e]; exact hdj)).other hr hl (by rw [h.dd j hj, h.dd i hi]; exact e)
theorem ArrS.cut (h : ArrS s V U M) {i : Nat} (hi : i < V.devs.length) (hd : (s.disk i).dead = false) {E : DevM} {m : Nat → Bytes → Prop} (hr : Rest s s' (V.dev i) E) (hg : Gone s' E m) : Fall s' (V.setDev i E) (updM M i m) ∧ s'.off = true := by
 have hlen : (V.setDev i E).devs.length = V.devs.length := by simp [VolM.setDev]
 have hoth : ∀ j, j ≠ i → s'.disk j = s.disk j := fun j e => hr.other j (by rw [h.dd i hi]; exact e)
 refine ⟨⟨hg.p.pow.ok, by rw [hr.len, hlen]; exact h.slen, fun j hj => ?_, fun j hj => ?_, hg.p.room, fun j hj hdj => ?_⟩, hg.off⟩
 all_goals
  rw [hlen] at hj
  by_cases e : j = i
 ·subst e; rw [dev_set1 hi, hr.disk]; exact h.dd j hi
 ·rw [dev_set_ne e]; exact h.dd j hj
 ·subst e; rw [dev_set1 hi, hr.size, hr.sec]; exact h.sz j hi
 ·rw [dev_set_ne e, hr.sec]; exact h.sz j hj
 ·subst e
  rw [dev_set1 hi, updM_same]
  have := hg.crash
  rw [hr.disk, h.dd j hi] at this
  exact this
 ·rw [dev_set_ne e, updM_ne _ _ e, hoth j e]
  exact h.fall.crash j hj (by rw [← hoth j e]; exact hdj)
end
end
section
open Go.RowKit
section
variable {s s' s'' : ShM} {V V' V'' : VolM} {U : Nat → Nat → Bytes} {M M' : Nat → Nat → Bytes → Prop}
structure Kin (s : ShM) (V : VolM) (s' : ShM) (V' : VolM) : Prop where
 same : SameV V V'
 sz : ∀ j, (V'.dev j).size = (V.dev j).size
 sec : s'.sectors = s.sectors
 dead : ∀ j, (s'.disk j).dead = (s.disk j).dead
 stops : s'.stops = s.stops
theorem Kin.refl (s : ShM) (V : VolM) : Kin s V s V := ⟨SameV.refl V, fun _ => rfl, rfl, fun _ => rfl, rfl⟩
theorem Kin.trans (h : Kin s V s' V') (k : Kin s' V' s'' V'') : Kin s V s'' V'' := ⟨h.same.trans k.same, fun j => (k.sz j).trans (h.sz j), k.sec.trans h.sec, fun j => (k.dead j).trans (h.dead j), k.stops.trans h.stops⟩
theorem Kin.ticked (t : Ticked s s') (V : VolM) : Kin s V s' V := ⟨SameV.refl V, fun _ => rfl, t.2.2.2, fun j => by rw [t.disk], t.2.1⟩
theorem setDev_self {V : VolM} {i : Nat} (hi : i < V.devs.length) : V.setDev i (V.dev i) = V := by
 unfold VolM.setDev VolM.dev
 have : V.devs.set i (V.devs.getD i noDev) = V.devs := by
  rw [List.getD_eq_getElem?_getD, List.getElem?_eq_getElem hi, Option.getD_some, List.set_getElem_self]
 rw [this]
theorem crashL_lt {d size : Nat} {sure : List Bytes} {waits : List (Nat × Bytes)} {m m' : Nat → Bytes → Prop} (h : CrashL d size sure waits m) (hm : ∀ k, k < size → ∀ x, m k x → m' k x) : CrashL d size sure waits m' := fun keeps k hk => ⟨(h keeps k hk).1, hm k hk _ (h keeps k hk).2⟩
theorem kin_of (h : ArrS s V U M) {i : Nat} (hi : i < V.devs.length) (hd : (s.disk i).dead = false) {E : DevM} (hr : Rest s s' (V.dev i) E) (ha : (s'.disk i).dead = false) : Kin s V s' (V.setDev i E) := by
 refine ⟨SameV.setDev _ _ _, fun j => ?_, hr.sec, fun j => ?_, hr.stops⟩
 ·by_cases e : j = i
  ·subst e; rw [dev_set1 hi, hr.size]
  ·rw [dev_set_ne e]
 ·by_cases e : j = i
  ·subst e; rw [ha, hd]
  ·rw [hr.other j (by rw [h.dd i hi]; exact e)]
theorem ArrS.may (h : ArrS s V U M) {i : Nat} (hi : i < V.devs.length) (hd : (s.disk i).dead = false) {n : Nat} (hn : n < (V.dev i).size) : M i n (U i n) := (h.live i hi hd).may hn
theorem ArrS.failed (h : ArrS s V U M) {i : Nat} (hi : i < V.devs.length) (hd : (s.disk i).dead = false) {E : DevM} {m : Nat → Bytes → Prop} (hr : Rest s s' (V.dev i) E) (hg : Gone s' E m) (hm : ∀ n, n < (V.dev i).size → ∀ x, m n x → M' i n x) (hM : ∀ j, j ≠ i → ∀ n x, M j n x → M' j n x) :
  Kin s V s' (V.setDev i E) ∧ s'.off = true ∧ Fall s' (V.setDev i E) M' := by
 obtain ⟨hf, ho⟩ := h.cut hi hd hr hg
 have ha := hg.p.pow.alive
 rw [hr.disk, h.dd i hi] at ha
 have hk := kin_of h hi hd hr ha
 refine ⟨hk, ho, ⟨hf.ok, hf.slen, hf.dd, hf.sz, hf.room, fun j hj hdj => ?_⟩⟩
 have := hf.crash j hj hdj
 by_cases e : j = i
 ·subst e
  rw [updM_same] at this
  exact crashL_lt this fun k hk' x hx => hm k (by rw [← hk.sz]; exact hk') x hx
 ·rw [updM_ne _ _ e] at this
  exact this.mono (hM j e)
theorem dead_sector (h : ArrS s V U M) {i : Nat} (hi : i < V.devs.length) (hd : (s.disk i).dead = true) {n : Nat} (hn : n < (V.dev i).size) : devSector s (V.dev i) n = if s.off then ([], [], 3, s) else ([], [], 4, s) := by
 have hz := h.sz i hi
 have h1 := h.ok.sectors1
 have hp : sumAt n < s.sectors := by
  unfold blocksI at hz
  rw [if_neg (by omega)] at hz
  unfold sumAt
  omega
 have hl := h.slen
 have hh : s.has ((V.dev i).disk : Nat) (sumAt n : Nat) = true := by
  rw [h.dd i hi]
  simp only [ShM.has, decide_eq_true_eq]
  omega
 have hr : s.readR ((V.dev i).disk : Nat) (sumAt n : Nat) = if s.off then ([], 3, s) else ([], 4, s) := by
  unfold ShM.readR
  rw [hh, if_pos rfl, Int.toNat_natCast, h.dd i hi]
  unfold ShM.why
  rw [hd]
  cases s.off <;> rfl
 have hbd : (0 : Int) ≤ (n : Int) ∧ (n : Int) < ((V.dev i).size : Int) := by omega
 simp only [devSector, hbd, and_self, if_true, Int.toNat_natCast, hr]
 cases s.off <;> rfl
theorem dead_write (h : ArrS s V U M) {i : Nat} (hi : i < V.devs.length) (hd : (s.disk i).dead = true) {n : Nat} (hn : n < (V.dev i).size) {b : Bytes} (hb : b.length = 128) : devWrite s (V.dev i) n b = (if s.off then 3 else 4, s, V.dev i) := by
 unfold devWrite
 rw [if_pos hb, dead_sector h hi hd hn]
 cases s.off <;> rfl
theorem dead_flush (h : ArrS s V U M) {i : Nat} (hi : i < V.devs.length) (hd : (s.disk i).dead = true) : devFlush s (V.dev i) = (if s.off then 3 else 4, s, V.dev i) := by
 have hl := h.slen
 have hh : s.has ((V.dev i).disk : Nat) 0 = true := by
  rw [h.dd i hi]
  have := h.ok.sectors1
  simp only [ShM.has, decide_eq_true_eq]
  omega
 have hr : s.flushR ((V.dev i).disk : Nat) = (if s.off then 3 else 4, s) := by
  unfold ShM.flushR
  rw [hh, if_pos rfl, Int.toNat_natCast, h.dd i hi]
  unfold ShM.why
  rw [hd]
  cases s.off <;> rfl
 unfold devFlush
 rw [hr]
 cases s.off <;> rfl
theorem ArrS.wr (h : ArrS s V U M) {i : Nat} (hi : i < V.devs.length) {n : Nat} (hn : n < (V.dev i).size) {b : Bytes} (hb : b.length = 128) :
    Kin s V (volWr s V i (n : Int) b).2.1 (volWr s V i (n : Int) b).2.2 ∧
    (((s.disk i).dead = false ∧ (volWr s V i (n : Int) b).1 = 0 ∧ ArrS (volWr s V i (n : Int) b).2.1 (volWr s V i (n : Int) b).2.2 (updM U i (updV (U i) n b)) (updM M i (Just1 (U i) n b))) ∨
     ((s.disk i).dead = true ∧ s.off = false ∧ volWr s V i (n : Int) b = (4, s, V)) ∨
     ((volWr s V i (n : Int) b).1 = 3 ∧ (volWr s V i (n : Int) b).2.1.off = true ∧ Fall (volWr s V i (n : Int) b).2.1 (volWr s V i (n : Int) b).2.2 M)) := by
  unfold volWr
  cases hd : (s.disk i).dead with
  | false =>
    have hw := write_any (h.live i hi hd) hn hb
    generalize devWrite s (V.dev i) (n : Int) b = r at *
    obtain ⟨q, hw⟩ := hw
    dsimp only
    rcases hw with ⟨e, hl⟩ | ⟨e, hg⟩
    · have ha := hl.p.pow.alive
      rw [q.disk, h.dd i hi] at ha
      exact ⟨kin_of h hi hd q ha, .inl ⟨rfl, e, h.step hi hd q hl⟩⟩
    · obtain ⟨k1, k2, k3⟩ := h.failed (M' := M) hi hd q hg (fun k hk x hx => by
        rcases hx with hx | hx
        · exact hx
        · rw [hx]; exact h.may hi hd hk) (fun _ _ _ _ hx => hx)
      exact ⟨k1, .inr (.inr ⟨e, k2, k3⟩)⟩
  | true =>
    rw [dead_write h hi hd hn hb]
    dsimp only
    rw [setDev_self hi]
    refine ⟨Kin.refl s V, ?_⟩
    cases ho : s.off with
    | false => exact .inr (.inl ⟨rfl, rfl, rfl⟩)
    | true => exact .inr (.inr ⟨rfl, rfl, h.fall⟩)
theorem ArrS.fl (h : ArrS s V U M) {i : Nat} (hi : i < V.devs.length) :
    Kin s V (volFl s V i).2.1 (volFl s V i).2.2 ∧
    (((s.disk i).dead = false ∧ (volFl s V i).1 = 0 ∧ ArrS (volFl s V i).2.1 (volFl s V i).2.2 U (updM M i (Just (U i)))) ∨
     ((s.disk i).dead = true ∧ s.off = false ∧ volFl s V i = (4, s, V)) ∨
     (volFl s V i = (3, s, V) ∧ s.off = true)) := by
  unfold volFl
  cases hd : (s.disk i).dead with
  | false =>
    rcases flush_any (h.live i hi hd) with ⟨ho, e⟩ | ⟨ho, e, hl, q⟩
    · rw [e]
      dsimp only
      rw [setDev_self hi]
      exact ⟨Kin.refl s V, .inr (.inr ⟨rfl, ho⟩)⟩
    · have ha := hl.p.pow.alive
      rw [q.disk, h.dd i hi] at ha
      have := h.step hi hd q hl
      have eU : updM U i (U i) = U := by funext j; unfold updM; split <;> simp_all
      rw [eU] at this
      exact ⟨kin_of h hi hd q ha, .inl ⟨rfl, e, this⟩⟩
  | true =>
    rw [dead_flush h hi hd]
    dsimp only
    rw [setDev_self hi]
    refine ⟨Kin.refl s V, ?_⟩
    cases ho : s.off with
    | false => exact .inr (.inl ⟨rfl, rfl, rfl⟩)
    | true => exact .inr (.inr ⟨rfl, rfl⟩)
end
end
section
open Go.RowKit
section
variable {s s' s'' : ShM} {V V' V'' : VolM} {U : Nat → Nat → Bytes} {M M' : Nat → Nat → Bytes → Prop}
theorem ArrS.log (h : ArrS s V U M) {i : Nat} (hi : i < V.devs.length) {k : Nat} (hk : k < V.logs) (hz : 2 + 2 * V.logs ≤ (V.dev i).size) (hd : (s.disk i).dead = false) {r : Rec} (hm : mayB r = true) :
    Kin s V (volLog s V i k r).2.1 (volLog s V i k r).2.2 ∧
    (((volLog s V i k r).1 = 0 ∧ ArrS (volLog s V i k r).2.1 (volLog s V i k r).2.2 (updM U i (updV (updV (U i) (2 + 2 * k + 1) r.part) (2 + 2 * k) (hdBytes r))) (updM M i (Just1 (updV (U i) (2 + 2 * k + 1) r.part) (2 + 2 * k) (hdBytes r)))) ∨
     ((volLog s V i k r).1 = 3 ∧ (volLog s V i k r).2.1.off = true ∧ Fall (volLog s V i k r).2.1 (volLog s V i k r).2.2 (updM M i (fun n x => M i n x ∨ (n = 2 + 2 * k + 1 ∧ x = r.part))))) := by
  unfold volLog
  have hw := put_any (h.live i hi hd) hz hk hm
  generalize logPut s (V.dev i) V.logs (k : Int) r = q at *
  obtain ⟨hr, hw⟩ := hw
  dsimp only
  rcases hw with ⟨e, hl⟩ | ⟨e, hg⟩
  · have ha := hl.p.pow.alive
    rw [hr.disk, h.dd i hi] at ha
    exact ⟨kin_of h hi hd hr ha, .inl ⟨e, h.step hi hd hr hl⟩⟩
  · obtain ⟨k1, k2, k3⟩ := h.failed (M' := updM M i (fun n x => M i n x ∨ (n = 2 + 2 * k + 1 ∧ x = r.part))) hi hd hr hg (fun n hn x hx => by
      rw [updM_same]
      rcases hx with hx | hx | hx
      · exact .inl hx
      · rw [hx]; exact .inl (h.may hi hd hn)
      · exact .inr hx) (fun j hj n x hx => by rw [updM_ne _ _ hj]; exact hx)
    exact ⟨k1, .inr ⟨e, k2, k3⟩⟩
theorem ArrS.clr (h : ArrS s V U M) {i : Nat} (hi : i < V.devs.length) {k : Nat} (hk : k < V.logs) (hz : 2 + 2 * V.logs ≤ (V.dev i).size) :
    Kin s V (volClr s V i k).2.1 (volClr s V i k).2.2 ∧
    (((s.disk i).dead = false ∧ (volClr s V i k).1 = 0 ∧ ArrS (volClr s V i k).2.1 (volClr s V i k).2.2 (updM U i (updV (U i) (2 + 2 * k) zeroSec)) (updM M i (Just1 (U i) (2 + 2 * k) zeroSec))) ∨
     ((s.disk i).dead = true ∧ s.off = false ∧ volClr s V i k = (4, s, V)) ∨
     ((volClr s V i k).1 = 3 ∧ (volClr s V i k).2.1.off = true ∧ Fall (volClr s V i k).2.1 (volClr s V i k).2.2 M)) := by
  have hso : slotOk V.logs (k : Int) = true := decide_eq_true ⟨by omega, by omega⟩
  have c1 : (2 + 2 * (k : Int)) = ((2 + 2 * k : Nat) : Int) := by omega
  have e : volClr s V i k = volWr s V i ((2 + 2 * k : Nat) : Int) zeroSec := by
    unfold volClr volWr logClear
    rw [if_pos hso, c1]
  rw [e]
  exact h.wr hi (by omega) zeroSec_l
theorem sync_go : ∀ (f i : Nat) (s : ShM) (V : VolM) (M : Nat → Nat → Bytes → Prop), i + f = V.devs.length → ArrS s V U M →
    Kin s V (syncFrom s V i f).2.1 (syncFrom s V i f).2.2 ∧
    (((syncFrom s V i f).1 = 0 ∧ ∃ M', ArrS (syncFrom s V i f).2.1 (syncFrom s V i f).2.2 U M' ∧ ∀ j, (M' j = M j ∧ j < i) ∨ M' j = Just (U j) ∨ V.devs.length ≤ j ∨ (s.disk j).dead = true) ∨
     ((syncFrom s V i f).1 = 3 ∧ (syncFrom s V i f).2.1.off = true ∧ Fall (syncFrom s V i f).2.1 (syncFrom s V i f).2.2 M))
  | 0, i, s, V, M, hf, h => ⟨Kin.refl s V, .inl ⟨rfl, M, h, fun j => by
      by_cases e : j < i
      · exact .inl ⟨rfl, e⟩
      · exact .inr (.inr (.inl (by omega)))⟩⟩
  | f + 1, i, s, V, M, hf, h => by
    have hi : i < V.devs.length := by omega
    obtain ⟨k1, hc⟩ := h.fl hi
    unfold syncFrom
    dsimp only
    rcases hc with ⟨hd, e, ha⟩ | ⟨hd, ho, e⟩ | ⟨e, ho⟩
    · rw [if_pos (.inl e)]
      generalize volFl s V i = r at *
      obtain ⟨q1, q2⟩ := sync_go f (i + 1) r.2.1 r.2.2 _ (by rw [k1.same.len]; omega) ha
      refine ⟨k1.trans q1, ?_⟩
      rcases q2 with ⟨e2, M', a2, hm⟩ | ⟨e2, o2, f2⟩
      · refine .inl ⟨e2, M', a2, fun j => ?_⟩
        rcases hm j with ⟨h1, h2⟩ | h1 | h1 | h1
        · by_cases ej : j = i
          · subst ej; rw [updM_same] at h1; exact .inr (.inl h1)
          · rw [updM_ne _ _ ej] at h1; exact .inl ⟨h1, by omega⟩
        · exact .inr (.inl h1)
        · exact .inr (.inr (.inl (by rw [← k1.same.len]; exact h1)))
        · exact .inr (.inr (.inr (by rw [← k1.dead]; exact h1)))
      · refine .inr ⟨e2, o2, ⟨f2.ok, f2.slen, f2.dd, f2.sz, f2.room, fun j hj hdj => ?_⟩⟩
        have hj' : j < V.devs.length := by rw [← k1.same.len, ← q1.same.len]; exact hj
        have hz : ((syncFrom r.2.1 r.2.2 (i + 1) f).2.2.dev j).size = (V.dev j).size := (q1.sz j).trans (k1.sz j)
        have hdj' : (s.disk j).dead = false := by rw [← k1.dead, ← q1.dead]; exact hdj
        have := f2.crash j hj hdj
        by_cases ej : j = i
        · subst ej
          rw [updM_same] at this
          exact crashL_lt this fun k hk x hx => by
            have hx : x = U j k := hx
            rw [hx]
            exact h.may hj' hdj' (by rw [← hz]; exact hk)
        · rw [updM_ne _ _ ej] at this
          exact this
    · rw [e]
      dsimp only
      rw [if_pos (.inr rfl)]
      obtain ⟨q1, q2⟩ := sync_go f (i + 1) s V M (by omega) h
      refine ⟨q1, ?_⟩
      rcases q2 with ⟨e2, M', a2, hm⟩ | q2
      · refine .inl ⟨e2, M', a2, fun j => ?_⟩
        rcases hm j with ⟨h1, h2⟩ | h1
        · by_cases ej : j = i
          · subst ej; exact .inr (.inr (.inr hd))
          · exact .inl ⟨h1, by omega⟩
        · exact .inr h1
      · exact .inr q2
    · rw [e]
      dsimp only
      rw [if_neg (by omega)]
      exact ⟨Kin.refl s V, .inr ⟨rfl, ho, h.fall⟩⟩
theorem ArrS.sync (h : ArrS s V U M) :
    Kin s V (volSync s V).2.1 (volSync s V).2.2 ∧
    (((volSync s V).1 = 0 ∧ ArrS (volSync s V).2.1 (volSync s V).2.2 U (fun j => Just (U j))) ∨
     ((volSync s V).1 = 3 ∧ (volSync s V).2.1.off = true ∧ Fall (volSync s V).2.1 (volSync s V).2.2 M)) := by
  obtain ⟨k, q⟩ := sync_go V.devs.length 0 s V M (by omega) h
  refine ⟨k, ?_⟩
  rcases q with ⟨e, M', a, hm⟩ | q
  · refine .inl ⟨e, ⟨a.ok, a.slen, a.dd, a.sz, a.room, fun j hj hd => ?_⟩⟩
    have := a.live j hj hd
    rcases hm j with ⟨_, h1⟩ | h1 | h1 | h1
    · omega
    · rw [h1] at this; exact this
    · have hl : (volSync s V).2.2.devs.length = V.devs.length := k.same.len
      omega
    · have h2 : ((volSync s V).2.1.disk j).dead = (s.disk j).dead := k.dead j
      rw [h2, h1] at hd
      cases hd
  · exact .inr q
end
end
section
open Go.RowKit
section
variable {m st : Nat} {f g : Nat → Bytes}
def dataL (m st : Nat) : List Nat := (memL m st).take (m - 1)
def restL (m st j : Nat) : List Nat := (dataL m st).filter fun k => !(k == j)
structure Fits1 (m st : Nat) (f : Nat → Bytes) : Prop where
 len : ∀ j, j < m → (f j).length = 128
 zero : xorF f (memL m st) zeroSec = zeroSec
theorem dataL_mem {j : Nat} (hm : 0 < m) : j ∈ dataL m st ↔ j < m ∧ j ≠ parN m st := by
 unfold dataL
 rw [memL_data hm, List.mem_filter]
 constructor
 ·rintro ⟨h1, h2⟩; exact ⟨memL_below h1, by simpa using h2⟩
 ·rintro ⟨h1, h2⟩; exact ⟨memL_mem h1, by simpa using h2⟩
theorem dataL_nodup (m st : Nat) : (dataL m st).Nodup := (memL_nodup m st).sublist (List.take_sublist _ _)
theorem restL_mem {j k : Nat} (hm : 0 < m) : k ∈ restL m st j ↔ k < m ∧ k ≠ parN m st ∧ k ≠ j := by
 unfold restL
 rw [List.mem_filter, dataL_mem hm]
 constructor
 ·rintro ⟨⟨h1, h2⟩, h3⟩; exact ⟨h1, h2, by simpa using h3⟩
 ·rintro ⟨h1, h2, h3⟩; exact ⟨⟨h1, h2⟩, by simpa using h3⟩
theorem Fits1.par (h : Fits1 m st f) (hm : 0 < m) : xorF f (dataL m st) zeroSec = f (parN m st) := by
 unfold dataL
 rw [memL_data hm]
 exact xorF_lost (memL m st) (parN m st) (memL_nodup m st) (memL_mem (parN_lt hm)) (fun j hj => h.len j (memL_below hj)) h.zero
theorem rest_len (hm : 0 < m) (hl : ∀ j, j < m → (f j).length = 128) (j : Nat) : (xorF f (restL m st j) zeroSec).length = 128 :=
 xorF_len _ (fun k hk => hl k ((restL_mem hm).1 hk).1) _ zeroSec_l
theorem Fits1.part (h : Fits1 m st f) (hm : 0 < m) {j : Nat} (hj : j < m) (hp : j ≠ parN m st) : xorB (xorF f (restL m st j) zeroSec) (f j) = f (parN m st) := by
 rw [← h.par hm]
 exact (xorF_split (f := f) (dataL m st) j (dataL_nodup m st) ((dataL_mem hm).2 ⟨hj, hp⟩) zeroSec).symm
theorem Fits1.back (h : Fits1 m st f) (hm : 0 < m) {j : Nat} (hj : j < m) (hp : j ≠ parN m st) : xorB (f (parN m st)) (f j) = xorF f (restL m st j) zeroSec := by
 rw [← h.part hm hj hp, xorB_cancel (rest_len hm h.len j) (h.len j hj)]
theorem Fits1.upd (hl : ∀ j, j < m → (f j).length = 128) (hm : 0 < m) {j : Nat} (hj : j < m) (hp : j ≠ parN m st) (hg : ∀ k, k < m → k ≠ j → k ≠ parN m st → g k = f k) {b : Bytes} (hb : b.length = 128) (h1 : g j = b)
  (h2 : g (parN m st) = xorB (xorF f (restL m st j) zeroSec) b) : Fits1 m st g := by
 have hrl := rest_len (m := m) (st := st) hm hl j
 have hgl : ∀ k, k < m → (g k).length = 128 := fun k hk => by
  by_cases e1 : k = j
  ·rw [e1, h1]; exact hb
  ·by_cases e2 : k = parN m st
   ·rw [e2, h2]; exact xorB_l128 hrl hb
   ·rw [hg k hk e1 e2]; exact hl k hk
 refine ⟨hgl, ?_⟩
 have e1 := xorF_split (f := g) (memL m st) (parN m st) (memL_nodup m st) (memL_mem (parN_lt hm)) zeroSec
 rw [← memL_data hm] at e1
 have e2 := xorF_split (f := g) (dataL m st) j (dataL_nodup m st) ((dataL_mem hm).2 ⟨hj, hp⟩) zeroSec
 have e3 : xorF g (restL m st j) zeroSec = xorF f (restL m st j) zeroSec := xorF_congr _ (fun k hk => by
  obtain ⟨k1, k2, k3⟩ := (restL_mem hm).1 hk
  exact hg k k1 k3 k2) _
 rw [e1]
 show xorB (xorF g (dataL m st) zeroSec) _ = _
 rw [e2]
 show xorB (xorB (xorF g (restL m st j) zeroSec) (g j)) _ = _
 rw [e3, h1, h2]
 exact xorB_self (xorB_l128 hrl hb)
theorem place_mem {pl : Nat} (hm : 0 < m) (hpl : pl < m - 1) : (memL m st).getD pl 0 = (parN m st + 1 + pl) % m ∧ (parN m st + 1 + pl) % m < m ∧ (parN m st + 1 + pl) % m ≠ parN m st := by
 refine ⟨?_, Nat.mod_lt _ hm, fun e => ?_⟩
 ·unfold memL
  rw [List.getD_eq_getElem?_getD, List.getElem?_map, List.getElem?_range (by omega)]
  rfl
 ·have h2 : (parN m st + 1 + (m - 1)) % m = parN m st := by
   have hp := parN_lt (m := m) (st := st) hm
   have : parN m st + 1 + (m - 1) = parN m st + m := by omega
   rw [this, Nat.add_mod_right, Nat.mod_eq_of_lt hp]
  have := memL_inj (m := m) (st := st) (i := pl) (j := m - 1) (by omega) (by omega) (e.trans h2.symm)
  omega
end
end
section
open Go.RowKit
section
variable {s s' : ShM} {V V' : VolM} {U U' D D' : Nat → Nat → Bytes} {M M' : Nat → Nat → Bytes → Prop} {al : Nat → Bool}
def recM (V : VolM) (st : Nat) (r : Rec) : Nat := (memL V.m st).getD r.place.toNat 0
structure Cons (V : VolM) (al : Nat → Bool) (U D : Nat → Nat → Bytes) (st : Nat) : Prop where
 fits : Fits1 V.m st (fun j => D j st)
 data : ∀ j, j < V.m → j ≠ parN V.m st → al j = true → U j (V.base + st) = D j st
 recs : al (parN V.m st) = true → ∀ k, k < V.logs → ∀ r, SlotB (U (parN V.m st)) k (some r) → r.stripe = (st : Int) → r.place < V.sup.members - 1 ∧ r.part = xorF (fun j => D j st) (restL V.m st (recM V st r)) zeroSec
 par : al (parN V.m st) = true → U (parN V.m st) (V.base + st) = D (parN V.m st) st ∨ ∃ k r, k < V.logs ∧ SlotB (U (parN V.m st)) k (some r) ∧ r.stripe = (st : Int) ∧ al (recM V st r) = true
structure Head (V : VolM) (al : Nat → Bool) (U : Nat → Nat → Bytes) : Prop where
 sup0 : ∀ i, i < V.devs.length → al i = true → U i 0 = zeroSec
 sup1 : ∀ i, i < V.devs.length → al i = true → U i 1 = supBytes { V.sup with disk := i }
 slot : ∀ i, i < V.devs.length → al i = true → ∀ k, k < V.logs → ∃ o, SlotB (U i) k o
def aliveB (s : ShM) (i : Nat) : Bool := !(s.disk i).dead
theorem alive_iff (s : ShM) (i : Nat) : aliveB s i = true ↔ (s.disk i).dead = false := by simp [aliveB]
def OneB (V : VolM) (al : Nat → Bool) : Prop := ∀ i j, i < V.m → j < V.m → al i = false → al j = false → i = j
def CrashOK (V : VolM) (al : Nat → Bool) (M : Nat → Nat → Bytes → Prop) (May : Nat → Bytes → Prop) : Prop :=
 ∀ al' : Nat → Bool, (∀ i, al' i = true → al i = true) → OneB V al' → ∀ U', (∀ i, i < V.devs.length → al' i = true → ∀ n, n < (V.dev i).size → M i n (U' i n)) →
  ∃ D, (∀ b, b < V.size → May b (D (spotN V.m b).member (spotN V.m b).stripe)) ∧ (∀ st, st < V.stripes → Cons V al' U' D st) ∧ Head V al' U'
theorem CrashOK.mono {May May' : Nat → Bytes → Prop} (h : CrashOK V al M May) (hm : ∀ b x, May b x → May' b x) : CrashOK V al M May' := fun al' ha h1 U' hu => by
 obtain ⟨D, h1, h2, h3⟩ := h al' ha h1 U' hu
 exact ⟨D, fun b hb => hm _ _ (h1 b hb), h2, h3⟩
theorem CrashOK.less {May : Nat → Bytes → Prop} (h : CrashOK V al M May) (hm : ∀ i, i < V.devs.length → al i = true → ∀ n, n < (V.dev i).size → ∀ x, M' i n x → M i n x) : CrashOK V al M' May := fun al' ha h1 U' hu => h al' ha h1 U' fun i hi hd n hn => hm i hi (ha i hd) n hn _ (hu i hi hd n hn)
variable {st : Nat}
end
end
section
open Go.RowKit
section
theorem spot_par {m b : Nat} (hm : 3 ≤ m) : (spotN m b).member ≠ parN m (spotN m b).stripe :=
 (place_mem (m := m) (st := b / (m - 1)) (pl := b % (m - 1)) (by omega) (Nat.mod_lt _ (by omega))).2.2
theorem spot_place {m b : Nat} (hm : 3 ≤ m) : (memL m (spotN m b).stripe).getD (spotN m b).place 0 = (spotN m b).member :=
 (place_mem (m := m) (st := b / (m - 1)) (pl := b % (m - 1)) (by omega) (Nat.mod_lt _ (by omega))).1
theorem spot_inj {m b c : Nat} (hm : 3 ≤ m) (h1 : (spotN m b).stripe = (spotN m c).stripe) (h2 : (spotN m b).member = (spotN m c).member) : b = c := by
 have hb := Nat.mod_lt b (show 0 < m - 1 by omega)
 have hc := Nat.mod_lt c (show 0 < m - 1 by omega)
 have h1 : b / (m - 1) = c / (m - 1) := h1
 have h2 : (parN m (b / (m - 1)) + 1 + b % (m - 1)) % m = (parN m (c / (m - 1)) + 1 + c % (m - 1)) % m := h2
 rw [h1] at h2
 have h3 := memL_inj (m := m) (st := c / (m - 1)) (by omega) (by omega) h2
 rw [← Nat.div_add_mod b (m - 1), ← Nat.div_add_mod c (m - 1), h1, h3]
end
end
section
open Go.RowKit
section
variable {s s' : ShM} {V V' : VolM} {U : Nat → Nat → Bytes} {M : Nat → Nat → Bytes → Prop}
theorem hd_not_zero (r : Rec) : hdBytes r ≠ zeroSec := by
 obtain ⟨ys, e⟩ := hd_split r
 rw [e]
 intro h
 have := congrArg (fun l => l.head?) h
 simp [magicP, zeroSec] at this
theorem SlotB.one {W : Nat → Bytes} {k : Nat} {o o' : Option Rec} (h : SlotB W k o) (h' : SlotB W k o') : o = o' := by
 cases o with
 | none =>
  cases o' with
  | none => rfl
  | some r =>
   have h : W (2 + 2 * k) = zeroSec := h
   have h' := h'.2.1
   rw [h] at h'
   exact absurd h'.symm (hd_not_zero r)
 | some r =>
  cases o' with
  | none =>
   have h' : W (2 + 2 * k) = zeroSec := h'
   have h := h.2.1
   rw [h'] at h
   exact absurd h.symm (hd_not_zero r)
  | some q =>
   obtain ⟨m1, a1, b1⟩ := h
   obtain ⟨m2, a2, b2⟩ := h'
   obtain ⟨_, d1, _⟩ := dec_hd r m1
   obtain ⟨_, d2, _⟩ := dec_hd q m2
   rw [← a1, ← b1] at d1
   rw [← a2, ← b2, d1] at d2
   rw [d2]
theorem ArrS.getLog (h : ArrS s V U M) {i : Nat} (hi : i < V.devs.length) {k : Nat} (hk : k < V.logs) (hz : 2 + 2 * V.logs ≤ (V.dev i).size) {o : Option Rec} (hd : (s.disk i).dead = false) (ho : s.off = false) (hs : SlotB (U i) k o) :
  (logGet s (V.dev i) V.logs (k : Int)).1 = o.getD noRec ∧ (logGet s (V.dev i) V.logs (k : Int)).2.1 = (if o.isSome then 0 else 7) ∧ Ticked s (logGet s (V.dev i) V.logs (k : Int)).2.2 := by
 have hso : slotOk V.logs (k : Int) = true := decide_eq_true ⟨by omega, by omega⟩
 have c2 : (2 + 2 * (k : Int) + 1) = ((2 + 2 * k + 1 : Nat) : Int) := by omega
 have c1 : (2 + 2 * (k : Int)) = ((2 + 2 * k : Nat) : Int) := by omega
 have e1 := h.read hi (n := 2 + 2 * k) (by omega)
 have t := Ticked.tick2 s
 have e2 := (h.ticked t).read hi (n := 2 + 2 * k + 1) (by omega)
 rw [ho, hd, if_neg Bool.false_ne_true, if_neg Bool.false_ne_true] at e1
 rw [t.off, ho, t.disk, hd, if_neg Bool.false_ne_true, if_neg Bool.false_ne_true] at e2
 cases o with
 | none =>
  have hz : U i (2 + 2 * k) = zeroSec := hs
  have e : logGet s (V.dev i) V.logs (k : Int) = (noRec, 7, s.tick.tick) := by
   unfold logGet
   rw [if_pos hso, c1, e1]
   dsimp only
   rw [if_pos rfl, if_pos hz]
  rw [e]
  exact ⟨rfl, rfl, t⟩
 | some r =>
  obtain ⟨hm, v1, v2⟩ := hs
  obtain ⟨_, d2, d3⟩ := dec_hd r hm
  have e : logGet s (V.dev i) V.logs (k : Int) = (r, 0, s.tick.tick.tick.tick) := by
   unfold logGet
   rw [if_pos hso, c2, c1, e1]
   dsimp only
   rw [if_pos rfl, v1, if_neg (hd_not_zero r), e2]
   dsimp only
   rw [if_pos rfl, v2, d2, d3]
  rw [e]
  exact ⟨rfl, rfl, t.trans (Ticked.tick2 _)⟩
end
end
section
open Go.RowKit
section
variable {s s' : ShM} {V V' : VolM} {U D : Nat → Nat → Bytes} {M M' : Nat → Nat → Bytes → Prop} {al : Nat → Bool} {Op Op' : Nat → Prop} {B : Nat → Nat} {O : Nat → Bytes} {May May' : Nat → Bytes → Prop}
def memB (V : VolM) (B : Nat → Nat) (st : Nat) : Nat := (spotN V.m (B st)).member
def partD (V : VolM) (D : Nat → Nat → Bytes) (st j : Nat) : Bytes := xorF (fun i => D i st) (restL V.m st j) zeroSec
def Harm (V : VolM) (D : Nat → Nat → Bytes) (Op : Nat → Prop) (B : Nat → Nat) (i : Nat) (r : Rec) : Prop :=
 ∀ st, st < V.stripes → r.stripe = (st : Int) → parN V.m st = i → r.place < V.sup.members - 1 ∧ r.part = partD V D st (recM V st r) ∧ (Op st → recM V st r = memB V B st)
structure OpenSt (V : VolM) (al : Nat → Bool) (M : Nat → Nat → Bytes → Prop) (D : Nat → Nat → Bytes) (B : Nat → Nat) (O : Nat → Bytes) (May : Nat → Bytes → Prop) (st : Nat) : Prop where
 stripe : (spotN V.m (B st)).stripe = st
 mlt : memB V B st < V.m
 olen : (O st).length = 128
 old : May (B st) (O st)
 data : al (memB V B st) = true → ∀ x, M (memB V B st) (V.base + st) x → x = O st ∨ x = D (memB V B st) st
 par : al (parN V.m st) = true → ∀ x, M (parN V.m st) (V.base + st) x → x = xorB (partD V D st (memB V B st)) (O st) ∨ x = D (parN V.m st) st
 record : al (parN V.m st) = true → al (memB V B st) = true → ∃ k, k < V.logs ∧ ∀ W : Nat → Bytes, (∀ n, n < (V.dev (parN V.m st)).size → M (parN V.m st) n (W n)) → ∃ r, SlotB W k (some r) ∧ r.stripe = (st : Int) ∧ recM V st r = memB V B st
structure CrashV (V : VolM) (al : Nat → Bool) (M : Nat → Nat → Bytes → Prop) (D : Nat → Nat → Bytes) (Op : Nat → Prop) (B : Nat → Nat) (O : Nat → Bytes) (May : Nat → Bytes → Prop) : Prop where
 m3 : 3 ≤ V.m
 len : V.m ≤ V.devs.length
 room : ∀ j, j < V.devs.length → V.base + V.stripes ≤ (V.dev j).size
 fits : ∀ st, st < V.stripes → Fits1 V.m st (fun j => D j st)
 may : ∀ b, b < V.size → May b (D (spotN V.m b).member (spotN V.m b).stripe)
 just : ∀ st, st < V.stripes → ∀ j, j < V.m → al j = true → (¬ Op st ∨ (j ≠ memB V B st ∧ j ≠ parN V.m st)) → ∀ x, M j (V.base + st) x → x = D j st
 opn : ∀ st, st < V.stripes → Op st → OpenSt V al M D B O May st
 sup0 : ∀ i, i < V.devs.length → al i = true → ∀ x, M i 0 x → x = zeroSec
 sup1 : ∀ i, i < V.devs.length → al i = true → ∀ x, M i 1 x → x = supBytes { V.sup with disk := i }
 slot : ∀ i, i < V.devs.length → al i = true → ∀ k, k < V.logs → ∀ W : Nat → Bytes, (∀ n, n < (V.dev i).size → M i n (W n)) → ∃ o, SlotB W k o ∧ ∀ r, o = some r → Harm V D Op B i r
theorem CrashV.mono (h : CrashV V al M D Op B O May) (hm : ∀ b x, May b x → May' b x) : CrashV V al M D Op B O May' :=
 { h with may := fun b hb => hm _ _ (h.may b hb), opn := fun st hst ho => let k := h.opn st hst ho; { k with old := hm _ _ k.old } }
theorem CrashV.less {al2 : Nat → Bool} (h : CrashV V al M D Op B O May) (ha : ∀ i, al2 i = true → al i = true) (hm : ∀ i, i < V.devs.length → al2 i = true → ∀ n, n < (V.dev i).size → ∀ x, M' i n x → M i n x) : CrashV V al2 M' D Op B O May := by
 have hl : ∀ j, j < V.m → j < V.devs.length := fun j hj => by have := h.len; omega
 have hz : ∀ j, j < V.m → ∀ st, st < V.stripes → V.base + st < (V.dev j).size := fun j hj st hst => by have := h.room j (hl j hj); omega
 have hz0 : ∀ j, j < V.devs.length → 1 < (V.dev j).size := fun j hj => by have := h.room j hj; unfold VolM.base at this; omega
 have hp : ∀ st, parN V.m st < V.m := fun st => parN_lt (by have := h.m3; omega)
 refine { h with just := fun st hst j hj haj hc x hx => h.just st hst j hj (ha j haj) hc x (hm j (hl j hj) haj _ (hz j hj st hst) x hx), opn := fun st hst ho => ?_, sup0 := fun i hi hai x hx => h.sup0 i hi (ha i hai) x (hm i hi hai _ (by have := hz0 i hi; omega) x hx), sup1 := fun i hi hai x hx => h.sup1 i hi (ha i hai) x (hm i hi hai _ (hz0 i hi) x hx), slot := fun i hi hai k hk W hW => h.slot i hi (ha i hai) k hk W fun n hn => hm i hi hai n hn _ (hW n hn) }
 have k := h.opn st hst ho
 exact { k with
  data := fun hd x hx => k.data (ha _ hd) x (hm _ (hl _ k.mlt) hd _ (hz _ k.mlt st hst) x hx)
  par := fun hd x hx => k.par (ha _ hd) x (hm _ (hl _ (hp st)) hd _ (hz _ (hp st) st hst) x hx)
  record := fun h1 h2 => by
   obtain ⟨q, hq, hr⟩ := k.record (ha _ h1) (ha _ h2)
   exact ⟨q, hq, fun W hW => hr W fun n hn => hm _ (hl _ (hp st)) h1 n hn _ (hW n hn)⟩ }
open Classical in
theorem CrashV.ok (h : CrashV V al M D Op B O May) : CrashOK V al M May := by
 intro al' ha h1 U' hu
 have hm3 := h.m3
 have hm0 : 0 < V.m := by omega
 have hl : ∀ j, j < V.m → j < V.devs.length := fun j hj => by have := h.len; omega
 have hz : ∀ j, j < V.m → ∀ st, st < V.stripes → V.base + st < (V.dev j).size := fun j hj st hst => by have := h.room j (hl j hj); omega
 have hz0 : ∀ j, j < V.devs.length → 1 < (V.dev j).size := fun j hj => by have := h.room j hj; unfold VolM.base at this; omega
 have hp : ∀ st, parN V.m st < V.m := fun st => parN_lt hm0
 let P : Nat → Bytes := fun st => partD V D st (memB V B st)
 let X : Nat → Bytes := fun st => if al' (memB V B st) = true then U' (memB V B st) (V.base + st) else if al' (parN V.m st) = true then xorB (U' (parN V.m st) (V.base + st)) (P st) else D (memB V B st) st
 have hPdef : ∀ st, P st = partD V D st (memB V B st) := fun _ => rfl
 have hXdef : ∀ st, X st = if al' (memB V B st) = true then U' (memB V B st) (V.base + st) else if al' (parN V.m st) = true then xorB (U' (parN V.m st) (V.base + st)) (P st) else D (memB V B st) st := fun _ => rfl
 clear_value P X
 let D' : Nat → Nat → Bytes := fun i st => if Op st ∧ i = memB V B st then X st else if Op st ∧ i = parN V.m st then xorB (P st) (X st) else D i st
 have hDdef : ∀ i st, D' i st = if Op st ∧ i = memB V B st then X st else if Op st ∧ i = parN V.m st then xorB (P st) (X st) else D i st := fun _ _ => rfl
 clear_value D'
 have hne : ∀ st, st < V.stripes → Op st → memB V B st ≠ parN V.m st := fun st hst ho => by
  have := spot_par (m := V.m) (b := B st) hm3
  rw [(h.opn st hst ho).stripe] at this
  exact this
 have hPl : ∀ st, st < V.stripes → (P st).length = 128 := fun st hst => by rw [hPdef]; exact rest_len hm0 (h.fits st hst).len _
 have hpar : ∀ st, st < V.stripes → Op st → xorB (P st) (D (memB V B st) st) = D (parN V.m st) st := fun st hst ho => by rw [hPdef]; exact (h.fits st hst).part hm0 (h.opn st hst ho).mlt (hne st hst ho)
 have hX : ∀ st, st < V.stripes → Op st → X st = O st ∨ X st = D (memB V B st) st := fun st hst ho => by
  have k := h.opn st hst ho
  rw [hXdef]
  split
  ·rename_i hj
   exact k.data (ha _ hj) _ (hu _ (hl _ k.mlt) hj _ (hz _ k.mlt st hst))
  ·split
   ·rename_i hj
    have hc : ∀ b : Bytes, b.length = 128 → xorB (xorB (P st) b) (P st) = b := fun b hb => by rw [xorB_comm (P st) b, xorB_cancel hb (hPl st hst)]
    rcases k.par (ha _ hj) _ (hu _ (hl _ (hp st)) hj _ (hz _ (hp st) st hst)) with e | e
    ·rw [e, ← hPdef]; exact .inl (hc _ k.olen)
    ·rw [e, ← hpar st hst ho]; exact .inr (hc _ ((h.fits st hst).len _ k.mlt))
   ·exact .inr rfl
 have hXl : ∀ st, st < V.stripes → Op st → (X st).length = 128 := fun st hst ho => by
  have k := h.opn st hst ho
  rcases hX st hst ho with e | e
  ·rw [e]; exact k.olen
  ·rw [e]; exact (h.fits st hst).len _ k.mlt
 have hD1 : ∀ st, Op st → D' (memB V B st) st = X st := fun st ho => by rw [hDdef, if_pos ⟨ho, rfl⟩]
 have hD2 : ∀ st, st < V.stripes → Op st → D' (parN V.m st) st = xorB (P st) (X st) := fun st hst ho => by rw [hDdef, if_neg (fun e => hne st hst ho e.2.symm), if_pos ⟨ho, rfl⟩]
 have hD3 : ∀ st j, (¬ Op st ∨ (j ≠ memB V B st ∧ j ≠ parN V.m st)) → D' j st = D j st := fun st j hc => by
  rw [hDdef]
  rcases hc with hc | ⟨c1, c2⟩
  ·rw [if_neg (fun e => hc e.1), if_neg (fun e => hc e.1)]
  ·rw [if_neg (fun e => c1 e.2), if_neg (fun e => c2 e.2)]
 have hDrest : ∀ st j, (Op st → j = memB V B st) → partD V D' st j = partD V D st j := fun st j hc => by
  unfold partD
  refine xorF_congr _ (fun i hi => ?_) _
  obtain ⟨k1, k2, k3⟩ := (restL_mem hm0).1 hi
  refine hD3 st i ?_
  by_cases ho : Op st
  ·exact .inr ⟨by rw [← hc ho]; exact k3, k2⟩
  ·exact .inl ho
 refine ⟨D', fun b hb => ?_, fun st hst => ?_, ?_⟩
 ·obtain ⟨q1, q2, _⟩ := spot_in hm3 hb
  by_cases ho : Op (spotN V.m b).stripe
  ·have k := h.opn _ q1 ho
   by_cases hj : (spotN V.m b).member = memB V B (spotN V.m b).stripe
   ·have e : B (spotN V.m b).stripe = b := spot_inj hm3 k.stripe hj.symm
    rw [hj, hD1 _ ho]
    rcases hX _ q1 ho with e2 | e2
    ·rw [e2]
     have := k.old
     rw [e] at this
     exact this
    ·rw [e2, ← hj]; exact h.may b hb
   ·rw [hD3 _ _ (.inr ⟨hj, spot_par hm3⟩)]; exact h.may b hb
  ·rw [hD3 _ _ (.inl ho)]; exact h.may b hb
 ·by_cases ho : Op st
  ·have k := h.opn st hst ho
   have hn := hne st hst ho
   refine ⟨Fits1.upd (f := fun i => D i st) (j := memB V B st) (h.fits st hst).len hm0 k.mlt hn (fun i hi c1 c2 => hD3 st i (.inr ⟨c1, c2⟩)) (hXl st hst ho) (hD1 st ho) ?_, fun j hj hjp haj => ?_, fun hap q hq r hs hr => ?_, fun hap => ?_⟩
   ·show D' (parN V.m st) st = _
    rw [hD2 st hst ho, hPdef]; rfl
   ·by_cases e : j = memB V B st
    ·rw [e] at haj ⊢
     rw [hD1 st ho, hXdef, if_pos haj]
    ·rw [hD3 st j (.inr ⟨e, hjp⟩)]
     exact h.just st hst j hj (ha j haj) (.inr ⟨e, hjp⟩) _ (hu j (hl j hj) haj _ (hz j hj st hst))
   ·obtain ⟨o, o1, o2⟩ := h.slot _ (hl _ (hp st)) (ha _ hap) q hq (U' (parN V.m st)) (hu _ (hl _ (hp st)) hap)
    obtain ⟨r1, r2, r3⟩ := o2 r (SlotB.one o1 hs) st hst hr rfl
    refine ⟨r1, ?_⟩
    rw [r2]
    exact (hDrest st _ r3).symm
   ·by_cases haj : al' (memB V B st) = true
    ·right
     obtain ⟨q, hq, hr⟩ := k.record (ha _ hap) (ha _ haj)
     obtain ⟨r, r1, r2, r3⟩ := hr (U' (parN V.m st)) (hu _ (hl _ (hp st)) hap)
     exact ⟨q, r, hq, r1, r2, by rw [r3]; exact haj⟩
    ·left
     have hUl : (U' (parN V.m st) (V.base + st)).length = 128 := by
      rcases k.par (ha _ hap) _ (hu _ (hl _ (hp st)) hap _ (hz _ (hp st) st hst)) with e | e
      ·rw [e, ← hPdef]; exact xorB_l128 (hPl st hst) k.olen
      ·rw [e]; exact (h.fits st hst).len _ (hp st)
     rw [hD2 st hst ho, hXdef, if_neg haj, if_pos hap, xorB_comm (P st), xorB_cancel hUl (hPl st hst)]
  ·have hDD : (fun j => D' j st) = fun j => D j st := funext fun j => hD3 st j (.inl ho)
   refine ⟨by rw [hDD]; exact h.fits st hst, fun j hj hjp haj => ?_, fun hap q hq r hs hr => ?_, fun hap => .inl ?_⟩
   ·rw [hD3 st j (.inl ho)]
    exact h.just st hst j hj (ha j haj) (.inl ho) _ (hu j (hl j hj) haj _ (hz j hj st hst))
   ·obtain ⟨o, o1, o2⟩ := h.slot _ (hl _ (hp st)) (ha _ hap) q hq (U' (parN V.m st)) (hu _ (hl _ (hp st)) hap)
    obtain ⟨r1, r2, r3⟩ := o2 r (SlotB.one o1 hs) st hst hr rfl
    refine ⟨r1, ?_⟩
    rw [r2]
    exact (hDrest st _ r3).symm
   ·rw [hD3 st _ (.inl ho)]
    exact h.just st hst _ (hp st) (ha _ hap) (.inl ho) _ (hu _ (hl _ (hp st)) hap _ (hz _ (hp st) st hst))
 ·refine ⟨fun i hi hai => h.sup0 i hi (ha i hai) _ (hu i hi hai _ (by have := hz0 i hi; omega)), fun i hi hai => h.sup1 i hi (ha i hai) _ (hu i hi hai _ (hz0 i hi)), fun i hi hai q hq => ?_⟩
  obtain ⟨o, o1, _⟩ := h.slot i hi (ha i hai) q hq (U' i) (hu i hi hai)
  exact ⟨o, o1⟩
end
end
section
open Go.RowKit
section
variable {s s' s'' : ShM} {V V' V'' : VolM} {U D : Nat → Nat → Bytes} {M M' : Nat → Nat → Bytes → Prop} {al : Nat → Bool} {Op Op' : Nat → Prop} {B : Nat → Nat} {O : Nat → Bytes} {May May' : Nat → Bytes → Prop}
structure Kn (s : ShM) (V : VolM) (s' : ShM) (V' : VolM) : Prop where
 sup : V'.sup = V.sup
 len : V'.devs.length = V.devs.length
 sz : ∀ j, (V'.dev j).size = (V.dev j).size
 sec : s'.sectors = s.sectors
 dead : ∀ j, (s'.disk j).dead = (s.disk j).dead
 stops : s'.stops = s.stops
theorem Kin.kn (h : Kin s V s' V') : Kn s V s' V' := ⟨h.same.sup, h.same.len, h.sz, h.sec, h.dead, h.stops⟩
theorem Kn.refl (s : ShM) (V : VolM) : Kn s V s V := ⟨rfl, rfl, fun _ => rfl, rfl, fun _ => rfl, rfl⟩
theorem Kn.trans (h : Kn s V s' V') (k : Kn s' V' s'' V'') : Kn s V s'' V'' := ⟨k.sup.trans h.sup, k.len.trans h.len, fun j => (k.sz j).trans (h.sz j), k.sec.trans h.sec, fun j => (k.dead j).trans (h.dead j), k.stops.trans h.stops⟩
theorem Kn.alive (h : Kn s V s' V') : aliveB s' = aliveB s := funext fun i => by unfold aliveB; rw [h.dead]
theorem Kn.same {W : VolM} (h : Kn s V s' V') (e1 : W.sup = V'.sup) (e2 : W.devs = V'.devs) : Kn s V s' W := ⟨e1.trans h.sup, by rw [e2]; exact h.len, fun j => by unfold VolM.dev; rw [e2]; exact h.sz j, h.sec, h.dead, h.stops⟩
theorem CrashV.kin (h : CrashV V al M D Op B O May) (hs : V'.sup = V.sup) (hl : V'.devs.length = V.devs.length) (hz : ∀ j, (V'.dev j).size = (V.dev j).size) : CrashV V' al M D Op B O May := by
 obtain ⟨sup, devs, opens, used⟩ := V'
 cases hs
 exact ⟨h.m3, by rw [hl]; exact h.len, fun j hj => by rw [hz]; exact h.room j (by rw [← hl]; exact hj), h.fits, h.may, h.just,
  fun st h1 h2 => let k := h.opn st h1 h2; ⟨k.stripe, k.mlt, k.olen, k.old, k.data, k.par, fun a b => by
   obtain ⟨q, q1, q2⟩ := k.record a b
   exact ⟨q, q1, fun W hW => q2 W fun n hn => hW n (by rw [hz]; exact hn)⟩⟩,
  fun i hi => h.sup0 i (by rw [← hl]; exact hi), fun i hi => h.sup1 i (by rw [← hl]; exact hi), fun i hi ha k hk W hW => h.slot i (by rw [← hl]; exact hi) ha k hk W fun n hn => hW n (by rw [hz]; exact hn)⟩
theorem CrashV.kn (h : CrashV V (aliveB s) M D Op B O May) (k : Kn s V s' V') : CrashV V' (aliveB s') M D Op B O May := by
 rw [k.alive]
 exact h.kin k.sup k.len k.sz
theorem SlotB.congr {W W' : Nat → Bytes} {k : Nat} {o : Option Rec} (h : SlotB W k o) (e1 : W' (2 + 2 * k) = W (2 + 2 * k)) (e2 : W' (2 + 2 * k + 1) = W (2 + 2 * k + 1)) : SlotB W' k o := by
 cases o with
 | none => exact e1.trans h
 | some r => exact ⟨h.1, e1.trans h.2.1, e2.trans h.2.2⟩
theorem CrashV.recd (h : CrashV V al M D Op B O May) {p k : Nat} (hk : k < V.logs) (hU : ∀ n, n < (V.dev p).size → M p n (U p n)) (hfree : ∀ x, M p (2 + 2 * k) x → x = zeroSec) {r : Rec} (hr : mayB r = true) (hh : Harm V D Op B p r)
  (hM : ∀ i, i < V.devs.length → al i = true → ∀ n, n < (V.dev i).size → ∀ x, M' i n x → M i n x ∨ (i = p ∧ ((n = 2 + 2 * k ∧ x = hdBytes r) ∨ n = 2 + 2 * k + 1)))
  (hs : (∀ x, M' p (2 + 2 * k + 1) x → x = r.part) ∨ ∀ x, M' p (2 + 2 * k) x → x = zeroSec) : CrashV V al M' D Op B O May := by
 have hl : ∀ j, j < V.m → j < V.devs.length := fun j hj => by have := h.len; omega
 have hz : ∀ j, j < V.m → ∀ st, st < V.stripes → V.base + st < (V.dev j).size := fun j hj st hst => by have := h.room j (hl j hj); omega
 have hb : V.base = 2 + 2 * V.logs := rfl
 have hz0 : ∀ j, j < V.devs.length → 2 + 2 * V.logs ≤ (V.dev j).size := fun j hj => by have := h.room j hj; omega
 have hp : ∀ st, parN V.m st < V.m := fun st => parN_lt (by have := h.m3; omega)
 have hd : ∀ j, j < V.m → al j = true → ∀ st, st < V.stripes → ∀ x, M' j (V.base + st) x → M j (V.base + st) x := fun j hj ha st hst x hx => by
  rcases hM j (hl j hj) ha _ (hz j hj st hst) x hx with q | ⟨_, q | q⟩
  ·exact q
  ·exfalso; have := q.1; omega
  ·exfalso; omega
 have hw : ∀ i, i < V.devs.length → al i = true → ∀ W : Nat → Bytes, (∀ n, n < (V.dev i).size → M' i n (W n)) → ∀ q, q < V.logs → (i ≠ p ∨ q ≠ k) → ∃ W' : Nat → Bytes, (∀ n, n < (V.dev i).size → M i n (W' n)) ∧ W' (2 + 2 * q) = W (2 + 2 * q) ∧ W' (2 + 2 * q + 1) = W (2 + 2 * q + 1) := fun i hi ha W hW q hq hc => by
  by_cases e : i = p
  ·subst e
   have hc : q ≠ k := by rcases hc with h | h; exact absurd rfl h; exact h
   refine ⟨fun n => if n = 2 + 2 * k ∨ n = 2 + 2 * k + 1 then U i n else W n, fun n hn => ?_, if_neg (by omega), if_neg (by omega)⟩
   dsimp only
   split
   ·exact hU n hn
   ·rename_i hne
    rcases hM i hi ha n hn _ (hW n hn) with z | ⟨_, z | z⟩
    ·exact z
    ·exact absurd (.inl z.1) hne
    ·exact absurd (.inr z) hne
  ·refine ⟨W, fun n hn => ?_, rfl, rfl⟩
   rcases hM i hi ha n hn _ (hW n hn) with z | ⟨z, _⟩
   ·exact z
   ·exact absurd z e
 refine { h with just := fun st hst j hj ha hc x hx => h.just st hst j hj ha hc x (hd j hj ha st hst x hx), opn := fun st hst ho => ?_, sup0 := fun i hi ha x hx => ?_, sup1 := fun i hi ha x hx => ?_, slot := fun i hi ha q hq W hW => ?_ }
 ·have o := h.opn st hst ho
  refine { o with data := fun ha x hx => o.data ha x (hd _ o.mlt ha st hst x hx), par := fun ha x hx => o.par ha x (hd _ (hp st) ha st hst x hx), record := fun a b => ?_ }
  obtain ⟨q, q1, q2⟩ := o.record a b
  refine ⟨q, q1, fun W hW => ?_⟩
  have hc : parN V.m st ≠ p ∨ q ≠ k := by
   by_cases e : parN V.m st = p
   ·right
    intro e2
    subst e2
    obtain ⟨r', z1, _, _⟩ := q2 (U p) (by rw [e]; exact hU)
    have hzz : SlotB (U p) q none := hfree _ (hU _ (by have := hz0 p (by rw [← e]; exact hl _ (hp st)); omega))
    exact absurd (SlotB.one hzz z1) (by simp)
   ·exact .inl e
  obtain ⟨W', w1, w2, w3⟩ := hw _ (hl _ (hp st)) a W hW q q1 hc
  obtain ⟨r', z1, z2, z3⟩ := q2 W' w1
  exact ⟨r', z1.congr w2.symm w3.symm, z2, z3⟩
 ·rcases hM i hi ha 0 (by have := hz0 i hi; omega) x hx with q | ⟨_, q | q⟩
  ·exact h.sup0 i hi ha x q
  ·exfalso; have := q.1; omega
  ·exfalso; omega
 ·rcases hM i hi ha 1 (by have := hz0 i hi; omega) x hx with q | ⟨_, q | q⟩
  ·exact h.sup1 i hi ha x q
  ·exfalso; have := q.1; omega
  ·exfalso; omega
 ·by_cases hc : i ≠ p ∨ q ≠ k
  ·obtain ⟨W', w1, w2, w3⟩ := hw i hi ha W hW q hq hc
   obtain ⟨o, o1, o2⟩ := h.slot i hi ha q hq W' w1
   exact ⟨o, o1.congr w2.symm w3.symm, o2⟩
  ·have hc2 : i = p ∧ q = k := by
    by_cases e : i = p
    ·by_cases e2 : q = k
     ·exact ⟨e, e2⟩
     ·exact absurd (.inr e2) hc
    ·exact absurd (.inl e) hc
   obtain ⟨e1, e2⟩ := hc2
   subst e1; subst e2
   have hsz := hz0 i hi
   have hhead : W (2 + 2 * q) = zeroSec ∨ W (2 + 2 * q) = hdBytes r := by
    rcases hM i hi ha (2 + 2 * q) (by omega) _ (hW _ (by omega)) with z | ⟨_, z | z⟩
    ·exact .inl (hfree _ z)
    ·exact .inr z.2
    ·exfalso; omega
   rcases hs with hs | hs
   ·rcases hhead with e | e
    ·exact ⟨none, e, fun r' e => by cases e⟩
    ·exact ⟨some r, ⟨hr, e, hs _ (hW _ (by omega))⟩, fun r' e => by cases e; exact hh⟩
   ·exact ⟨none, hs _ (hW _ (by omega)), fun r' e => by cases e⟩
def newD (V : VolM) (D : Nat → Nat → Bytes) (st j : Nat) (b : Bytes) (i t : Nat) : Bytes := if t = st then (if i = j then b else if i = parN V.m st then xorB (partD V D st j) b else D i t) else D i t
theorem newD_other (V : VolM) (D : Nat → Nat → Bytes) (st j : Nat) (b : Bytes) {i t : Nat} (h : t ≠ st ∨ (i ≠ j ∧ i ≠ parN V.m st)) : newD V D st j b i t = D i t := by
 unfold newD
 by_cases e : t = st
 ·rw [if_pos e]
  rcases h with h | ⟨h1, h2⟩
  ·exact absurd e h
  ·rw [if_neg h1, if_neg h2]
 ·rw [if_neg e]
theorem newD_data (V : VolM) (D : Nat → Nat → Bytes) (st j : Nat) (b : Bytes) : newD V D st j b j st = b := by simp [newD]
theorem newD_par (V : VolM) (D : Nat → Nat → Bytes) (st j : Nat) (b : Bytes) (h : j ≠ parN V.m st) : newD V D st j b (parN V.m st) st = xorB (partD V D st j) b := by simp [newD, Ne.symm h]
theorem newD_part (V : VolM) (D : Nat → Nat → Bytes) (st j : Nat) (b : Bytes) (hm : 0 < V.m) (t i : Nat) (h : t = st → i = j) : partD V (newD V D st j b) t i = partD V D t i := by
 unfold partD
 refine xorF_congr _ (fun q hq => ?_) _
 obtain ⟨k1, k2, k3⟩ := (restL_mem hm).1 hq
 by_cases e : t = st
 ·subst e; exact newD_other V D t j b (.inr ⟨by rw [← h rfl]; exact k3, k2⟩)
 ·exact newD_other V D st j b (.inl e)
theorem newD_fits (hm : 3 ≤ V.m) {st j : Nat} (hf : Fits1 V.m st (fun i => D i st)) (hj : j < V.m) (hp : j ≠ parN V.m st) {b : Bytes} (hb : b.length = 128) : Fits1 V.m st (fun i => newD V D st j b i st) :=
 Fits1.upd (f := fun i => D i st) (j := j) hf.len (by omega) hj hp (fun i _ c1 c2 => newD_other V D st j b (.inr ⟨c1, c2⟩)) hb (newD_data V D st j b) (newD_par V D st j b hp)
theorem CrashV.openW (h : CrashV V al M D Op B O May) {c : Nat} (hc : c < V.size) {b : Bytes} (hb : b.length = 128) (hmay : May c b) (hno : ¬ Op (spotN V.m c).stripe)
  (hM : ∀ i, i < V.devs.length → al i = true → ∀ n, n < (V.dev i).size → ∀ x, M' i n x → M i n x ∨ (n = V.base + (spotN V.m c).stripe ∧ ((i = (spotN V.m c).member ∧ x = b) ∨ (i = parN V.m (spotN V.m c).stripe ∧ x = xorB (partD V D (spotN V.m c).stripe (spotN V.m c).member) b))))
  (hU : ∀ i, i < V.devs.length → al i = true → ∀ n, n < (V.dev i).size → M i n (U i n))
  (hrec : al (parN V.m (spotN V.m c).stripe) = true → ∀ k, k < V.logs → ∀ W : Nat → Bytes, (∀ n, n < (V.dev (parN V.m (spotN V.m c).stripe)).size → M (parN V.m (spotN V.m c).stripe) n (W n)) → ∀ r, SlotB W k (some r) → r.stripe = ((spotN V.m c).stripe : Int) → recM V (spotN V.m c).stripe r = (spotN V.m c).member)
  (hsure : al (parN V.m (spotN V.m c).stripe) = true → al (spotN V.m c).member = true → ∃ k, k < V.logs ∧ ∀ W : Nat → Bytes, (∀ n, n < (V.dev (parN V.m (spotN V.m c).stripe)).size → M (parN V.m (spotN V.m c).stripe) n (W n)) → ∃ r, SlotB W k (some r) ∧ r.stripe = ((spotN V.m c).stripe : Int) ∧ recM V (spotN V.m c).stripe r = (spotN V.m c).member) :
  CrashV V al M' (newD V D (spotN V.m c).stripe (spotN V.m c).member b) (fun t => t = (spotN V.m c).stripe ∨ Op t) (updM B (spotN V.m c).stripe c) (updM O (spotN V.m c).stripe (D (spotN V.m c).member (spotN V.m c).stripe)) May := by
 have hm3 := h.m3
 have hm0 : 0 < V.m := by omega
 obtain ⟨q1, q2, _⟩ := spot_in hm3 hc
 have hjp : (spotN V.m c).member ≠ parN V.m (spotN V.m c).stripe := spot_par hm3
 have hmayo := h.may c hc
 generalize hst : (spotN V.m c).stripe = st at *
 generalize hj : (spotN V.m c).member = j at *
 have hl : ∀ j, j < V.m → j < V.devs.length := fun j hj => by have := h.len; omega
 have hz : ∀ j, j < V.m → ∀ st, st < V.stripes → V.base + st < (V.dev j).size := fun j hj st hst => by have := h.room j (hl j hj); omega
 have hbs : V.base = 2 + 2 * V.logs := rfl
 have hz0 : ∀ j, j < V.devs.length → 2 + 2 * V.logs ≤ (V.dev j).size := fun j hj => by have := h.room j hj; omega
 have hp : ∀ st, parN V.m st < V.m := fun st => parN_lt hm0
 have hlog : ∀ i, i < V.devs.length → al i = true → ∀ n, n < 2 + 2 * V.logs → ∀ x, M' i n x → M i n x := fun i hi ha n hn x hx => by
  rcases hM i hi ha n (by have := hz0 i hi; omega) x hx with z | ⟨z, _⟩
  ·exact z
  ·exfalso; omega
 have hoth : ∀ i, i < V.m → al i = true → ∀ t, t < V.stripes → (t ≠ st ∨ (i ≠ j ∧ i ≠ parN V.m st)) → ∀ x, M' i (V.base + t) x → M i (V.base + t) x := fun i hi ha t ht hcc x hx => by
  rcases hM i (hl i hi) ha _ (hz i hi t ht) x hx with z | ⟨z1, z2⟩
  ·exact z
  ·exfalso
   rcases hcc with hcc | ⟨c1, c2⟩
   ·omega
   ·rcases z2 with z2 | z2
    ·exact c1 z2.1
    ·exact c2 z2.1
 have hw : ∀ i, i < V.devs.length → al i = true → ∀ W : Nat → Bytes, (∀ n, n < (V.dev i).size → M' i n (W n)) → ∃ W' : Nat → Bytes, (∀ n, n < (V.dev i).size → M i n (W' n)) ∧ ∀ n, n < 2 + 2 * V.logs → W' n = W n := fun i hi ha W hW => by
  refine ⟨fun n => if n < 2 + 2 * V.logs then W n else U i n, fun n hn => ?_, fun n hn => if_pos hn⟩
  dsimp only
  split
  ·rename_i hlt; exact hlog i hi ha n hlt _ (hW n hn)
  ·exact hU i hi ha n hn
 have hB : ∀ t, t ≠ st → memB V (updM B st c) t = memB V B t := fun t ht => by unfold memB; rw [updM_ne _ _ ht]
 have hBs : memB V (updM B st c) st = j := by unfold memB; rw [updM_same]; exact hj
 have hpart : ∀ t, t ≠ st → ∀ i, partD V (newD V D st j b) t i = partD V D t i := fun t ht i => newD_part V D st j b hm0 t i (fun e => absurd e ht)
 have hparts : partD V (newD V D st j b) st j = partD V D st j := newD_part V D st j b hm0 st j (fun _ => rfl)
 refine ⟨hm3, h.len, h.room, fun t ht => ?_, fun q hq => ?_, fun t ht i hi ha hcc x hx => ?_, fun t ht ho => ?_, fun i hi ha x hx => h.sup0 i hi ha x (hlog i hi ha 0 (by omega) x hx), fun i hi ha x hx => h.sup1 i hi ha x (hlog i hi ha 1 (by omega) x hx), fun i hi ha k hk W hW => ?_⟩
 ·by_cases e : t = st
  ·rw [e]; exact newD_fits hm3 (h.fits st q1) q2 hjp hb
  ·have : (fun i => newD V D st j b i t) = fun i => D i t := funext fun i => newD_other V D st j b (.inl e)
   rw [this]; exact h.fits t ht
 ·by_cases e : (spotN V.m q).stripe = st
  ·by_cases e2 : (spotN V.m q).member = j
   ·have : q = c := spot_inj hm3 (e.trans hst.symm) (e2.trans hj.symm)
    rw [e, e2, newD_data, this]; exact hmay
   ·rw [e, newD_other V D st j b (.inr ⟨e2, by rw [← e]; exact spot_par hm3⟩), ← e]; exact h.may q hq
  ·rw [newD_other V D st j b (.inl e)]; exact h.may q hq
 ·by_cases e : t = st
  ·subst e
   rcases hcc with hcc | ⟨c1, c2⟩
   ·exact absurd (.inl rfl) hcc
   ·rw [hBs] at c1
    rw [newD_other V D t j b (.inr ⟨c1, c2⟩)]
    exact h.just t ht i hi ha (.inl hno) x (hoth i hi ha t ht (.inr ⟨c1, c2⟩) x hx)
  ·rw [newD_other V D st j b (.inl e)]
   refine h.just t ht i hi ha ?_ x (hoth i hi ha t ht (.inl e) x hx)
   rcases hcc with hcc | hcc
   ·exact .inl fun ho => hcc (.inr ho)
   ·rw [hB t e] at hcc; exact .inr hcc
 ·by_cases e : t = st
  ·subst e
   refine ⟨by rw [updM_same]; exact hst, by rw [hBs]; exact q2, by rw [updM_same]; exact (h.fits t ht).len j q2, by rw [updM_same, updM_same]; exact hmayo, fun ha x hx => ?_, fun ha x hx => ?_, fun a1 a2 => ?_⟩
   ·rw [hBs] at ha hx ⊢
    rw [updM_same, newD_data]
    rcases hM j (hl j q2) ha _ (hz j q2 t ht) x hx with z | ⟨_, z | z⟩
    ·exact .inl (h.just t ht j q2 ha (.inl hno) x z)
    ·exact .inr z.2
    ·exact absurd z.1 hjp
   ·rw [hBs, updM_same, newD_par V D t j b hjp, hparts]
    rcases hM _ (hl _ (hp t)) ha _ (hz _ (hp t) t ht) x hx with z | ⟨_, z | z⟩
    ·left
     rw [h.just t ht _ (hp t) ha (.inl hno) x z]
     exact ((h.fits t ht).part hm0 q2 hjp).symm
    ·exact absurd z.1.symm hjp
    ·exact .inr z.2
   ·rw [hBs] at a2 ⊢
    obtain ⟨k, k1, k2⟩ := hsure a1 a2
    refine ⟨k, k1, fun W hW => ?_⟩
    obtain ⟨W', w1, w2⟩ := hw _ (hl _ (hp t)) a1 W hW
    obtain ⟨r, r1, r2, r3⟩ := k2 W' w1
    exact ⟨r, r1.congr (w2 _ (by omega)).symm (w2 _ (by omega)).symm, r2, r3⟩
  ·have ho : Op t := ho.resolve_left e
   have o := h.opn t ht ho
   have hne : memB V B t ≠ parN V.m t := by
    have := spot_par (m := V.m) (b := B t) hm3
    rw [o.stripe] at this
    exact this
   refine ⟨by rw [updM_ne _ _ e]; exact o.stripe, by rw [hB t e]; exact o.mlt, by rw [updM_ne _ _ e]; exact o.olen, by rw [updM_ne _ _ e, updM_ne _ _ e]; exact o.old, fun ha x hx => ?_, fun ha x hx => ?_, fun a1 a2 => ?_⟩
   ·rw [hB t e] at ha hx ⊢
    rw [updM_ne _ _ e, newD_other V D st j b (.inl e)]
    exact o.data ha x (hoth _ o.mlt ha t ht (.inl e) x hx)
   ·rw [hB t e, updM_ne _ _ e, newD_other V D st j b (.inl e), hpart t e]
    exact o.par ha x (hoth _ (hp t) ha t ht (.inl e) x hx)
   ·rw [hB t e] at a2 ⊢
    obtain ⟨k, k1, k2⟩ := o.record a1 a2
    refine ⟨k, k1, fun W hW => ?_⟩
    obtain ⟨W', w1, w2⟩ := hw _ (hl _ (hp t)) a1 W hW
    obtain ⟨r, r1, r2, r3⟩ := k2 W' w1
    exact ⟨r, r1.congr (w2 _ (by omega)).symm (w2 _ (by omega)).symm, r2, r3⟩
 ·obtain ⟨W', w1, w2⟩ := hw i hi ha W hW
  obtain ⟨o, o1, o2⟩ := h.slot i hi ha k hk W' w1
  refine ⟨o, o1.congr (w2 _ (by omega)).symm (w2 _ (by omega)).symm, fun r er t ht e1 e2 => ?_⟩
  obtain ⟨z1, z2, z3⟩ := o2 r er t ht e1 e2
  by_cases e : t = st
  ·subst e
   subst e2
   have hrj := hrec ha k hk W' w1 r (by rw [er] at o1; exact o1) e1
   refine ⟨z1, ?_, fun _ => by rw [hBs]; exact hrj⟩
   rw [z2, hrj, hparts]
  ·refine ⟨z1, by rw [hpart t e]; exact z2, fun ho => ?_⟩
   rw [hB t e]
   exact z3 (ho.resolve_left e)
end
end
section
open Go.RowKit
section
variable {s s' s'' : ShM} {V V' V'' : VolM} {U D : Nat → Nat → Bytes} {M M' : Nat → Nat → Bytes → Prop} {al : Nat → Bool} {Op Op' : Nat → Prop} {B : Nat → Nat} {O : Nat → Bytes} {May May' : Nat → Bytes → Prop}
structure Cfg (s : ShM) (V : VolM) : Prop where
 sp : V.sup.spare < 0
 rb : ∀ i, i < V.devs.length → rightB { V.sup with disk := i } = true
 dl : (V.devs.length : Int) = V.sup.members ∨ (V.devs.length : Int) = V.sup.members + 1
 gen : V.sup.gen % 2 = 1
 need : needI V.sup.stripes V.sup.logs ≤ blocksI s.sectors
theorem Cfg.kn (h : Cfg s V) (k : Kn s V s' V') : Cfg s' V' := by
 refine ⟨by rw [k.sup]; exact h.sp, fun i hi => ?_, ?_, by rw [k.sup]; exact h.gen, by rw [k.sup, k.sec]; exact h.need⟩
 ·rw [k.sup]; exact h.rb i (by rw [← k.len]; exact hi)
 ·rw [k.sup, k.len]; exact h.dl
structure LiveV (s : ShM) (V : VolM) (U : Nat → Nat → Bytes) (M : Nat → Nat → Bytes → Prop) (D : Nat → Nat → Bytes) (B : Nat → Nat) (O : Nat → Bytes) (May : Nat → Bytes → Prop) : Prop where
 cfg : Cfg s V
 arr : ArrS s V U M
 cv : CrashV V (aliveB s) M D (fun t => t ∈ V.opens) B O May
 one : OneB V (aliveB s)
 same : ∀ st, st < V.stripes → ∀ j, j < V.m → (s.disk j).dead = false → U j (V.base + st) = D j st
 free : ∀ i, i < V.devs.length → aliveB s i = true → ∀ k, k < V.logs → (i, k) ∉ V.used → ∀ x, M i (2 + 2 * k) x → x = zeroSec
 recOpen : ∀ i, i < V.devs.length → aliveB s i = true → ∀ k, k < V.logs → ∀ W : Nat → Bytes, M i (2 + 2 * k) (W (2 + 2 * k)) → M i (2 + 2 * k + 1) (W (2 + 2 * k + 1)) → ∀ r, SlotB W k (some r) → ∀ st, st < V.stripes → r.stripe = (st : Int) → parN V.m st = i → st ∈ V.opens
structure Down (s : ShM) (V : VolM) (May : Nat → Bytes → Prop) : Prop where
 off : s.off = true
 cfg : Cfg s V
 m3 : 3 ≤ V.m
 len : V.m ≤ V.devs.length
 room : ∀ j, j < V.devs.length → V.base + V.stripes ≤ (V.dev j).size
 one : OneB V (aliveB s)
 crash : ∃ M, Fall s V M ∧ CrashOK V (aliveB s) M May
theorem Down.mono (h : Down s V May) (hm : ∀ b x, May b x → May' b x) : Down s V May' :=
 { h with crash := let ⟨M, a, b⟩ := h.crash; ⟨M, a, b.mono hm⟩ }
theorem LiveV.mono (h : LiveV s V U M D B O May) (hm : ∀ b x, May b x → May' b x) : LiveV s V U M D B O May' := { h with cv := h.cv.mono hm }
theorem OneB.kn (h : OneB V (aliveB s)) (k : Kn s V s' V') : OneB V' (aliveB s') := by
 unfold OneB VolM.m
 rw [k.alive, k.sup]
 exact h
theorem down_of (hc : Cfg s V) (h1 : OneB V (aliveB s)) (k : Kn s V s' V') (ho : s'.off = true) (hf : Fall s' V' M) (cv : CrashV V (aliveB s) M D Op B O May) : Down s' V' May :=
 have c := cv.kn k
 ⟨ho, hc.kn k, c.m3, c.len, c.room, h1.kn k, M, hf, c.ok⟩
theorem CrashV.facts (h : CrashV V al M D Op B O May) : (∀ j, j < V.m → j < V.devs.length) ∧ (∀ j, j < V.m → ∀ st, st < V.stripes → V.base + st < (V.dev j).size) ∧ (∀ j, j < V.devs.length → 2 + 2 * V.logs ≤ (V.dev j).size) ∧ (∀ st, parN V.m st < V.m) := by
 have h1 := h.len
 have h3 := h.m3
 have hb : V.base = 2 + 2 * V.logs := rfl
 refine ⟨fun j hj => by omega, fun j hj st hst => ?_, fun j hj => ?_, fun st => parN_lt (by omega)⟩
 ·have := h.room j (by omega); omega
 ·have := h.room j hj; omega
def JustD (V : VolM) (D : Nat → Nat → Bytes) (b : Nat) (x : Bytes) : Prop := b < V.size ∧ x = D (spotN V.m b).member (spotN V.m b).stripe
theorem CrashV.close (h : CrashV V al M D Op B O May) (hU : ∀ i, i < V.devs.length → al i = true → ∀ n, n < (V.dev i).size → M i n (U i n)) (hsame : ∀ st, st < V.stripes → ∀ j, j < V.m → al j = true → U j (V.base + st) = D j st)
  (hM : ∀ i, i < V.devs.length → al i = true → ∀ n, n < (V.dev i).size → ∀ x, M' i n x → x = U i n) : CrashV V al M' D (fun _ => False) B O (JustD V D) := by
 obtain ⟨f1, f2, f3, f4⟩ := h.facts
 refine ⟨h.m3, h.len, h.room, h.fits, fun b hb => ⟨hb, rfl⟩, fun st hst j hj ha _ x hx => ?_, fun st hst ho => ho.elim, fun i hi ha x hx => ?_, fun i hi ha x hx => ?_, fun i hi ha k hk W hW => ?_⟩
 ·rw [hM j (f1 j hj) ha _ (f2 j hj st hst) x hx]; exact hsame st hst j hj ha
 ·have hz := f3 i hi
  rw [hM i hi ha 0 (by omega) x hx]
  exact h.sup0 i hi ha _ (hU i hi ha 0 (by omega))
 ·have hz := f3 i hi
  rw [hM i hi ha 1 (by omega) x hx]
  exact h.sup1 i hi ha _ (hU i hi ha 1 (by omega))
 ·obtain ⟨o, o1, o2⟩ := h.slot i hi ha k hk W fun n hn => by rw [hM i hi ha n hn _ (hW n hn)]; exact hU i hi ha n hn
  refine ⟨o, o1, fun r er st h1 h2 h3 => ?_⟩
  obtain ⟨z1, z2, _⟩ := o2 r er st h1 h2 h3
  exact ⟨z1, z2, fun f => f.elim⟩
theorem CrashV.cleared (h : CrashV V al M D (fun _ => False) B O May) {p k : Nat} (hk : k < V.logs) (hU : ∀ i, i < V.devs.length → al i = true → ∀ n, n < (V.dev i).size → M i n (U i n))
  (hM : ∀ i, i < V.devs.length → al i = true → ∀ n, n < (V.dev i).size → ∀ x, M' i n x → M i n x ∨ (i = p ∧ n = 2 + 2 * k ∧ x = zeroSec)) : CrashV V al M' D (fun _ => False) B O May := by
 obtain ⟨f1, f2, f3, f4⟩ := h.facts
 have hb : V.base = 2 + 2 * V.logs := rfl
 refine ⟨h.m3, h.len, h.room, h.fits, h.may, fun st hst j hj ha hc x hx => ?_, fun st hst ho => ho.elim, fun i hi ha x hx => ?_, fun i hi ha x hx => ?_, fun i hi ha q hq W hW => ?_⟩
 ·rcases hM j (f1 j hj) ha _ (f2 j hj st hst) x hx with z | ⟨_, z, _⟩
  ·exact h.just st hst j hj ha hc x z
  ·exfalso; omega
 ·rcases hM i hi ha 0 (by have := f3 i hi; omega) x hx with z | ⟨_, z, _⟩
  ·exact h.sup0 i hi ha x z
  ·exfalso; omega
 ·rcases hM i hi ha 1 (by have := f3 i hi; omega) x hx with z | ⟨_, z, _⟩
  ·exact h.sup1 i hi ha x z
  ·exfalso; omega
 ·have hz := f3 i hi
  by_cases e : W (2 + 2 * q) = zeroSec
  ·exact ⟨none, e, fun r e => by cases e⟩
  ·have hr : ∀ n, n < (V.dev i).size → (n = 2 + 2 * q ∨ n = 2 + 2 * q + 1) → M i n (W n) := fun n hn hc => by
    rcases hM i hi ha n hn _ (hW n hn) with z | ⟨_, z1, z2⟩
    ·exact z
    ·exfalso
     have : n = 2 + 2 * q := by omega
     rw [this] at z2
     exact e z2
   obtain ⟨o, o1, o2⟩ := h.slot i hi ha q hq (fun n => if n = 2 + 2 * q ∨ n = 2 + 2 * q + 1 then W n else U i n) fun n hn => by
    split
    ·rename_i hc; exact hr n hn hc
    ·exact hU i hi ha n hn
   exact ⟨o, o1.congr (by simp) (by simp), o2⟩
theorem ArrS.allMay (h : ArrS s V U M) : ∀ i, i < V.devs.length → aliveB s i = true → ∀ n, n < (V.dev i).size → M i n (U i n) := fun _ hi ha _ hn => h.may hi ((alive_iff s _).1 ha) hn
theorem ArrS.devs (h : ArrS s V U M) (e : V'.devs = V.devs) : ArrS s V' U M := by
 have hd : ∀ i, V'.dev i = V.dev i := fun i => by unfold VolM.dev; rw [e]
 exact ⟨h.ok, by rw [e]; exact h.slen, fun i hi => by rw [hd]; exact h.dd i (by rw [← e]; exact hi), fun i hi => by rw [hd]; exact h.sz i (by rw [← e]; exact hi), h.room, fun i hi ha => by rw [hd]; exact h.live i (by rw [← e]; exact hi) ha⟩
theorem Fall.devs (h : Fall s V M) (e : V'.devs = V.devs) : Fall s V' M := by
 have hd : ∀ i, V'.dev i = V.dev i := fun i => by unfold VolM.dev; rw [e]
 exact ⟨h.ok, by rw [e]; exact h.slen, fun i hi => by rw [hd]; exact h.dd i (by rw [← e]; exact hi), fun i hi => by rw [hd]; exact h.sz i (by rw [← e]; exact hi), h.room, fun i hi ha => by rw [hd]; exact h.crash i (by rw [← e]; exact hi) ha⟩
structure Sy (s : ShM) (V : VolM) (U : Nat → Nat → Bytes) (M : Nat → Nat → Bytes → Prop) (D : Nat → Nat → Bytes) (B : Nat → Nat) (O : Nat → Bytes) (May : Nat → Bytes → Prop) : Prop where
 cfg : Cfg s V
 one : OneB V (aliveB s)
 arr : ArrS s V U M
 cv : CrashV V (aliveB s) M D (fun _ => False) B O May
 same : ∀ st, st < V.stripes → ∀ j, j < V.m → (s.disk j).dead = false → U j (V.base + st) = D j st
def Zero (s : ShM) (V : VolM) (U : Nat → Nat → Bytes) (us : List (Nat × Nat)) (i n : Nat) : Prop := ∀ j q, j < V.devs.length → aliveB s j = true → q < V.logs → (j < i ∨ (j = i ∧ q < n) ∨ (j, q) ∉ us) → U j (2 + 2 * q) = zeroSec
theorem clrIn_go : ∀ (f i n : Nat) (s : ShM) (V : VolM) (U : Nat → Nat → Bytes) (M : Nat → Nat → Bytes → Prop), n + f = V.logs → i < V.devs.length → Sy s V U M D B O May → Zero s V U V.used i n →
    Kin s V (clrIn s V i n f).2.1 (clrIn s V i n f).2.2 ∧
    (((clrIn s V i n f).1 = 0 ∧ ∃ U' M', Sy (clrIn s V i n f).2.1 (clrIn s V i n f).2.2 U' M' D B O May ∧ Zero s V U' V.used (i + 1) 0) ∨
     ((clrIn s V i n f).1 = 3 ∧ Down (clrIn s V i n f).2.1 (clrIn s V i n f).2.2 May))
  | 0, i, n, s, V, U, M, hf, hi, h, hz => by
    refine ⟨Kin.refl s V, .inl ⟨rfl, U, M, h, fun j q hj ha hq hc => hz j q hj ha hq ?_⟩⟩
    rcases hc with hc | ⟨_, hc⟩ | hc
    · by_cases e : j = i
      · exact .inr (.inl ⟨e, by omega⟩)
      · exact .inl (by omega)
    · omega
    · exact .inr (.inr hc)
  | f + 1, i, n, s, V, U, M, hf, hi, h, hz => by
    unfold clrIn
    by_cases hu : V.used.contains (i, n) = true
    · rw [if_pos hu]
      dsimp only
      obtain ⟨f1, f2, f3, f4⟩ := h.cv.facts
      have hbs : V.base = 2 + 2 * V.logs := rfl
      obtain ⟨k1, hc⟩ := h.arr.clr hi (k := n) (by omega) (f3 i hi)
      rcases hc with ⟨hd, e, ha⟩ | ⟨hd, ho, e⟩ | ⟨e, ho, hfall⟩
      · rw [if_pos (.inl e)]
        generalize volClr s V i n = r at *
        have hnew : CrashV V (aliveB s) (updM M i (Just1 (U i) (2 + 2 * n) zeroSec)) D (fun _ => False) B O May := h.cv.cleared (p := i) (k := n) (by omega) h.arr.allMay fun j hj haj m hm x hx => by
          by_cases e2 : j = i
          · subst e2
            rw [updM_same] at hx
            rcases hx with hx | ⟨h1, h2⟩
            · rw [hx]; exact .inl (h.arr.allMay j hj haj m hm)
            · exact .inr ⟨rfl, h1, h2⟩
          · rw [updM_ne _ _ e2] at hx; exact .inl hx
        have hsy : Sy r.2.1 r.2.2 (updM U i (updV (U i) (2 + 2 * n) zeroSec)) (updM M i (Just1 (U i) (2 + 2 * n) zeroSec)) D B O May := by
          refine ⟨h.cfg.kn k1.kn, h.one.kn k1.kn, ha, hnew.kn k1.kn, fun st hst j hj hdj => ?_⟩
          have em : r.2.2.m = V.m := by unfold VolM.m; rw [k1.same.sup]
          have es : r.2.2.stripes = V.stripes := by unfold VolM.stripes; rw [k1.same.sup]
          have eb : r.2.2.base = V.base := by unfold VolM.base; rw [k1.same.sup]
          rw [em] at hj; rw [es] at hst; rw [eb]
          rw [k1.dead] at hdj
          by_cases e2 : j = i
          · subst e2; rw [updM_same, updV, if_neg (by omega)]; exact h.same st hst j hj hdj
          · rw [updM_ne _ _ e2]; exact h.same st hst j hj hdj
        have el : r.2.2.logs = V.logs := by unfold VolM.logs; rw [k1.same.sup]
        have hzz : ∀ (i' n' : Nat) (W : Nat → Nat → Bytes), Zero r.2.1 r.2.2 W r.2.2.used i' n' ↔ Zero s V W V.used i' n' := fun i' n' W => by
          unfold Zero; rw [k1.same.used, k1.same.len, el, k1.kn.alive]
        have hz2 : Zero s V (updM U i (updV (U i) (2 + 2 * n) zeroSec)) V.used i (n + 1) := fun j q hj haj hq hc => by
          by_cases e2 : j = i
          · subst e2
            rw [updM_same, updV]
            split
            · rfl
            · rename_i hne
              refine hz j q hj haj hq ?_
              rcases hc with hc | ⟨_, hc⟩ | hc
              · exact .inl hc
              · exact .inr (.inl ⟨rfl, by omega⟩)
              · exact .inr (.inr hc)
          · rw [updM_ne _ _ e2]
            refine hz j q hj haj hq ?_
            rcases hc with hc | ⟨hc, _⟩ | hc
            · exact .inl hc
            · exact absurd hc e2
            · exact .inr (.inr hc)
        obtain ⟨q1, q2⟩ := clrIn_go f i (n + 1) r.2.1 r.2.2 _ _ (by omega) (by rw [k1.same.len]; exact hi) hsy ((hzz _ _ _).2 hz2)
        refine ⟨k1.trans q1, ?_⟩
        rcases q2 with ⟨e2, U', M', a1, a2⟩ | q2
        · exact .inl ⟨e2, U', M', a1, (hzz _ _ _).1 a2⟩
        · exact .inr q2
      · rw [e]
        dsimp only
        rw [if_pos (.inr rfl)]
        obtain ⟨q1, q2⟩ := clrIn_go f i (n + 1) s V U M (by omega) hi h (fun j q hj haj hq hc => by
          by_cases e2 : j = i
          · subst e2; rw [(alive_iff s j).1 haj] at hd; cases hd
          · refine hz j q hj haj hq ?_
            rcases hc with hc | ⟨hc, _⟩ | hc
            · exact .inl hc
            · exact absurd hc e2
            · exact .inr (.inr hc))
        exact ⟨q1, q2⟩
      · rw [if_neg (by omega)]
        exact ⟨k1, .inr ⟨e, down_of h.cfg h.one k1.kn ho hfall h.cv⟩⟩
    · rw [if_neg hu]
      obtain ⟨q1, q2⟩ := clrIn_go f i (n + 1) s V U M (by omega) hi h (fun j q hj haj hq hc => by
        refine hz j q hj haj hq ?_
        rcases hc with hc | ⟨h1, h2⟩ | hc
        · exact .inl hc
        · by_cases e2 : q = n
          · subst h1; subst e2
            exact .inr (.inr fun hm => hu (List.contains_iff_mem.2 hm))
          · exact .inr (.inl ⟨h1, by omega⟩)
        · exact .inr (.inr hc))
      exact ⟨q1, q2⟩
theorem clrFrom_go : ∀ (f i : Nat) (s : ShM) (V : VolM) (U : Nat → Nat → Bytes) (M : Nat → Nat → Bytes → Prop), i + f = V.devs.length → Sy s V U M D B O May → Zero s V U V.used i 0 →
    Kin s V (clrFrom s V i f).2.1 (clrFrom s V i f).2.2 ∧
    (((clrFrom s V i f).1 = 0 ∧ ∃ U' M', Sy (clrFrom s V i f).2.1 (clrFrom s V i f).2.2 U' M' D B O May ∧ Zero s V U' V.used V.devs.length 0) ∨
     ((clrFrom s V i f).1 = 3 ∧ Down (clrFrom s V i f).2.1 (clrFrom s V i f).2.2 May))
  | 0, i, s, V, U, M, hf, h, hz => ⟨Kin.refl s V, .inl ⟨rfl, U, M, h, by rw [← hf]; exact hz⟩⟩
  | f + 1, i, s, V, U, M, hf, h, hz => by
    unfold clrFrom
    dsimp only
    obtain ⟨k1, hc⟩ := clrIn_go V.logs i 0 s V U M (by omega) (by omega) h hz
    generalize clrIn s V i 0 V.logs = r at *
    rcases hc with ⟨e, U', M', a1, a2⟩ | ⟨e, hd⟩
    · rw [if_pos e]
      have el : r.2.2.logs = V.logs := by unfold VolM.logs; rw [k1.same.sup]
      have hzz : ∀ (i' n' : Nat) (W : Nat → Nat → Bytes), Zero r.2.1 r.2.2 W r.2.2.used i' n' ↔ Zero s V W V.used i' n' := fun i' n' W => by
        unfold Zero; rw [k1.same.used, k1.same.len, el, k1.kn.alive]
      obtain ⟨q1, q2⟩ := clrFrom_go f (i + 1) r.2.1 r.2.2 U' M' (by rw [k1.same.len]; omega) a1 ((hzz _ _ _).2 a2)
      refine ⟨k1.trans q1, ?_⟩
      rcases q2 with ⟨e2, U2, M2, b1, b2⟩ | q2
      · refine .inl ⟨e2, U2, M2, b1, ?_⟩
        rw [← k1.same.len]
        exact (hzz _ _ _).1 b2
      · exact .inr q2
    · rw [if_neg (by omega)]
      exact ⟨k1, .inr ⟨e, hd⟩⟩
theorem Sy.clean (h : Sy s V U (fun i => Just (U i)) D B O May) (hz : ∀ j q, j < V.devs.length → aliveB s j = true → q < V.logs → U j (2 + 2 * q) = zeroSec) : LiveV s V.clean U (fun i => Just (U i)) D B O May := by
 have k : Kn s V s V.clean := (Kn.refl s V).same rfl rfl
 refine ⟨h.cfg.kn k, h.arr.devs rfl, ?_, h.one.kn k, h.same, fun i hi ha q hq _ x hx => ?_, fun i hi ha q hq W h1 h2 r hr st _ _ _ => ?_⟩
 ·have c := h.cv.kin (V' := V.clean) rfl rfl fun _ => rfl
  refine { c with just := fun st hst j hj ha _ x hx => c.just st hst j hj ha (.inl fun e => e) x hx, opn := fun st hst ho => (List.not_mem_nil ho).elim, slot := fun i hi ha q hq W hW => ?_ }
  obtain ⟨o, o1, o2⟩ := c.slot i hi ha q hq W hW
  refine ⟨o, o1, fun r er st a1 a2 a3 => ?_⟩
  obtain ⟨z1, z2, _⟩ := o2 r er st a1 a2 a3
  exact ⟨z1, z2, fun ho => (List.not_mem_nil ho).elim⟩
 ·have hx : x = U i (2 + 2 * q) := hx
  rw [hx]; exact hz i q hi ha hq
 ·exfalso
  have h1 : W (2 + 2 * q) = U i (2 + 2 * q) := h1
  rw [hz i q hi ha hq] at h1
  have : SlotB W q none := h1
  exact absurd (SlotB.one this hr) (by simp)
theorem Sy.tail (h : Sy s V U (fun i => Just (U i)) D B O May) (hu : ∀ j q, j < V.devs.length → aliveB s j = true → q < V.logs → (j, q) ∉ V.used → U j (2 + 2 * q) = zeroSec) :
  let r := if V.used = [] then ((0 : Int), s, V.clean) else
   let c := clrFrom s V 0 V.devs.length
   if c.1 = 0 then let q := volSync c.2.1 c.2.2; if q.1 = 0 then (0, q.2.1, q.2.2.clean) else q else c
  Kn s V r.2.1 r.2.2 ∧ ((r.1 = 0 ∧ r.2.2.opens = [] ∧ r.2.2.used = [] ∧ ∃ U M, LiveV r.2.1 r.2.2 U M D B O May) ∨ (r.1 = 3 ∧ Down r.2.1 r.2.2 May)) := by
 by_cases e : V.used = []
 ·rw [if_pos e]
  dsimp only
  exact ⟨(Kn.refl s V).same rfl rfl, .inl ⟨rfl, rfl, rfl, U, _, h.clean fun j q hj ha hq => hu j q hj ha hq (by rw [e]; exact List.not_mem_nil)⟩⟩
 ·rw [if_neg e]
  dsimp only
  obtain ⟨k1, hc⟩ := clrFrom_go V.devs.length 0 s V U _ (by omega) h (fun j q hj ha hq hc => by
   rcases hc with hc | ⟨_, hc⟩ | hc
   ·omega
   ·omega
   ·exact hu j q hj ha hq hc)
  generalize clrFrom s V 0 V.devs.length = c at *
  rcases hc with ⟨e1, U', M', a1, a2⟩ | ⟨e1, hd⟩
  ·rw [if_pos e1]
   obtain ⟨k2, hq⟩ := a1.arr.sync
   generalize volSync c.2.1 c.2.2 = q at *
   have kk := k1.kn.trans k2.kn
   rcases hq with ⟨e2, b1⟩ | ⟨e2, ho, hf⟩
   ·rw [if_pos e2]
    have hsy : Sy q.2.1 q.2.2 U' (fun i => Just (U' i)) D B O May := by
     refine ⟨a1.cfg.kn k2.kn, a1.one.kn k2.kn, b1, (a1.cv.less (M' := fun i => Just (U' i)) (fun _ h => h) fun i hi ha n hn x hx => ?_).kn k2.kn, fun st hst j hj hdj => ?_⟩
     ·have hx : x = U' i n := hx
      rw [hx]; exact a1.arr.allMay i hi ha n hn
     ·have em : q.2.2.m = c.2.2.m := by unfold VolM.m; rw [k2.same.sup]
      have es : q.2.2.stripes = c.2.2.stripes := by unfold VolM.stripes; rw [k2.same.sup]
      have eb : q.2.2.base = c.2.2.base := by unfold VolM.base; rw [k2.same.sup]
      rw [eb]
      rw [k2.dead] at hdj
      exact a1.same st (by rw [← es]; exact hst) j (by rw [← em]; exact hj) hdj
    have el : q.2.2.logs = V.logs := by unfold VolM.logs; rw [kk.sup]
    refine ⟨kk.same rfl rfl, .inl ⟨rfl, rfl, rfl, U', _, hsy.clean fun j w hj ha hw => ?_⟩⟩
    rw [kk.alive] at ha
    rw [el] at hw
    rw [kk.len] at hj
    exact a2 j w hj ha hw (.inl hj)
   ·rw [if_neg (by omega)]
    exact ⟨kk, .inr ⟨e2, down_of a1.cfg a1.one k2.kn ho hf a1.cv⟩⟩
  ·rw [if_neg (by omega)]
   exact ⟨k1.kn, .inr ⟨e1, hd⟩⟩
theorem LiveV.flush (h : LiveV s V U M D B O May) :
    Kn s V (volFlush s V).2.1 (volFlush s V).2.2 ∧
    (((volFlush s V).1 = 0 ∧ (volFlush s V).2.2.opens = [] ∧ (volFlush s V).2.2.used = [] ∧ ∃ U M, LiveV (volFlush s V).2.1 (volFlush s V).2.2 U M D B O (JustD V D)) ∨
     ((volFlush s V).1 = 3 ∧ Down (volFlush s V).2.1 (volFlush s V).2.2 May)) := by
  unfold volFlush
  dsimp only
  obtain ⟨k1, hc⟩ := h.arr.sync
  generalize volSync s V = r at *
  rcases hc with ⟨e, ha⟩ | ⟨e, ho, hf⟩
  · rw [if_pos e]
    have c := (h.cv.close (M' := fun i => Just (U i)) h.arr.allMay (fun st hst j hj ha => h.same st hst j hj ((alive_iff s j).1 ha)) fun i hi ha n hn x hx => hx).kn k1.kn
    have em : r.2.2.m = V.m := by unfold VolM.m; rw [k1.same.sup]
    have es : r.2.2.stripes = V.stripes := by unfold VolM.stripes; rw [k1.same.sup]
    have eb : r.2.2.base = V.base := by unfold VolM.base; rw [k1.same.sup]
    have el : r.2.2.logs = V.logs := by unfold VolM.logs; rw [k1.same.sup]
    have hsy : Sy r.2.1 r.2.2 U (fun i => Just (U i)) D B O (JustD V D) :=
      ⟨h.cfg.kn k1.kn, h.one.kn k1.kn, ha, c, fun st hst j hj hdj => by
        rw [em] at hj; rw [es] at hst; rw [eb]; rw [k1.dead] at hdj
        exact h.same st hst j hj hdj⟩
    obtain ⟨f1, f2, f3, f4⟩ := h.cv.facts
    have ht := hsy.tail fun j q hj haj hq hu => by
      rw [k1.same.len] at hj; rw [k1.kn.alive] at haj; rw [el] at hq; rw [k1.same.used] at hu
      exact h.free j hj haj q hq hu _ (h.arr.allMay j hj haj _ (by have := f3 j hj; omega))
    dsimp only at ht
    obtain ⟨t1, t2⟩ := ht
    refine ⟨k1.kn.trans t1, t2.imp id fun ⟨a, b⟩ => ⟨a, b.mono fun b x hx => by rw [hx.2]; exact h.cv.may b hx.1⟩⟩
  · rw [if_neg (by omega)]
    exact ⟨k1.kn, .inr ⟨e, down_of h.cfg h.one k1.kn ho hf h.cv⟩⟩
end
end
section
open Go.RowKit
section
variable {s s' s'' : ShM} {V V' V'' : VolM} {U D : Nat → Nat → Bytes} {M M' : Nat → Nat → Bytes → Prop} {al : Nat → Bool} {Op Op' : Nat → Prop} {B : Nat → Nat} {O : Nat → Bytes} {May May' : Nat → Bytes → Prop}
def wrD (V : VolM) (D : Nat → Nat → Bytes) (c : Nat) (b : Bytes) : Nat → Nat → Bytes := newD V D (spotN V.m c).stripe (spotN V.m c).member b
theorem wrD_spot {c q : Nat} (hm : 3 ≤ V.m) {b : Bytes} : wrD V D c b (spotN V.m q).member (spotN V.m q).stripe = if q = c then b else D (spotN V.m q).member (spotN V.m q).stripe := by
 unfold wrD
 by_cases e : q = c
 ·rw [if_pos e, e, newD_data]
 ·rw [if_neg e]
  by_cases e1 : (spotN V.m q).stripe = (spotN V.m c).stripe
  ·refine newD_other V D _ _ b (.inr ⟨fun e2 => e (spot_inj hm e1 e2), ?_⟩)
   rw [← e1]; exact spot_par hm
  ·exact newD_other V D _ _ b (.inl e1)
theorem put_plain (hsp : V.sup.spare < 0) (s : ShM) (j st : Nat) (b : Bytes) : volPut s V j st b = volWr s V j ((V.base + st : Nat) : Int) b := by unfold volPut; rw [disk_plain hsp]
theorem LiveV.same_of {W : Nat → Nat → Bytes} {c : Nat} {b : Bytes} (h : ∀ st, st < V.stripes → ∀ j, j < V.m → (s.disk j).dead = false → U j (V.base + st) = D j st)
  (hW : ∀ st, st < V.stripes → ∀ j, j < V.m → (s.disk j).dead = false → (st ≠ (spotN V.m c).stripe ∨ (j ≠ (spotN V.m c).member ∧ j ≠ parN V.m (spotN V.m c).stripe)) → W j (V.base + st) = U j (V.base + st))
  (hd : (s.disk (spotN V.m c).member).dead = false → W (spotN V.m c).member (V.base + (spotN V.m c).stripe) = b) (hm : 3 ≤ V.m)
  (hp : (s.disk (parN V.m (spotN V.m c).stripe)).dead = false → W (parN V.m (spotN V.m c).stripe) (V.base + (spotN V.m c).stripe) = xorB (partD V D (spotN V.m c).stripe (spotN V.m c).member) b) :
  ∀ st, st < V.stripes → ∀ j, j < V.m → (s.disk j).dead = false → W j (V.base + st) = wrD V D c b j st := fun st hst j hj hdj => by
 by_cases e : st = (spotN V.m c).stripe
 ·subst e
  by_cases e1 : j = (spotN V.m c).member
  ·subst e1; rw [hd hdj]; exact (newD_data V D _ _ b).symm
  ·by_cases e2 : j = parN V.m (spotN V.m c).stripe
   ·subst e2; rw [hp hdj]; exact (newD_par V D _ _ b (spot_par hm)).symm
   ·rw [hW _ hst j hj hdj (.inr ⟨e1, e2⟩), h _ hst j hj hdj]; exact (newD_other V D _ _ b (.inr ⟨e1, e2⟩)).symm
 ·rw [hW st hst j hj hdj (.inl e), h st hst j hj hdj]; exact (newD_other V D _ _ b (.inl e)).symm
def WentW (s : ShM) (V : VolM) (D : Nat → Nat → Bytes) (c : Nat) (b : Bytes) (May : Nat → Bytes → Prop) (r : Int × ShM × VolM) : Prop :=
 Kn s V r.2.1 r.2.2 ∧ ((r.1 = 0 ∧ ∃ U M B O, LiveV r.2.1 (r.2.2.opn (spotN V.m c).stripe) U M (wrD V D c b) B O May) ∨ (r.1 = 3 ∧ Down r.2.1 r.2.2 May))
theorem mem_opn {t st : Nat} : t ∈ (V.opn st).opens ↔ t = st ∨ t ∈ V.opens := by
 unfold VolM.opn
 dsimp only
 split
 ·rename_i h
  have h := List.contains_iff_mem.1 h
  constructor
  ·exact .inr
  ·rintro (rfl | h2)
   ·exact h
   ·exact h2
 ·rw [List.mem_append, List.mem_singleton]; exact or_comm
theorem opens_eq {st : Nat} : (fun t => t ∈ (V.opn st).opens) = fun t => t = st ∨ t ∈ V.opens := funext fun _ => propext mem_opn
theorem LiveV.opened {W : Nat → Nat → Bytes} {s1 : ShM} {V1 : VolM} {c : Nat} {b : Bytes} (hcfg : Cfg s V) (hone : OneB V (aliveB s))
  (k1 : Kn s V s1 V1) (ha : ArrS s1 V1 W M')
  (hcv : CrashV V (aliveB s) M' (wrD V D c b) (fun t => t = (spotN V.m c).stripe ∨ t ∈ V1.opens) B O May)
  (hsame : ∀ st, st < V.stripes → ∀ j, j < V.m → (s.disk j).dead = false → W j (V.base + st) = wrD V D c b j st)
  (hfree : ∀ i, i < V.devs.length → aliveB s i = true → ∀ k, k < V.logs → (i, k) ∉ V1.used → ∀ x, M' i (2 + 2 * k) x → x = zeroSec)
  (hrec : ∀ i, i < V.devs.length → aliveB s i = true → ∀ k, k < V.logs → ∀ W : Nat → Bytes, M' i (2 + 2 * k) (W (2 + 2 * k)) → M' i (2 + 2 * k + 1) (W (2 + 2 * k + 1)) → ∀ r, SlotB W k (some r) → ∀ st, st < V.stripes → r.stripe = (st : Int) → parN V.m st = i → st = (spotN V.m c).stripe ∨ st ∈ V1.opens) :
  LiveV s1 (V1.opn (spotN V.m c).stripe) W M' (wrD V D c b) B O May := by
 have k2 : Kn s V s1 (V1.opn (spotN V.m c).stripe) := k1.same rfl rfl
 have em : V1.m = V.m := by unfold VolM.m; rw [k1.sup]
 have es : V1.stripes = V.stripes := by unfold VolM.stripes; rw [k1.sup]
 have eb : V1.base = V.base := by unfold VolM.base; rw [k1.sup]
 have el : V1.logs = V.logs := by unfold VolM.logs; rw [k1.sup]
 refine ⟨hcfg.kn k2, ha.devs rfl, ?_, hone.kn k2, fun st hst j hj hdj => ?_, fun i hi hai k hk hu => ?_, fun i hi hai k hk Y h1 h2 r hr st hst e1 e2 => ?_⟩
 ·rw [opens_eq]
  exact hcv.kn k2
 ·rw [k1.dead] at hdj
  show W j (V1.base + st) = _
  rw [eb]
  exact hsame st (by rw [← es]; exact hst) j (by rw [← em]; exact hj) hdj
 ·rw [k1.alive] at hai
  exact hfree i (by rw [← k1.len]; exact hi) hai k (by rw [← el]; exact hk) hu
 ·rw [k1.alive] at hai
  exact mem_opn.2 (hrec i (by rw [← k1.len]; exact hi) hai k (by rw [← el]; exact hk) Y h1 h2 r hr st (by rw [← es]; exact hst) e1 (by rw [← em]; exact e2))
theorem both_go {c : Nat} {b : Bytes} {at_ : SpotM} (hat : at_ = spotN V.m c) (hcfg : Cfg s V) (hone : OneB V (aliveB s)) (ha : ArrS s V U M) {Os : Nat → Prop} (hos : ∀ t, (t = at_.stripe ∨ t ∈ V.opens) ↔ (t = at_.stripe ∨ Os t)) (hcv : CrashV V (aliveB s) M D Os B O May) (hc : c < V.size) (hb : b.length = 128) (hmay : May c b) (hno : ¬ Os at_.stripe)
  (hsame : ∀ st, st < V.stripes → ∀ j, j < V.m → (s.disk j).dead = false → U j (V.base + st) = D j st)
  (hfree : ∀ i, i < V.devs.length → aliveB s i = true → ∀ k, k < V.logs → (i, k) ∉ V.used → ∀ x, M i (2 + 2 * k) x → x = zeroSec)
  (hrec : ∀ i, i < V.devs.length → aliveB s i = true → ∀ k, k < V.logs → ∀ W : Nat → Bytes, M i (2 + 2 * k) (W (2 + 2 * k)) → M i (2 + 2 * k + 1) (W (2 + 2 * k + 1)) → ∀ r, SlotB W k (some r) → ∀ st, st < V.stripes → r.stripe = (st : Int) → parN V.m st = i → (st = at_.stripe ∧ recM V st r = at_.member) ∨ Os st)
  (hd : (s.disk at_.member).dead = false) (hp : (s.disk (parN V.m at_.stripe)).dead = false)
  (hsure : ∃ k, k < V.logs ∧ ∀ W : Nat → Bytes, (∀ n, n < (V.dev (parN V.m at_.stripe)).size → M (parN V.m at_.stripe) n (W n)) → ∃ r, SlotB W k (some r) ∧ r.stripe = (at_.stripe : Int) ∧ recM V at_.stripe r = at_.member) :
  WentW s V D c b May (volBoth s V at_ (parN V.m at_.stripe) (partD V D at_.stripe at_.member) b) := by
 subst hat
 have hm3 := hcv.m3
 obtain ⟨f1, f2, f3, f4⟩ := hcv.facts
 have hbs : V.base = 2 + 2 * V.logs := rfl
 obtain ⟨q1, q2, _⟩ := spot_in hm3 hc
 have hjp : (spotN V.m c).member ≠ parN V.m (spotN V.m c).stripe := spot_par hm3
 have hpl : (xorB (partD V D (spotN V.m c).stripe (spotN V.m c).member) b).length = 128 := xorB_l128 (rest_len (by omega) (hcv.fits _ q1).len _) hb
 have open_ : ∀ M2 : Nat → Nat → Bytes → Prop, (∀ i, i < V.devs.length → aliveB s i = true → ∀ n, n < (V.dev i).size → ∀ x, M2 i n x → M i n x ∨ (n = V.base + (spotN V.m c).stripe ∧ ((i = (spotN V.m c).member ∧ x = b) ∨ (i = parN V.m (spotN V.m c).stripe ∧ x = xorB (partD V D (spotN V.m c).stripe (spotN V.m c).member) b)))) →
   CrashV V (aliveB s) M2 (wrD V D c b) (fun t => t = (spotN V.m c).stripe ∨ Os t) (updM B (spotN V.m c).stripe c) (updM O (spotN V.m c).stripe (D (spotN V.m c).member (spotN V.m c).stripe)) May := fun M2 hM2 =>
  hcv.openW hc hb hmay hno hM2 ha.allMay (fun hap k hk W hW r hr e => by
   have hz := f3 _ (f1 _ (f4 (spotN V.m c).stripe))
   rcases hrec _ (f1 _ (f4 _)) hap k hk W (hW _ (by omega)) (hW _ (by omega)) r hr _ q1 e rfl with ⟨_, z⟩ | z
   ·exact z
   ·exact absurd z hno) (fun _ _ => hsure)
 generalize hpd : partD V D (spotN V.m c).stripe (spotN V.m c).member = part at *
 unfold volBoth
 dsimp only
 rw [put_plain hcfg.sp]
 obtain ⟨k1, hw⟩ := ha.wr (f1 _ q2) (f2 _ q2 _ q1) hb
 generalize hv1 : volWr s V (spotN V.m c).member ((V.base + (spotN V.m c).stripe : Nat) : Int) b = x at *
 rcases hw with ⟨_, e1, a1⟩ | ⟨hd2, _⟩ | ⟨e1, ho, hf⟩
 ·rw [if_pos e1]
  have cv1 := open_ (updM M (spotN V.m c).member (Just1 (U (spotN V.m c).member) (V.base + (spotN V.m c).stripe) b)) fun i hi hai n hn y hy => by
   by_cases e : i = (spotN V.m c).member
   ·rw [e, updM_same] at hy
    rcases hy with hy | ⟨hy1, hy2⟩
    ·left; rw [hy, ← e]; exact ha.allMay i hi hai n hn
    ·exact .inr ⟨hy1, .inl ⟨e, hy2⟩⟩
   ·rw [updM_ne _ _ e] at hy; exact .inl hy
  have em : x.2.2.m = V.m := by unfold VolM.m; rw [k1.same.sup]
  have eb : x.2.2.base = V.base := by unfold VolM.base; rw [k1.same.sup]
  rw [put_plain (by rw [k1.same.sup]; exact hcfg.sp), eb]
  obtain ⟨k2, hw2⟩ := a1.wr (i := parN V.m (spotN V.m c).stripe) (by rw [k1.same.len]; exact f1 _ (f4 _)) (n := V.base + (spotN V.m c).stripe) (by rw [k1.sz]; exact f2 _ (f4 _) _ q1) hpl
  generalize hv2 : volWr x.2.1 x.2.2 (parN V.m (spotN V.m c).stripe) ((V.base + (spotN V.m c).stripe : Nat) : Int) (xorB part b) = y at *
  have kk := k1.trans k2
  rcases hw2 with ⟨_, e2, a2⟩ | ⟨hd2, _⟩ | ⟨e2, ho, hf⟩
  ·refine ⟨kk.kn, .inl ⟨e2, _, _, updM B (spotN V.m c).stripe c, updM O (spotN V.m c).stripe (D (spotN V.m c).member (spotN V.m c).stripe), LiveV.opened hcfg hone kk.kn a2 ?_ ?_ ?_ ?_⟩⟩
   ·rw [kk.same.opens, show (fun t => t = (spotN V.m c).stripe ∨ t ∈ V.opens) = fun t => t = (spotN V.m c).stripe ∨ Os t from funext fun t => propext (hos t)]
    refine open_ _ fun i hi hai n hn z hz => ?_
    by_cases e3 : i = parN V.m (spotN V.m c).stripe
    ·rw [e3, updM_same, updM_ne _ _ (Ne.symm hjp)] at hz
     rcases hz with hz | ⟨hz1, hz2⟩
     ·left; rw [hz, ← e3]; exact ha.allMay i hi hai n hn
     ·exact .inr ⟨hz1, .inr ⟨e3, hz2⟩⟩
    ·rw [updM_ne _ _ e3] at hz
     by_cases e : i = (spotN V.m c).member
     ·rw [e, updM_same] at hz
      rcases hz with hz | ⟨hz1, hz2⟩
      ·left; rw [hz, ← e]; exact ha.allMay i hi hai n hn
      ·exact .inr ⟨hz1, .inl ⟨e, hz2⟩⟩
     ·rw [updM_ne _ _ e] at hz; exact .inl hz
   ·refine LiveV.same_of (U := U) hsame (fun st hst j hj hdj hcc => ?_) (fun _ => ?_) hm3 (fun _ => ?_)
    ·by_cases e3 : j = parN V.m (spotN V.m c).stripe
     ·rw [e3, updM_same, updM_ne _ _ (Ne.symm hjp), updV, if_neg (by
       rcases hcc with hcc | hcc
       ·omega
       ·exact absurd e3 hcc.2)]
     ·rw [updM_ne _ _ e3]
      by_cases e : j = (spotN V.m c).member
      ·rw [e, updM_same, updV, if_neg (by
        rcases hcc with hcc | hcc
        ·omega
        ·exact absurd e hcc.1)]
      ·rw [updM_ne _ _ e]
    ·rw [updM_ne _ _ hjp, updM_same, updV, if_pos rfl]
    ·rw [updM_same, updV, if_pos rfl, hpd]
   ·intro i hi hai k hk hu z hz
    rw [kk.same.used] at hu
    refine hfree i hi hai k hk hu z ?_
    have hz3 := f3 i hi
    by_cases e3 : i = parN V.m (spotN V.m c).stripe
    ·rw [e3, updM_same, updM_ne _ _ (Ne.symm hjp)] at hz
     rcases hz with hz | ⟨hz1, hz2⟩
     ·rw [hz, ← e3]; exact ha.allMay i hi hai _ (by omega)
     ·exfalso; omega
    ·rw [updM_ne _ _ e3] at hz
     by_cases e : i = (spotN V.m c).member
     ·rw [e, updM_same] at hz
      rcases hz with hz | ⟨hz1, hz2⟩
      ·rw [hz, ← e]; exact ha.allMay i hi hai _ (by omega)
      ·exfalso; omega
     ·rw [updM_ne _ _ e] at hz; exact hz
   ·intro i hi hai k hk W h1 h2 r hr st hst e4 e5
    have hz3 := f3 i hi
    have hback : ∀ n, n < 2 + 2 * V.logs → ∀ z, updM (updM M (spotN V.m c).member (Just1 (U (spotN V.m c).member) (V.base + (spotN V.m c).stripe) b)) (parN V.m (spotN V.m c).stripe) (Just1 (updM U (spotN V.m c).member (updV (U (spotN V.m c).member) (V.base + (spotN V.m c).stripe) b) (parN V.m (spotN V.m c).stripe)) (V.base + (spotN V.m c).stripe) (xorB part b)) i n z → M i n z := fun n hn z hz => by
     by_cases e3 : i = parN V.m (spotN V.m c).stripe
     ·rw [e3, updM_same, updM_ne _ _ (Ne.symm hjp)] at hz
      rcases hz with hz | ⟨hz1, hz2⟩
      ·rw [hz, ← e3]; exact ha.allMay i hi hai _ (by omega)
      ·exfalso; omega
     ·rw [updM_ne _ _ e3] at hz
      by_cases e : i = (spotN V.m c).member
      ·rw [e, updM_same] at hz
       rcases hz with hz | ⟨hz1, hz2⟩
       ·rw [hz, ← e]; exact ha.allMay i hi hai _ (by omega)
       ·exfalso; omega
      ·rw [updM_ne _ _ e] at hz; exact hz
    rw [kk.same.opens]
    rcases hrec i hi hai k hk W (hback _ (by omega) _ h1) (hback _ (by omega) _ h2) r hr st hst e4 e5 with z | z
    ·exact .inl z.1
    ·exact (hos st).2 (.inr z)
  ·rw [k1.dead, hp] at hd2; cases hd2
  ·exact ⟨kk.kn, .inr ⟨e2, down_of hcfg hone kk.kn ho hf cv1⟩⟩
 ·rw [hd] at hd2; cases hd2
 ·rw [if_neg (by omega)]
  exact ⟨k1.kn, .inr ⟨e1, down_of hcfg hone k1.kn ho hf hcv⟩⟩
theorem LiveV.note {c : Nat} {b : Bytes} {at_ : SpotM} (hat : at_ = spotN V.m c) (h : LiveV s V U M D B O May) (hc : c < V.size) (hb : b.length = 128) (hmay : May c b) (hno : at_.stripe ∉ V.opens)
  (hd : (s.disk at_.member).dead = false) (hp : (s.disk (parN V.m at_.stripe)).dead = false) {n : Nat} (hn : n < V.logs) (hu : (parN V.m at_.stripe, n) ∉ V.used) :
  WentW s V D c b May (volNote s V at_ (parN V.m at_.stripe) (partD V D at_.stripe at_.member) b (parN V.m at_.stripe) n) := by
 have hm3 := h.cv.m3
 obtain ⟨f1, f2, f3, f4⟩ := h.cv.facts
 have hbs : V.base = 2 + 2 * V.logs := rfl
 have hq := spot_in hm3 hc
 have hpm := spot_place (m := V.m) (b := c) hm3
 rw [← hat] at hq hpm
 obtain ⟨q1, q2, q3⟩ := hq
 have hpl : (partD V D at_.stripe at_.member).length = 128 := rest_len (by omega) (h.cv.fits _ q1).len _
 have hrb := h.cfg.rb 0 (by have := f1 0 (by omega); omega)
 have hrb := of_decide_eq_true hrb
 have hmv : V.m = V.sup.members.toNat := rfl
 have hsv : V.stripes = V.sup.stripes.toNat := rfl
 have hpa : aliveB s (parN V.m at_.stripe) = true := (alive_iff s _).2 hp
 generalize hpd : partD V D at_.stripe at_.member = part at *
 generalize hpn : parN V.m at_.stripe = p at *
 have hpL : p < V.devs.length := by rw [← hpn]; exact f1 _ (f4 _)
 have hmb : mayB ⟨at_.stripe, at_.place, part⟩ = true := decide_eq_true ⟨by dsimp only; omega, by
  have := hrb.2.2.2.2.2.2.2.1
  dsimp only at this ⊢; omega, by dsimp only; omega, by
  have := hrb.2.2.2.1
  dsimp only at this ⊢; omega, hpl⟩
 have hrm : recM V at_.stripe ⟨at_.stripe, at_.place, part⟩ = at_.member := by unfold recM; rw [Int.toNat_natCast]; exact hpm
 unfold volNote
 dsimp only
 obtain ⟨k1, hw⟩ := h.arr.log hpL hn (f3 p hpL) hp hmb
 generalize volLog s V p n ⟨at_.stripe, at_.place, part⟩ = q at *
 have hharm : Harm V D (fun t => t ∈ V.opens) B p ⟨at_.stripe, at_.place, part⟩ := fun st hst e1 e2 => by
  have e1 : (at_.stripe : Int) = (st : Int) := e1
  have e1 : at_.stripe = st := by omega
  subst e1
  have hpl2 : ((at_.place : Nat) : Int) < V.sup.members - 1 := by have := q3; omega
  exact ⟨hpl2, by rw [hrm, hpd], fun ho => absurd ho hno⟩
 rcases hw with ⟨e1, a1⟩ | ⟨e1, ho, hf⟩
 ·rw [if_pos e1]
  have cv1 := h.cv.recd (U := U) hn (h.arr.allMay p hpL hpa) (h.free p hpL hpa n hn hu) hmb hharm (M' := updM M p (Just1 (updV (U p) (2 + 2 * n + 1) part) (2 + 2 * n) (hdBytes ⟨at_.stripe, at_.place, part⟩))) (fun i hi hai m hm x hx => by
   by_cases e : i = p
   ·rw [e, updM_same] at hx
    rcases hx with hx | hx
    ·unfold updV at hx
     split at hx
     ·rename_i e2; exact .inr ⟨e, .inr e2⟩
     ·left; rw [hx, ← e]; exact h.arr.allMay i hi hai m hm
    ·exact .inr ⟨e, .inl hx⟩
   ·rw [updM_ne _ _ e] at hx; exact .inl hx) (.inl fun x hx => by
    rw [updM_same] at hx
    rcases hx with hx | ⟨hx, _⟩
    ·rw [hx, updV, if_pos rfl]
    ·exfalso; omega)
  have a1' : ArrS q.2.1 (q.2.2.use (p, n)) _ _ := a1.devs (V' := q.2.2.use (p, n)) rfl
  have k1' : Kn s V q.2.1 (q.2.2.use (p, n)) := k1.kn.same rfl rfl
  obtain ⟨k2, hw2⟩ := a1'.fl (i := p) (by rw [k1'.len]; exact hpL)
  have kk := k1'.trans k2.kn
  have hused : (volFl q.2.1 (q.2.2.use (p, n)) p).2.2.used = (V.use (p, n)).used := by
   rw [k2.same.used]
   unfold VolM.use
   dsimp only
   rw [k1.same.used]
  have hopens : (volFl q.2.1 (q.2.2.use (p, n)) p).2.2.opens = V.opens := k2.same.opens.trans k1.same.opens
  generalize volFl q.2.1 (q.2.2.use (p, n)) p = f at *
  rcases hw2 with ⟨_, e2, a2⟩ | ⟨hd2, _⟩ | ⟨e2, ho⟩
  ·rw [if_pos e2]
   have k3 : Kn s V f.2.1 (f.2.2.opn at_.stripe) := kk.same rfl rfl
   have em : (f.2.2.opn at_.stripe).m = V.m := by unfold VolM.m; rw [k3.sup]
   have es : (f.2.2.opn at_.stripe).stripes = V.stripes := by unfold VolM.stripes; rw [k3.sup]
   have eb : (f.2.2.opn at_.stripe).base = V.base := by unfold VolM.base; rw [k3.sup]
   have el : (f.2.2.opn at_.stripe).logs = V.logs := by unfold VolM.logs; rw [k3.sup]
   have ez : (f.2.2.opn at_.stripe).size = V.size := by unfold VolM.size; rw [em, es]
   have ep : ∀ st j, partD (f.2.2.opn at_.stripe) D st j = partD V D st j := fun st j => by unfold partD; rw [em]
   have er : ∀ st r, recM (f.2.2.opn at_.stripe) st r = recM V st r := fun st r => by unfold recM; rw [em]
   have hU1 : ∀ m, m < (V.dev p).size → updM M p (Just1 (updV (U p) (2 + 2 * n + 1) part) (2 + 2 * n) (hdBytes ⟨at_.stripe, at_.place, part⟩)) p m (updM U p (updV (updV (U p) (2 + 2 * n + 1) part) (2 + 2 * n) (hdBytes ⟨at_.stripe, at_.place, part⟩)) p m) := fun m _ => by
    rw [updM_same, updM_same]
    unfold updV
    split
    ·rename_i e; exact .inr ⟨e, rfl⟩
    ·exact .inl rfl
   have cv2 := cv1.less (al2 := aliveB s) (M' := updM (updM M p (Just1 (updV (U p) (2 + 2 * n + 1) part) (2 + 2 * n) (hdBytes ⟨at_.stripe, at_.place, part⟩))) p (Just (updM U p (updV (updV (U p) (2 + 2 * n + 1) part) (2 + 2 * n) (hdBytes ⟨at_.stripe, at_.place, part⟩)) p))) (fun _ h => h) fun i hi hai m hm x hx => by
    by_cases e : i = p
    ·rw [e, updM_same] at hx
     rw [e] at hm ⊢
     have hx : x = _ := hx
     rw [hx]; exact hU1 m hm
    ·rw [updM_ne _ _ e] at hx; exact hx
   have cv3 := cv2.kn k3
   have hM2 : ∀ i, i < V.devs.length → aliveB s i = true → ∀ m, m < (V.dev i).size → (i = p → m ≠ 2 + 2 * n ∧ m ≠ 2 + 2 * n + 1) → ∀ x, updM (updM M p (Just1 (updV (U p) (2 + 2 * n + 1) part) (2 + 2 * n) (hdBytes ⟨at_.stripe, at_.place, part⟩))) p (Just (updM U p (updV (updV (U p) (2 + 2 * n + 1) part) (2 + 2 * n) (hdBytes ⟨at_.stripe, at_.place, part⟩)) p)) i m x → M i m x := fun i hi hai m hm hne x hx => by
    by_cases e : i = p
    ·obtain ⟨n1, n2⟩ := hne e
     rw [e, updM_same, updM_same] at hx
     have hx : x = _ := hx
     rw [updV, if_neg n1, updV, if_neg n2] at hx
     rw [hx, ← e]; exact h.arr.allMay i hi hai m hm
    ·rw [updM_ne _ _ e, updM_ne _ _ e] at hx; exact hx
   have hslot : ∀ W : Nat → Bytes, updM (updM M p (Just1 (updV (U p) (2 + 2 * n + 1) part) (2 + 2 * n) (hdBytes ⟨at_.stripe, at_.place, part⟩))) p (Just (updM U p (updV (updV (U p) (2 + 2 * n + 1) part) (2 + 2 * n) (hdBytes ⟨at_.stripe, at_.place, part⟩)) p)) p (2 + 2 * n) (W (2 + 2 * n)) → updM (updM M p (Just1 (updV (U p) (2 + 2 * n + 1) part) (2 + 2 * n) (hdBytes ⟨at_.stripe, at_.place, part⟩))) p (Just (updM U p (updV (updV (U p) (2 + 2 * n + 1) part) (2 + 2 * n) (hdBytes ⟨at_.stripe, at_.place, part⟩)) p)) p (2 + 2 * n + 1) (W (2 + 2 * n + 1)) → SlotB W n (some ⟨at_.stripe, at_.place, part⟩) := fun W h1 h2 => by
    rw [updM_same, updM_same] at h1 h2
    have h1 : W (2 + 2 * n) = _ := h1
    have h2 : W (2 + 2 * n + 1) = _ := h2
    rw [updV, if_pos rfl] at h1
    rw [updV, if_neg (by omega), updV, if_pos rfl] at h2
    exact ⟨hmb, h1, h2⟩
   have hpd' : partD (f.2.2.opn at_.stripe) D at_.stripe at_.member = part := by rw [ep, hpd]
   have hpn' : parN (f.2.2.opn at_.stripe).m at_.stripe = p := by rw [em, hpn]
   have hgo := both_go (s := f.2.1) (V := f.2.2.opn at_.stripe) (c := c) (b := b) (at_ := at_) (by rw [em]; exact hat) (h.cfg.kn k3) (h.one.kn k3) (a2.devs (V' := f.2.2.opn at_.stripe) rfl) (Os := fun t => t ∈ V.opens) (fun t => by
    rw [mem_opn, hopens, ← or_assoc, or_self]) cv3 (by rw [ez]; exact hc) hb hmay hno (fun st hst j hj hdj => by
     rw [es] at hst; rw [em] at hj; rw [eb]
     rw [kk.dead] at hdj
     by_cases e : j = p
     ·rw [e, updM_same, updV, if_neg (by omega), updV, if_neg (by omega), ← e]; exact h.same st hst j hj hdj
     ·rw [updM_ne _ _ e]; exact h.same st hst j hj hdj) (fun i hi hai k hk hu2 x hx => by
     rw [k3.len] at hi; rw [k3.alive] at hai; rw [el] at hk
     have hz := f3 i hi
     have hu3 : (i, k) ∉ (V.use (p, n)).used := by rw [← hused]; exact hu2
     have hnu : (i, k) ∉ V.used ∧ (i, k) ≠ (p, n) := by
      unfold VolM.use at hu3
      dsimp only at hu3
      split at hu3
      ·rename_i hc2; exact ⟨hu3, fun e => hu3 (by rw [e]; exact List.contains_iff_mem.1 hc2)⟩
      ·exact ⟨fun e => hu3 (List.mem_append_left _ e), fun e => hu3 (by rw [e]; exact List.mem_append_right _ (List.mem_singleton.2 rfl))⟩
     exact h.free i hi hai k hk hnu.1 x (hM2 i hi hai _ (by omega) (fun e => ⟨fun e2 => hnu.2 (by rw [e]; congr 1; omega), by omega⟩) x hx)) (fun i hi hai k hk W h1 h2 r hr st hst e5 e6 => by
     rw [k3.len] at hi; rw [k3.alive] at hai; rw [el] at hk; rw [es] at hst; rw [em] at e6
     have hz := f3 i hi
     rw [er]
     by_cases e7 : i = p ∧ k = n
     ·obtain ⟨e8, e9⟩ := e7
      subst e8; subst e9
      have hh := hslot W h1 h2
      have he := SlotB.one hh hr
      cases he
      left
      have e5 : (at_.stripe : Int) = (st : Int) := e5
      have e5 : st = at_.stripe := by omega
      subst e5
      exact ⟨rfl, hrm⟩
     ·have hne : i = p → k ≠ n := fun e1 e2 => e7 ⟨e1, e2⟩
      exact .inr (h.recOpen i hi hai k hk W (hM2 i hi hai _ (by omega) (fun e => ⟨by have := hne e; omega, by omega⟩) _ h1) (hM2 i hi hai _ (by omega) (fun e => ⟨by omega, by have := hne e; omega⟩) _ h2) r hr st hst e5 e6)) (by rw [kk.dead]; exact hd) (by rw [hpn', kk.dead]; exact hp) ⟨n, by rw [el]; exact hn, fun W hW => ⟨_, hslot W (by
      have := hW (2 + 2 * n) (by rw [hpn', k3.sz]; have := f3 p hpL; omega)
      rw [hpn'] at this; exact this) (by
      have := hW (2 + 2 * n + 1) (by rw [hpn', k3.sz]; have := f3 p hpL; omega)
      rw [hpn'] at this; exact this), rfl, by rw [er]; exact hrm⟩⟩
   rw [hpd', hpn'] at hgo
   generalize volBoth f.2.1 (f.2.2.opn at_.stripe) at_ p part b = z at *
   obtain ⟨g1, g2⟩ := hgo
   have hwd : wrD (f.2.2.opn at_.stripe) D c b = wrD V D c b := by unfold wrD newD; rw [em]; simp only [ep]
   rw [hwd, em] at g2
   exact ⟨k3.trans g1, g2⟩
  ·rw [k1.dead, hp] at hd2; cases hd2
  ·subst e2
   dsimp only
   rw [if_neg (by omega)]
   have hfl := a1'.fall
   refine ⟨kk, .inr ⟨rfl, ?_⟩⟩
   exact down_of h.cfg h.one k1' ho hfl cv1
 ·rw [if_neg (by omega)]
  have cv1 := h.cv.recd (U := U) hn (h.arr.allMay p hpL hpa) (h.free p hpL hpa n hn hu) hmb hharm (M' := updM M p (fun m x => M p m x ∨ (m = 2 + 2 * n + 1 ∧ x = part))) (fun i hi hai m hm x hx => by
   by_cases e : i = p
   ·rw [e, updM_same] at hx
    rcases hx with hx | hx
    ·left; rw [e]; exact hx
    ·exact .inr ⟨e, .inr hx.1⟩
   ·rw [updM_ne _ _ e] at hx; exact .inl hx) (.inr fun x hx => by
    rw [updM_same] at hx
    rcases hx with hx | ⟨hx, _⟩
    ·exact h.free p hpL hpa n hn hu x hx
    ·exfalso; omega)
  exact ⟨k1.kn, .inr ⟨e1, down_of h.cfg h.one k1.kn ho hf cv1⟩⟩
end
end
section
open Go.RowKit
section
variable {s s' s'' : ShM} {V V' V'' : VolM} {U D : Nat → Nat → Bytes} {M M' : Nat → Nat → Bytes → Prop} {al : Nat → Bool} {Op Op' : Nat → Prop} {B : Nat → Nat} {O : Nat → Bytes} {May May' : Nat → Bytes → Prop}
theorem Kn.ticked (t : Ticked s s') (V : VolM) : Kn s V s' V := (Kin.ticked t V).kn
theorem LiveV.ticked (h : LiveV s V U M D B O May) (t : Ticked s s') : LiveV s' V U M D B O May := by
 have k := Kn.ticked t V
 exact ⟨h.cfg.kn k, h.arr.ticked t, h.cv.kn k, h.one.kn k, fun st hst j hj hd => h.same st hst j hj (by rw [← t.disk]; exact hd), fun i hi ha => h.free i hi (by rw [← k.alive]; exact ha), fun i hi ha => h.recOpen i hi (by rw [← k.alive]; exact ha)⟩
theorem LiveV.stripes (h : LiveV s V U M D B O May) : Stripes s V U D := ⟨h.cfg.sp, h.cv.m3, h.cv.len, h.cv.room, fun st hst => (h.cv.fits st hst).len, fun st hst => (h.cv.fits st hst).zero, h.same⟩
theorem OneB.one1 (h : OneB V (aliveB s)) : One1 s V := fun i j hi hj h1 h2 => h i j hi hj (by unfold aliveB; rw [h1]; rfl) (by unfold aliveB; rw [h2]; rfl)
theorem slotFrom_some : ∀ (f n : Nat) (d k : Nat), slotFrom V d n f = some k → k < n + f ∧ (d, k) ∉ V.used
 | 0, n, d, k, h => by cases h
 | f + 1, n, d, k, h => by
  unfold slotFrom at h
  split at h
  ·obtain ⟨h1, h2⟩ := slotFrom_some f (n + 1) d k h; exact ⟨by omega, h2⟩
  ·rename_i hc
   cases h
   exact ⟨by omega, fun e => hc (List.contains_iff_mem.2 e)⟩
theorem WentW.after {c : Nat} {b : Bytes} {r : Int × ShM × VolM} (k : Kn s V s' V') (h : WentW s' V' D c b May r) : WentW s V D c b May r := by
 have em : V'.m = V.m := by unfold VolM.m; rw [k.sup]
 obtain ⟨h1, h2⟩ := h
 refine ⟨k.trans h1, ?_⟩
 have hwd : wrD V' D c b = wrD V D c b := by
  have ep : ∀ st j, partD V' D st j = partD V D st j := fun st j => by unfold partD; rw [em]
  unfold wrD newD; rw [em]; simp only [ep]
 rw [hwd, em] at h2
 exact h2
theorem LiveV.partOn (h : LiveV s V U M D B O May) (hon : s.off = false) {c : Nat} (hc : c < V.size) {at_ : SpotM} (hat : at_ = spotN V.m c) (hd : (s.disk at_.member).dead = false) (hp : (s.disk (parN V.m at_.stripe)).dead = false) :
  (volPart s V at_ (parN V.m at_.stripe) (restL V.m at_.stripe at_.member)).1 = partD V D at_.stripe at_.member ∧ (volPart s V at_ (parN V.m at_.stripe) (restL V.m at_.stripe at_.member)).2.1 = 0 ∧ Ticked s (volPart s V at_ (parN V.m at_.stripe) (restL V.m at_.stripe at_.member)).2.2 := by
 have hm3 := h.cv.m3
 have hm0 : 0 < V.m := by omega
 obtain ⟨f1, f2, f3, f4⟩ := h.cv.facts
 have hq := spot_in hm3 hc
 have hjp := spot_par (m := V.m) (b := c) hm3
 rw [← hat] at hq hjp
 obtain ⟨q1, q2, q3⟩ := hq
 have hl : ∀ j ∈ restL V.m at_.stripe at_.member, j < V.devs.length ∧ V.base + at_.stripe < (V.dev j).size := fun j hj => by
  have := ((restL_mem hm0).1 hj).1
  exact ⟨f1 j this, f2 j this _ q1⟩
 unfold volPart volTog
 dsimp only
 by_cases hdead : ∃ j ∈ restL V.m at_.stripe at_.member, (s.disk j).dead = true
 ·obtain ⟨e1, e2, e3⟩ := tog_dead h.cfg.sp at_.stripe _ s zeroSec h.arr hon hl hdead
  generalize togL s V at_.stripe zeroSec (restL V.m at_.stripe at_.member) = x at *
  rw [if_pos e2]
  have h' := h.ticked e3
  obtain ⟨g1, g2, g3⟩ := tog_on h'.cfg.sp at_.stripe [parN V.m at_.stripe, at_.member] x.2.2 zeroSec h'.arr (e3.off.trans hon) (fun j hj => by
   rcases List.mem_cons.1 hj with rfl | hj
   ·exact ⟨f1 _ (f4 _), f2 _ (f4 _) _ q1⟩
   ·have := List.mem_singleton.1 hj
    subst this
    exact ⟨f1 _ q2, f2 _ q2 _ q1⟩) (fun j hj => by
   rw [e3.disk]
   rcases List.mem_cons.1 hj with rfl | hj
   ·exact hp
   ·have := List.mem_singleton.1 hj
    subst this
    exact hd)
  refine ⟨?_, g2, e3.trans g3⟩
  rw [g1]
  show xorB (xorB zeroSec (U (parN V.m at_.stripe) (V.base + at_.stripe))) (U at_.member (V.base + at_.stripe)) = _
  rw [h.same _ q1 _ (f4 _) hp, h.same _ q1 _ q2 hd, xorB_comm zeroSec, xorB_zero ((h.cv.fits _ q1).len _ (f4 _))]
  exact (h.cv.fits _ q1).back hm0 q2 hjp
 ·have hal : ∀ j ∈ restL V.m at_.stripe at_.member, (s.disk j).dead = false := fun j hj => by
   cases e : (s.disk j).dead with
   | false => rfl
   | true => exact absurd ⟨j, hj, e⟩ hdead
  obtain ⟨e1, e2, e3⟩ := tog_on h.cfg.sp at_.stripe _ s zeroSec h.arr hon hl hal
  rw [if_neg (by omega)]
  refine ⟨?_, e2, e3⟩
  rw [e1]
  exact xorF_congr _ (fun j hj => h.same _ q1 _ ((restL_mem hm0).1 hj).1 (hal j hj)) _
theorem LiveV.update {c : Nat} {b : Bytes} {at_ : SpotM} (hat : at_ = spotN V.m c) (h : LiveV s V U M D B O May) (hon : s.off = false) (hc : c < V.size) (hb : b.length = 128) (hmay : May c b) (hno : at_.stripe ∉ V.opens)
  (hd : (s.disk at_.member).dead = false) (hp : (s.disk (parN V.m at_.stripe)).dead = false) : WentW s V D c b May (volUpdate s V at_ (parN V.m at_.stripe) (restL V.m at_.stripe at_.member) b) := by
 obtain ⟨e1, e2, t⟩ := h.partOn hon hc hat hd hp
 unfold volUpdate
 dsimp only
 generalize volPart s V at_ (parN V.m at_.stripe) (restL V.m at_.stripe at_.member) = x at *
 rw [if_pos e2, disk_plain h.cfg.sp]
 have h1 := h.ticked t
 have k1 := Kn.ticked t V
 unfold volFree
 split
 ·rename_i n hn
  obtain ⟨n1, n2⟩ := slotFrom_some _ _ _ _ hn
  dsimp only
  rw [if_pos rfl, e1]
  exact (h1.note hat hc hb hmay hno (by rw [t.disk]; exact hd) (by rw [t.disk]; exact hp) (by omega) n2).after k1
 ·dsimp only
  obtain ⟨k2, hf⟩ := h1.flush
  have kk := k1.trans k2
  generalize volFlush x.2.2 V = f at *
  rcases hf with ⟨e3, e4, e5, U2, M2, h2⟩ | ⟨e3, hdn⟩
  ·rw [if_pos e3, e1]
   have em : f.2.2.m = V.m := by unfold VolM.m; rw [kk.sup]
   have es : f.2.2.stripes = V.stripes := by unfold VolM.stripes; rw [kk.sup]
   have el : f.2.2.logs = V.logs := by unfold VolM.logs; rw [kk.sup]
   have ez : f.2.2.size = V.size := by unfold VolM.size; rw [em, es]
   have h3 := h2.mono (May' := May) fun q y hy => by
    rw [hy.2]; exact h1.cv.may q hy.1
   have hrb := of_decide_eq_true (h.cfg.rb 0 (by have := h.cv.facts.1 0 (by have := h.cv.m3; omega); omega))
   have hl1 : 0 < f.2.2.logs := by
    rw [el]
    have : (1 : Int) ≤ V.sup.logs := hrb.2.2.2.2.2.2.2.2.1
    unfold VolM.logs; omega
   have hgo := h3.note (at_ := at_) (by rw [em]; exact hat) (by rw [ez]; exact hc) hb hmay (by rw [e4]; exact List.not_mem_nil) (by rw [kk.dead]; exact hd) (by rw [em, kk.dead]; exact hp) (n := 0) hl1 (by rw [e5]; exact List.not_mem_nil)
   have ep : partD f.2.2 D at_.stripe at_.member = partD V D at_.stripe at_.member := by unfold partD; rw [em]
   rw [em, ep] at hgo
   exact hgo.after kk
  ·rw [if_neg (by omega)]
   exact ⟨kk, .inr ⟨e3, hdn⟩⟩
theorem LiveV.single {c : Nat} {b : Bytes} {at_ : SpotM} (hat : at_ = spotN V.m c) (h : LiveV s V U M D B O May) (hc : c < V.size) (hb : b.length = 128) (hmay : May c b) (hno : at_.stripe ∉ V.opens)
  {i : Nat} {y : Bytes} (hy : y.length = 128) (hi : (i = at_.member ∧ y = b ∧ (s.disk (parN V.m at_.stripe)).dead = true) ∨ (i = parN V.m at_.stripe ∧ y = xorB (partD V D at_.stripe at_.member) b ∧ (s.disk at_.member).dead = true)) (hd : (s.disk i).dead = false) :
  WentW s V D c b May (volPut s V i at_.stripe y) := by
 subst hat
 have hm3 := h.cv.m3
 obtain ⟨f1, f2, f3, f4⟩ := h.cv.facts
 have hbs : V.base = 2 + 2 * V.logs := rfl
 obtain ⟨q1, q2, _⟩ := spot_in hm3 hc
 have hjp : (spotN V.m c).member ≠ parN V.m (spotN V.m c).stripe := spot_par hm3
 have him : i < V.m := by
  rcases hi with hi | hi
  ·rw [hi.1]; exact q2
  ·rw [hi.1]; exact f4 _
 rw [put_plain h.cfg.sp]
 obtain ⟨k1, hw⟩ := h.arr.wr (f1 i him) (f2 i him _ q1) hy
 generalize volWr s V i ((V.base + (spotN V.m c).stripe : Nat) : Int) y = x at *
 have hback : ∀ i', i' < V.devs.length → aliveB s i' = true → ∀ n, n < (V.dev i').size → ∀ z, updM M i (Just1 (U i) (V.base + (spotN V.m c).stripe) y) i' n z → M i' n z ∨ (n = V.base + (spotN V.m c).stripe ∧ i' = i ∧ z = y) := fun i' hi' ha n hn z hz => by
  by_cases e : i' = i
  ·rw [e, updM_same] at hz
   rcases hz with hz | ⟨hz1, hz2⟩
   ·left; rw [hz, ← e]; exact h.arr.allMay i' hi' ha n hn
   ·exact .inr ⟨hz1, e, hz2⟩
  ·rw [updM_ne _ _ e] at hz; exact .inl hz
 rcases hw with ⟨_, e1, a1⟩ | ⟨hd2, _⟩ | ⟨e1, ho, hf⟩
 ·refine ⟨k1.kn, .inl ⟨e1, _, _, updM B (spotN V.m c).stripe c, updM O (spotN V.m c).stripe (D (spotN V.m c).member (spotN V.m c).stripe), LiveV.opened h.cfg h.one k1.kn a1 ?_ ?_ ?_ ?_⟩⟩
  ·rw [k1.same.opens]
   refine h.cv.openW hc hb hmay hno (fun i' hi' ha n hn z hz => ?_) h.arr.allMay (fun hap k hk W hW r hr e => ?_) (fun h1 h2 => ?_)
   ·rcases hback i' hi' ha n hn z hz with z1 | ⟨z1, z2, z3⟩
    ·exact .inl z1
    ·refine .inr ⟨z1, ?_⟩
     rcases hi with hi | hi
     ·exact .inl ⟨z2.trans hi.1, z3.trans hi.2.1⟩
     ·exact .inr ⟨z2.trans hi.1, z3.trans hi.2.1⟩
   ·have hz := f3 _ (f1 _ (f4 (spotN V.m c).stripe))
    exact absurd (h.recOpen _ (f1 _ (f4 _)) hap k hk W (hW _ (by omega)) (hW _ (by omega)) r hr _ q1 e rfl) hno
   ·exfalso
    rcases hi with hi | hi
    ·rw [(alive_iff s _).1 h1] at hi; exact absurd hi.2.2 (by simp)
    ·rw [(alive_iff s _).1 h2] at hi; exact absurd hi.2.2 (by simp)
  ·refine LiveV.same_of (U := U) h.same (fun st hst j hj hdj hcc => ?_) (fun hdj => ?_) hm3 (fun hdj => ?_)
   ·by_cases e : j = i
    ·rw [e, updM_same, updV, if_neg (by
      rcases hcc with hcc | ⟨c1, c2⟩
      ·omega
      ·rcases hi with hi | hi
       ·exact absurd (e.trans hi.1) c1
       ·exact absurd (e.trans hi.1) c2)]
    ·rw [updM_ne _ _ e]
   ·rcases hi with ⟨hi, hi2, _⟩ | ⟨_, _, hi⟩
    ·rw [← hi, updM_same, updV, if_pos rfl, hi2]
    ·rw [hdj] at hi; cases hi
   ·rcases hi with ⟨_, _, hi⟩ | ⟨hi, hi2, _⟩
    ·rw [hdj] at hi; cases hi
    ·rw [← hi, updM_same, updV, if_pos rfl, hi2]
  ·intro i' hi' hai k hk hu z hz
   rw [k1.same.used] at hu
   have hz3 := f3 i' hi'
   rcases hback i' hi' hai _ (by omega) z hz with z1 | ⟨z1, _⟩
   ·exact h.free i' hi' hai k hk hu z z1
   ·exfalso; omega
  ·intro i' hi' hai k hk W h1 h2 r hr st hst e4 e5
   have hz3 := f3 i' hi'
   rw [k1.same.opens]
   rcases hback i' hi' hai _ (by omega) _ h1 with z1 | ⟨z1, _⟩
   ·rcases hback i' hi' hai _ (by omega) _ h2 with z2 | ⟨z2, _⟩
    ·exact .inr (h.recOpen i' hi' hai k hk W z1 z2 r hr st hst e4 e5)
    ·exfalso; omega
   ·exfalso; omega
 ·rw [hd] at hd2; cases hd2
 ·exact ⟨k1.kn, .inr ⟨e1, down_of h.cfg h.one k1.kn ho hf h.cv⟩⟩
theorem LiveV.do {c : Nat} {b : Bytes} {at_ : SpotM} (hat : at_ = spotN V.m c) (h : LiveV s V U M D B O May) (hon : s.off = false) (hc : c < V.size) (hb : b.length = 128) (hmay : May c b) (hno : at_.stripe ∉ V.opens) : WentW s V D c b May (volDo s V at_ b) := by
 have hm3 := h.cv.m3
 have hm0 : 0 < V.m := by omega
 obtain ⟨f1, f2, f3, f4⟩ := h.cv.facts
 have hq := spot_in hm3 hc
 have hjp := spot_par (m := V.m) (b := c) hm3
 rw [← hat] at hq hjp
 obtain ⟨q1, q2, q3⟩ := hq
 have hdd : ∀ j, j < V.m → volDead s V j at_.stripe = (s.disk j).dead := fun j hj => by
  unfold volDead
  rw [disk_plain h.cfg.sp, h.arr.dd j (f1 j hj)]
 unfold volDo
 dsimp only
 rw [hdd _ q2, hdd _ (f4 _)]
 cases hd : (s.disk at_.member).dead with
 | true =>
  have hp : (s.disk (parN V.m at_.stripe)).dead = false := by
   cases e : (s.disk (parN V.m at_.stripe)).dead with
   | false => rfl
   | true => exact absurd (h.one.one1 _ _ q2 (f4 _) hd e) hjp
  rw [hp]
  rw [if_neg (by simp), if_neg (by simp), if_pos rfl]
  unfold volOnly volTog
  dsimp only
  have hal : ∀ j ∈ restL V.m at_.stripe at_.member, (s.disk j).dead = false := fun j hj => by
   obtain ⟨k1, k2, k3⟩ := (restL_mem hm0).1 hj
   cases e : (s.disk j).dead with
   | false => rfl
   | true => exact absurd (h.one.one1 _ _ k1 q2 e hd) k3
  obtain ⟨e1, e2, t⟩ := tog_on h.cfg.sp at_.stripe (restL V.m at_.stripe at_.member) s zeroSec h.arr hon (fun j hj => by
   have := ((restL_mem hm0).1 hj).1
   exact ⟨f1 j this, f2 j this _ q1⟩) hal
  have e1' : (togL s V at_.stripe zeroSec (restL V.m at_.stripe at_.member)).1 = partD V D at_.stripe at_.member := by
   rw [e1]
   exact xorF_congr _ (fun j hj => h.same _ q1 _ ((restL_mem hm0).1 hj).1 (hal j hj)) _
  show WentW s V D c b May (if (togL s V at_.stripe zeroSec (restL V.m at_.stripe at_.member)).2.1 = 0 then volPut (togL s V at_.stripe zeroSec (restL V.m at_.stripe at_.member)).2.2 V (parN V.m at_.stripe) at_.stripe (xorB (togL s V at_.stripe zeroSec (restL V.m at_.stripe at_.member)).1 b) else ((togL s V at_.stripe zeroSec (restL V.m at_.stripe at_.member)).2.1, (togL s V at_.stripe zeroSec (restL V.m at_.stripe at_.member)).2.2, V))
  generalize togL s V at_.stripe zeroSec (restL V.m at_.stripe at_.member) = x at *
  rw [if_pos e2, e1']
  have hpl : (xorB (partD V D at_.stripe at_.member) b).length = 128 := xorB_l128 (rest_len hm0 (h.cv.fits _ q1).len _) hb
  exact ((h.ticked t).single hat hc hb hmay hno hpl (.inr ⟨rfl, rfl, by rw [t.disk]; exact hd⟩) (by rw [t.disk]; exact hp)).after (Kn.ticked t V)
 | false =>
  cases hp : (s.disk (parN V.m at_.stripe)).dead with
  | true =>
   rw [if_neg (by simp), if_pos rfl]
   exact h.single hat hc hb hmay hno hb (.inl ⟨rfl, rfl, hp⟩) hd
  | false =>
   rw [if_neg (by simp), if_neg (by simp), if_neg (by simp)]
   exact h.update hat hon hc hb hmay hno hd hp
def WentX (s : ShM) (V : VolM) (D : Nat → Nat → Bytes) (c : Nat) (b : Bytes) (May : Nat → Bytes → Prop) (r : Int × ShM × VolM) : Prop :=
 Kn s V r.2.1 r.2.2 ∧ ((r.1 = 0 ∧ ∃ U M B O, LiveV r.2.1 r.2.2 U M (wrD V D c b) B O May) ∨ (r.1 = 3 ∧ Down r.2.1 r.2.2 May))
theorem WentX.after {c : Nat} {b : Bytes} {r : Int × ShM × VolM} (k : Kn s V s' V') (h : WentX s' V' D c b May r) : WentX s V D c b May r := by
 have em : V'.m = V.m := by unfold VolM.m; rw [k.sup]
 obtain ⟨h1, h2⟩ := h
 refine ⟨k.trans h1, ?_⟩
 have hwd : wrD V' D c b = wrD V D c b := by
  have ep : ∀ st j, partD V' D st j = partD V D st j := fun st j => by unfold partD; rw [em]
  unfold wrD newD; rw [em]; simp only [ep]
 rw [hwd] at h2
 exact h2
theorem LiveV.down (h : LiveV s V U M D B O May) (ho : s.off = true) : Down s V May := down_of h.cfg h.one (Kn.refl s V) ho h.arr.fall h.cv
theorem LiveV.once {c : Nat} {b : Bytes} (h : LiveV s V U M D B O May) (hc : c < V.size) (hb : b.length = 128) (hmay : May c b) (hno : (spotN V.m c).stripe ∉ V.opens) : WentX s V D c b May (volOnce s V (spotN V.m c) b) := by
 unfold volOnce
 cases ho : s.off with
 | true =>
  rw [if_pos rfl]
  exact ⟨Kn.refl s V, .inr ⟨rfl, h.down ho⟩⟩
 | false =>
  rw [if_neg Bool.false_ne_true]
  dsimp only
  obtain ⟨k1, hg⟩ := h.do rfl ho hc hb hmay hno
  generalize volDo s V (spotN V.m c) b = r at *
  rcases hg with ⟨e, U2, M2, B2, O2, hl⟩ | ⟨e, hdn⟩
  ·rw [if_pos e]
   exact ⟨k1.same rfl rfl, .inl ⟨rfl, U2, M2, B2, O2, hl⟩⟩
  ·rw [if_neg (by omega)]
   exact ⟨k1, .inr ⟨e, hdn⟩⟩
theorem LiveV.write {c : Nat} {b : Bytes} (h : LiveV s V U M D B O May) (hc : c < V.size) (hb : b.length = 128) (hmay : May c b) : WentX s V D c b May (volWrite s V c b) := by
 unfold volWrite
 rw [if_pos (by omega), if_pos hb, Int.toNat_natCast]
 dsimp only
 by_cases e : V.opens.contains (spotN V.m c).stripe = true
 ·rw [if_pos e]
  obtain ⟨k1, hf⟩ := h.flush
  generalize volFlush s V = f at *
  rcases hf with ⟨e3, e4, e5, U2, M2, h2⟩ | ⟨e3, hdn⟩
  ·rw [if_pos e3]
   have em : f.2.2.m = V.m := by unfold VolM.m; rw [k1.sup]
   have es : f.2.2.stripes = V.stripes := by unfold VolM.stripes; rw [k1.sup]
   have ez : f.2.2.size = V.size := by unfold VolM.size; rw [em, es]
   have h3 := h2.mono (May' := May) fun q y hy => by
    rw [hy.2]; exact h.cv.may q hy.1
   have hgo := h3.once (c := c) (b := b) (by rw [ez]; exact hc) hb hmay (by rw [e4]; exact List.not_mem_nil)
   rw [em] at hgo
   exact hgo.after k1
  ·rw [if_neg (by omega)]
   exact ⟨k1, .inr ⟨e3, hdn⟩⟩
 ·rw [if_neg e]
  exact h.once hc hb hmay fun h => e (List.contains_iff_mem.2 h)
end
end
section
open Go.RowKit
section
variable {s s' s'' : ShM} {V V' V'' : VolM} {U U0 D : Nat → Nat → Bytes} {M M' : Nat → Nat → Bytes → Prop} {al : Nat → Bool} {Op Op' : Nat → Prop} {B : Nat → Nat} {O : Nat → Bytes} {May May' : Nat → Bytes → Prop}
def CrashAt (V : VolM) (al : Nat → Bool) (M : Nat → Nat → Bytes → Prop) (May : Nat → Bytes → Prop) : Prop :=
 ∀ U' : Nat → Nat → Bytes, (∀ i, i < V.devs.length → al i = true → ∀ n, n < (V.dev i).size → M i n (U' i n)) →
  ∃ D, (∀ b, b < V.size → May b (D (spotN V.m b).member (spotN V.m b).stripe)) ∧ (∀ st, st < V.stripes → Cons V al U' D st) ∧ Head V al U'
theorem CrashOK.at (h : CrashOK V al M May) (h1 : OneB V al) : CrashAt V al M May := fun U' hU => h al (fun _ h => h) h1 U' hU
structure Fell (s : ShM) (V : VolM) (May : Nat → Bytes → Prop) : Prop where
 cfg : Cfg s V
 m3 : 3 ≤ V.m
 len : V.m ≤ V.devs.length
 room : ∀ j, j < V.devs.length → V.base + V.stripes ≤ (V.dev j).size
 one : OneB V (aliveB s)
 crash : ∃ M, Fall s V M ∧ CrashAt V (aliveB s) M May
theorem Down.fell (h : Down s V May) : Fell s V May := ⟨h.cfg, h.m3, h.len, h.room, h.one, let ⟨M, a, b⟩ := h.crash; ⟨M, a, b.at h.one⟩⟩
theorem LiveV.fell (h : LiveV s V U M D B O May) : Fell s V May := ⟨h.cfg, h.cv.m3, h.cv.len, h.cv.room, h.one, M, h.arr.fall, h.cv.ok.at h.one⟩
structure Ready (s : ShM) (Y : Sup) (May : Nat → Bytes → Prop) : Prop where
 cfg : Cfg s (volBuild s Y)
 m3 : 3 ≤ (volBuild s Y).m
 len : (volBuild s Y).m ≤ (volBuild s Y).devs.length
 room : ∀ j, j < (volBuild s Y).devs.length → (volBuild s Y).base + (volBuild s Y).stripes ≤ ((volBuild s Y).dev j).size
 one : OneB (volBuild s Y) (aliveB s)
 cons : ∃ U D, ArrS s (volBuild s Y) U (fun i => Just (U i)) ∧ (∀ b, b < (volBuild s Y).size → May b (D (spotN (volBuild s Y).m b).member (spotN (volBuild s Y).m b).stripe)) ∧ (∀ st, st < (volBuild s Y).stripes → Cons (volBuild s Y) (aliveB s) U D st) ∧ Head (volBuild s Y) (aliveB s) U
theorem Cons.vol {st : Nat} (h : Cons V al U D st) (hs : V'.sup = V.sup) : Cons V' al U D st := by
 obtain ⟨sup, devs, opens, used⟩ := V'
 cases hs
 exact ⟨h.fits, h.data, h.recs, h.par⟩
theorem Head.vol (h : Head V al U) (hs : V'.sup = V.sup) (hl : V'.devs.length = V.devs.length) : Head V' al U := by
 obtain ⟨sup, devs, opens, used⟩ := V'
 cases hs
 exact ⟨fun i hi => h.sup0 i (by rw [← hl]; exact hi), fun i hi => h.sup1 i (by rw [← hl]; exact hi), fun i hi => h.slot i (by rw [← hl]; exact hi)⟩
theorem Fell.ready (h : Fell s V May) (keep : List (List Int)) : Ready (s.crash keep) V.sup May := by
 obtain ⟨M, hf, hc⟩ := h.crash
 obtain ⟨U', ha, hu⟩ := fall_crash hf keep V.sup
 obtain ⟨b1, b2⟩ := build_devs (s.crash keep) V.sup
 have hcl := crash_len s keep
 have hsl := hf.slen
 have hal : aliveB (s.crash keep) = aliveB s := funext fun i => by unfold aliveB; rw [crash_dead]
 have hlen : (volBuild (s.crash keep) V.sup).devs.length = V.devs.length := by omega
 have hz : ∀ j, j < V.devs.length → ((volBuild (s.crash keep) V.sup).dev j).size = (V.dev j).size := fun j hj => by
  have h1 := ha.sz j (by omega)
  have h2 := hf.sz j hj
  have e : (s.crash keep).sectors = s.sectors := rfl
  rw [e] at h1
  omega
 obtain ⟨D, d1, d2, d3⟩ := hc U' fun i hi hai n hn => hu i hi ((alive_iff s i).1 hai) n hn
 refine ⟨⟨h.cfg.sp, fun i hi => h.cfg.rb i (by omega), ?_, h.cfg.gen, h.cfg.need⟩, h.m3, by rw [hlen]; exact h.len, fun j hj => ?_, by rw [hal]; exact h.one, U', D, ha, d1, fun st hst => ?_, ?_⟩
 ·rw [hlen]; exact h.cfg.dl
 ·rw [hlen] at hj; rw [hz j hj]; exact h.room j hj
 ·rw [hal]; exact (d2 st hst).vol rfl
 ·rw [hal]; exact d3.vol rfl hlen
structure Powr (s s' : ShM) : Prop where
 disks : s'.disks = s.disks
 sec : s'.sectors = s.sectors
theorem Powr.disk (t : Powr s s') (i : Nat) : s'.disk i = s.disk i := by unfold ShM.disk; rw [t.disks]
theorem Powr.alive (t : Powr s s') : aliveB s' = aliveB s := funext fun i => by unfold aliveB; rw [t.disk]
theorem Powr.ok (t : Powr s s') (o : s.Ok) : s'.Ok := ⟨by rw [t.disks]; exact o.disks1, by rw [t.disks]; exact o.disks17, by rw [t.sec]; exact o.sectors1, by rw [t.sec]; exact o.sectors4096, by rw [t.disks, t.sec]; exact o.sure, by rw [t.disks]; exact o.sec, by rw [t.disks, t.sec]; exact o.waits⟩
theorem ArrS.powr (h : ArrS s V U M) (t : Powr s s') : ArrS s' V U M :=
 ⟨t.ok h.ok, by rw [t.disks]; exact h.slen, h.dd, fun i hi => by rw [t.sec]; exact h.sz i hi, fun e => by rw [t.disk]; exact h.room e, fun i hi hd => by
  have hl := h.live i hi (by rw [← t.disk]; exact hd)
  exact ⟨⟨⟨t.ok hl.p.pow.ok, by rw [t.disks]; exact hl.p.pow.disk, by rw [t.disk]; exact hl.p.pow.alive⟩, by rw [t.sec]; exact hl.p.size, fun e => by rw [t.disk]; exact hl.p.room e⟩, by rw [t.disk]; exact hl.live⟩⟩
theorem Fall.powr (h : Fall s V M) (t : Powr s s') : Fall s' V M :=
 ⟨t.ok h.ok, by rw [t.disks]; exact h.slen, h.dd, fun i hi => by rw [t.sec]; exact h.sz i hi, fun e => by rw [t.disk]; exact h.room e, fun i hi hd => by rw [t.disk]; exact h.crash i hi (by rw [← t.disk]; exact hd)⟩
theorem Cfg.powr (h : Cfg s V) (t : Powr s s') : Cfg s' V := ⟨h.sp, h.rb, h.dl, h.gen, by rw [t.sec]; exact h.need⟩
theorem LiveV.powr (h : LiveV s V U M D B O May) (t : Powr s s') : LiveV s' V U M D B O May :=
 ⟨h.cfg.powr t, h.arr.powr t, by rw [t.alive]; exact h.cv, by rw [t.alive]; exact h.one, fun st hst j hj hd => h.same st hst j hj (by rw [← t.disk]; exact hd), fun i hi ha => h.free i hi (by rw [← t.alive]; exact ha), fun i hi ha => h.recOpen i hi (by rw [← t.alive]; exact ha)⟩
theorem volBuild_powr (t : Powr s s') (Y : Sup) : volBuild s' Y = volBuild s Y := by unfold volBuild devsOf; rw [t.disks, t.sec]
theorem Ready.powr {Y : Sup} (h : Ready s Y May) (t : Powr s s') : Ready s' Y May := by
 obtain ⟨U, D, h1, h2, h3, h4⟩ := h.cons
 refine ⟨by rw [volBuild_powr t]; exact h.cfg.powr t, by rw [volBuild_powr t]; exact h.m3, by rw [volBuild_powr t]; exact h.len, by rw [volBuild_powr t]; exact h.room, by rw [volBuild_powr t, t.alive]; exact h.one, U, D, ?_⟩
 rw [volBuild_powr t, t.alive]
 exact ⟨h1.powr t, h2, h3, h4⟩
theorem Ticked.powr (t : Ticked s s') : Powr s s' := ⟨t.2.2.1, t.2.2.2⟩
theorem dec_zero : decOK zeroSec = false := by
 cases h : decOK zeroSec with
 | false => rfl
 | true => exact absurd (dec_magic h) (by simp [magicL, zeroSec])
theorem heard_dead {Y : Sup} (h : ArrS s (volBuild s Y) U M) (hon : s.off = false) {d : Nat} (hd : d < (volBuild s Y).devs.length) (hdd : (s.disk d).dead = true) {n : Nat} (hn : n < ((volBuild s Y).dev d).size) : heardR s d n = (noSup, 4, s) := by
 obtain ⟨b1, b2⟩ := build_devs s Y
 have e := h.read hd hn
 rw [hon, hdd, if_neg Bool.false_ne_true, if_pos rfl, b2 d (by omega)] at e
 unfold heardR
 dsimp only
 rw [e]
 dsimp only
 rw [if_neg (by omega)]
theorem heard_none {Y : Sup} (h : ArrS s (volBuild s Y) U M) (hon : s.off = false) {d : Nat} (hd : d < (volBuild s Y).devs.length) (hdd : (s.disk d).dead = false) {n : Nat} (hn : n < ((volBuild s Y).dev d).size) (hU : U d n = zeroSec) : heardR s d n = (noSup, 8, s.tick.tick) := by
 obtain ⟨b1, b2⟩ := build_devs s Y
 have e := h.read hd hn
 rw [hon, hdd, if_neg Bool.false_ne_true, if_neg Bool.false_ne_true, b2 d (by omega), hU] at e
 unfold heardR
 dsimp only
 rw [e]
 dsimp only
 rw [if_pos rfl, dec_zero, if_neg Bool.false_ne_true]
theorem heard_some {Y : Sup} (h : ArrS s (volBuild s Y) U M) (hon : s.off = false) {d : Nat} (hd : d < (volBuild s Y).devs.length) (hdd : (s.disk d).dead = false) (hcfg : Cfg s (volBuild s Y)) (hn : 1 < ((volBuild s Y).dev d).size) (hU : U d 1 = supBytes { Y with disk := d }) : heardR s d 1 = ({ Y with disk := d }, 0, s.tick.tick) := by
 obtain ⟨b1, b2⟩ := build_devs s Y
 have e := h.read hd hn
 rw [hon, hdd, if_neg Bool.false_ne_true, if_neg Bool.false_ne_true, b2 d (by omega), hU] at e
 obtain ⟨d1, d2⟩ := decOK_sup { Y with disk := d } (hcfg.rb d hd)
 unfold heardR
 dsimp only
 have hc : ((1 : Nat) : Int) = 1 := rfl
 rw [show devRead s ⟨d, (blocksI s.sectors).toNat, -1⟩ ((1 : Nat) : Int) = _ from e]
 dsimp only
 rw [if_pos rfl, d1, if_pos rfl, d2]
 have hk : hearOk s d 1 { Y with disk := d } = true := by
  have hl : (s.disks.length : Int) = Y.members ∨ (s.disks.length : Int) = Y.members + 1 := by
   have := hcfg.dl
   rw [b1] at this
   exact this
  have hs : Y.spare < 0 := hcfg.sp
  exact decide_eq_true ⟨rfl, hcfg.gen, hl, hcfg.need, fun e => absurd e.1 (by show ¬ (0 ≤ Y.spare); omega)⟩
 rw [hk, if_pos rfl]
theorem hear_all {Y : Sup} : ∀ (f d : Nat) (s : ShM), ArrS s (volBuild s Y) U M → s.off = false → Cfg s (volBuild s Y) → Head (volBuild s Y) (aliveB s) U → (∀ j, j < (volBuild s Y).devs.length → 1 < ((volBuild s Y).dev j).size) → d + f = (volBuild s Y).devs.length →
  Ticked s (hearFrom s d f).2 ∧ (∀ x ∈ (hearFrom s d f).1, ∃ i, i < (volBuild s Y).devs.length ∧ x = { Y with disk := ((i : Nat) : Int) }) ∧ ((∃ i, d ≤ i ∧ i < d + f ∧ aliveB s i = true) → (hearFrom s d f).1 ≠ [])
 | 0, d, s, h, hon, hcfg, hh, hz, hf => ⟨Ticked.refl s, (fun x hx => absurd hx List.not_mem_nil), (fun ⟨i, h1, h2, _⟩ => absurd h2 (by omega))⟩
 | f + 1, d, s, h, hon, hcfg, hh, hz, hf => by
  have hd : d < (volBuild s Y).devs.length := by omega
  have hs2 := hz d hd
  have hc0 : ((0 : Nat) : Int) = 0 := rfl
  unfold hearFrom hearIn
  dsimp only
  unfold hearIn
  dsimp only
  cases hdd : (s.disk d).dead with
  | true =>
   rw [heard_dead h hon hd hdd (n := 0) (by omega), heard_dead h hon hd hdd (n := 0 + 1) (by omega)]
   dsimp only
   rw [if_neg (by omega), if_neg (by omega)]
   unfold hearIn
   dsimp only
   obtain ⟨t, h1, h2⟩ := hear_all f (d + 1) s h hon hcfg hh hz (by omega)
   refine ⟨t, fun x hx => h1 x (by simpa using hx), fun ⟨i, i1, i2, i3⟩ => ?_⟩
   rw [List.nil_append]
   refine h2 ⟨i, ?_, by omega, i3⟩
   by_cases e : i = d
   ·subst e; rw [(alive_iff s i).1 i3] at hdd; cases hdd
   ·omega
  | false =>
   have hal := (alive_iff s d).2 hdd
   have t := Ticked.tick2 s
   have hon' : s.tick.tick.off = false := t.off.trans hon
   have h' := h.powr t.powr
   have e1 : heardR s.tick.tick d 1 = ({ Y with disk := d }, 0, s.tick.tick.tick.tick) := by
    have hv : volBuild s.tick.tick Y = volBuild s Y := volBuild_powr t.powr Y
    exact heard_some (U := U) (M := M) (by rw [hv]; exact h') hon' (by rw [hv]; exact hd) (by rw [t.disk]; exact hdd) (by rw [hv]; exact hcfg.powr t.powr) (by rw [hv]; exact hs2) (hh.sup1 d hd hal)
   rw [heard_none h hon hd hdd (n := 0) (by omega) (hh.sup0 d hd hal)]
   dsimp only
   rw [show heardR s.tick.tick d (0 + 1) = _ from e1]
   dsimp only
   rw [if_neg (by omega), if_pos rfl]
   unfold hearIn
   dsimp only
   have t2 := t.trans (Ticked.tick2 s.tick.tick)
   have hv : volBuild s.tick.tick.tick.tick Y = volBuild s Y := volBuild_powr t2.powr Y
   obtain ⟨t3, h1, h2⟩ := hear_all f (d + 1) s.tick.tick.tick.tick (by rw [hv]; exact h.powr t2.powr) (t2.off.trans hon) (by rw [hv]; exact hcfg.powr t2.powr) (by rw [hv, t2.powr.alive]; exact hh) (by rw [hv]; exact hz) (by rw [hv]; omega)
   rw [hv] at h1
   refine ⟨t2.trans t3, fun x hx => ?_, fun _ => by simp⟩
   rcases List.mem_cons.1 (by simpa using hx) with e | hx
   ·exact ⟨d, hd, e⟩
   ·exact h1 x hx
theorem newest_mem {l : List Sup} (h : l ≠ []) : l.getD (newestTo l l.length) noSup ∈ l := by
 have hl : 0 < l.length := List.length_pos_iff.2 h
 have := (newestTo_spec l l.length).1
 have hlt : newestTo l l.length < l.length := by omega
 rw [List.getD_eq_getElem?_getD, List.getElem?_eq_getElem hlt]
 exact List.getElem_mem hlt
theorem tell_none {Y : Sup} {W : VolM} : ∀ (f d : Nat) (s : ShM), ArrS s (volBuild s Y) U M → s.off = false → Cfg s (volBuild s Y) → Head (volBuild s Y) (aliveB s) U → (∀ j, j < (volBuild s Y).devs.length → 1 < ((volBuild s Y).dev j).size) → (∃ i : Nat, W.sup = { Y with disk := (i : Int) }) → d + f = (volBuild s Y).devs.length →
  (tellFrom s W d f).1 = 0 ∧ Ticked s (tellFrom s W d f).2.1 ∧ (tellFrom s W d f).2.2 = W
 | 0, d, s, h, hon, hcfg, hh, hz, hw, hf => ⟨rfl, Ticked.refl s, rfl⟩
 | f + 1, d, s, h, hon, hcfg, hh, hz, hw, hf => by
  have hd : d < (volBuild s Y).devs.length := by omega
  obtain ⟨i0, hi0⟩ := hw
  have hg : (W.sup.gen % 2).toNat = 1 := by
   have e : W.sup.gen = Y.gen := by rw [hi0]
   have e2 : Y.gen % 2 = 1 := hcfg.gen
   rw [e, e2]; rfl
  unfold tellFrom
  dsimp only
  rw [hg]
  cases hdd : (s.disk d).dead with
  | true =>
   rw [heard_dead h hon hd hdd (n := 1) (hz d hd)]
   dsimp only
   rw [if_pos (.inl rfl)]
   exact tell_none f (d + 1) s h hon hcfg hh hz ⟨i0, hi0⟩ (by omega)
  | false =>
   have hal := (alive_iff s d).2 hdd
   rw [heard_some h hon hd hdd hcfg (hz d hd) (hh.sup1 d hd hal)]
   dsimp only
   have hk : alikeB { Y with disk := (d : Int) } W.sup = true := by rw [hi0]; exact decide_eq_true ⟨rfl, rfl, rfl, rfl, rfl, rfl, rfl⟩
   rw [if_pos (.inr ⟨rfl, hk⟩)]
   have t := Ticked.tick2 s
   have hv : volBuild s.tick.tick Y = volBuild s Y := volBuild_powr t.powr Y
   obtain ⟨a, b, c⟩ := tell_none f (d + 1) s.tick.tick (by rw [hv]; exact h.powr t.powr) (t.off.trans hon) (by rw [hv]; exact hcfg.powr t.powr) (by rw [hv, t.powr.alive]; exact hh) (by rw [hv]; exact hz) ⟨i0, hi0⟩ (by rw [hv]; omega)
   exact ⟨a, t.trans b, c⟩
end
end
section
open Go.RowKit
section
variable {s s' s'' s0 : ShM} {V V' V'' V0 : VolM} {U U0 D : Nat → Nat → Bytes} {M M' : Nat → Nat → Bytes → Prop} {al : Nat → Bool} {May May' : Nat → Bytes → Prop}
structure RcvC (s0 : ShM) (V0 : VolM) (U0 D : Nat → Nat → Bytes) : Prop where
 cfg : Cfg s0 V0
 m3 : 3 ≤ V0.m
 len : V0.m ≤ V0.devs.length
 room : ∀ j, j < V0.devs.length → V0.base + V0.stripes ≤ (V0.dev j).size
 one : OneB V0 (aliveB s0)
 cons : ∀ st, st < V0.stripes → Cons V0 (aliveB s0) U0 D st
 head : Head V0 (aliveB s0) U0
def RcvM (s0 : ShM) (V0 : VolM) (U0 D : Nat → Nat → Bytes) (M : Nat → Nat → Bytes → Prop) : Prop :=
 ∀ i, i < V0.devs.length → aliveB s0 i = true → ∀ n, n < (V0.dev i).size → ∀ x, M i n x → x = U0 i n ∨ ∃ st, st < V0.stripes ∧ n = V0.base + st ∧ i = parN V0.m st ∧ x = D i st
theorem RcvC.facts (c : RcvC s0 V0 U0 D) : (∀ j, j < V0.m → j < V0.devs.length) ∧ (∀ j, j < V0.m → ∀ st, st < V0.stripes → V0.base + st < (V0.dev j).size) ∧ (∀ j, j < V0.devs.length → 2 + 2 * V0.logs ≤ (V0.dev j).size) ∧ (∀ st, parN V0.m st < V0.m) := by
 have h1 := c.len
 have h3 := c.m3
 have hb : V0.base = 2 + 2 * V0.logs := rfl
 refine ⟨fun j hj => by omega, fun j hj st hst => ?_, fun j hj => ?_, fun st => parN_lt (by omega)⟩
 ·have := c.room j (by omega); omega
 ·have := c.room j hj; omega
theorem RcvM.log (c : RcvC s0 V0 U0 D) (h : RcvM s0 V0 U0 D M) {i : Nat} (hi : i < V0.devs.length) (ha : aliveB s0 i = true) {n : Nat} (hn : n < 2 + 2 * V0.logs) {x : Bytes} (hx : M i n x) : x = U0 i n := by
 have := c.facts.2.2.1 i hi
 have hb : V0.base = 2 + 2 * V0.logs := rfl
 rcases h i hi ha n (by omega) x hx with e | ⟨st, _, e, _⟩
 ·exact e
 ·exfalso; omega
theorem RcvM.data (c : RcvC s0 V0 U0 D) (h : RcvM s0 V0 U0 D M) {st j : Nat} (hst : st < V0.stripes) (hj : j < V0.m) (hp : j ≠ parN V0.m st) (ha : aliveB s0 j = true) {x : Bytes} (hx : M j (V0.base + st) x) : x = D j st := by
 obtain ⟨f1, f2, f3, f4⟩ := c.facts
 rcases h j (f1 j hj) ha _ (f2 j hj st hst) x hx with e | ⟨t, _, e, e2, _⟩
 ·rw [e]; exact (c.cons st hst).data j hj hp ha
 ·have : t = st := by omega
  rw [this] at e2
  exact absurd e2 hp
theorem RcvM.par (c : RcvC s0 V0 U0 D) (h : RcvM s0 V0 U0 D M) {st : Nat} (hst : st < V0.stripes) (ha : aliveB s0 (parN V0.m st) = true) {x : Bytes} (hx : M (parN V0.m st) (V0.base + st) x) : x = U0 (parN V0.m st) (V0.base + st) ∨ x = D (parN V0.m st) st := by
 obtain ⟨f1, f2, f3, f4⟩ := c.facts
 rcases h _ (f1 _ (f4 st)) ha _ (f2 _ (f4 st) st hst) x hx with e | ⟨t, _, e, _, e3⟩
 ·exact .inl e
 ·have : t = st := by omega
  rw [this] at e3
  exact .inr e3
theorem RcvC.crash (c : RcvC s0 V0 U0 D) (h : RcvM s0 V0 U0 D M) (hmay : ∀ b, b < V0.size → May b (D (spotN V0.m b).member (spotN V0.m b).stripe)) : CrashAt V0 (aliveB s0) M May := by
 obtain ⟨f1, f2, f3, f4⟩ := c.facts
 intro U' hu
 have hl : ∀ i, i < V0.devs.length → aliveB s0 i = true → ∀ n, n < 2 + 2 * V0.logs → U' i n = U0 i n := fun i hi ha n hn => h.log c hi ha hn (hu i hi ha n (by have := f3 i hi; omega))
 refine ⟨D, hmay, fun st hst => ?_, fun i hi ha => ?_, fun i hi ha => ?_, fun i hi ha k hk => ?_⟩
 ·have k := c.cons st hst
  refine ⟨k.fits, fun j hj hp ha => h.data c hst hj hp ha (hu j (f1 j hj) ha _ (f2 j hj st hst)), fun ha q hq r hr => ?_, fun ha => ?_⟩
  ·exact k.recs ha q hq r (hr.congr (hl _ (f1 _ (f4 st)) ha _ (by omega)).symm (hl _ (f1 _ (f4 st)) ha _ (by omega)).symm)
  ·rcases h.par c hst ha (hu _ (f1 _ (f4 st)) ha _ (f2 _ (f4 st) st hst)) with e | e
   ·rw [e]
    rcases k.par ha with z | ⟨q, r, z1, z2, z3, z4⟩
    ·exact .inl z
    ·exact .inr ⟨q, r, z1, z2.congr (hl _ (f1 _ (f4 st)) ha _ (by omega)) (hl _ (f1 _ (f4 st)) ha _ (by omega)), z3, z4⟩
   ·exact .inl e
 ·rw [hl i hi ha 0 (by omega)]; exact c.head.sup0 i hi ha
 ·rw [hl i hi ha 1 (by omega)]; exact c.head.sup1 i hi ha
 ·obtain ⟨o, ho⟩ := c.head.slot i hi ha k hk
  exact ⟨o, ho.congr (hl i hi ha _ (by omega)) (hl i hi ha _ (by omega))⟩
theorem CrashAt.vol (h : CrashAt V al M May) (hs : V'.sup = V.sup) (hl : V'.devs.length = V.devs.length) (hz : ∀ j, (V'.dev j).size = (V.dev j).size) : CrashAt V' al M May := by
 intro U' hu
 obtain ⟨D, d1, d2, d3⟩ := h U' fun i hi ha n hn => hu i (by rw [hl]; exact hi) ha n (by rw [hz]; exact hn)
 have em : V'.m = V.m := by unfold VolM.m; rw [hs]
 have es : V'.stripes = V.stripes := by unfold VolM.stripes; rw [hs]
 have ez : V'.size = V.size := by unfold VolM.size; rw [em, es]
 exact ⟨D, fun b hb => by rw [em]; exact d1 b (by rw [← ez]; exact hb), fun st hst => (d2 st (by rw [← es]; exact hst)).vol hs, d3.vol hs hl⟩
theorem RcvC.fell (c : RcvC s0 V0 U0 D) (h : RcvM s0 V0 U0 D M) (hmay : ∀ b, b < V0.size → May b (D (spotN V0.m b).member (spotN V0.m b).stripe)) (k : Kn s0 V0 s V) (hf : Fall s V M) : Fell s V May := by
 have em : V.m = V0.m := by unfold VolM.m; rw [k.sup]
 have es : V.stripes = V0.stripes := by unfold VolM.stripes; rw [k.sup]
 have eb : V.base = V0.base := by unfold VolM.base; rw [k.sup]
 refine ⟨c.cfg.kn k, by rw [em]; exact c.m3, by rw [em, k.len]; exact c.len, fun j hj => ?_, c.one.kn k, M, hf, ?_⟩
 ·rw [eb, es, k.sz]; exact c.room j (by rw [← k.len]; exact hj)
 ·rw [k.alive]
  exact (c.crash h hmay).vol k.sup k.len k.sz
structure Rcv (s0 : ShM) (V0 : VolM) (U0 D : Nat → Nat → Bytes) (s : ShM) (V : VolM) (U : Nat → Nat → Bytes) (M : Nat → Nat → Bytes → Prop) : Prop where
 kn : Kn s0 V0 s V
 arr : ArrS s V U M
 may : RcvM s0 V0 U0 D M
theorem Rcv.ticked (h : Rcv s0 V0 U0 D s V U M) (t : Ticked s s') : Rcv s0 V0 U0 D s' V U M := ⟨h.kn.trans (Kn.ticked t V), h.arr.ticked t, h.may⟩
theorem Rcv.allMay (h : Rcv s0 V0 U0 D s V U M) {i : Nat} (hi : i < V0.devs.length) (ha : aliveB s0 i = true) {n : Nat} (hn : n < (V0.dev i).size) : M i n (U i n) :=
 h.arr.allMay i (by rw [h.kn.len]; exact hi) (by rw [h.kn.alive]; exact ha) n (by rw [h.kn.sz]; exact hn)
theorem redo_go (c : RcvC s0 V0 U0 D) (h : Rcv s0 V0 U0 D s V U M) (hon : s.off = false) {i k : Nat} (hi : i < V0.devs.length) (hai : aliveB s0 i = true) (hk : k < V0.logs) {r : Rec} (hr : SlotB (U0 i) k (some r)) :
  ((volRedo s V i r).1 = 0 ∧ (volRedo s V i r).2.2.used = V.used ∧ ∃ U' M', Rcv s0 V0 U0 D (volRedo s V i r).2.1 (volRedo s V i r).2.2 U' M' ∧ (∀ j st, U j (V0.base + st) = D j st → U' j (V0.base + st) = D j st) ∧ (∀ st, st < V0.stripes → r.stripe = (st : Int) → parN V0.m st = i → aliveB s0 (recM V0 st r) = true → U' i (V0.base + st) = D i st)) ∨
  ((volRedo s V i r).1 = 3 ∧ (volRedo s V i r).2.1.off = true ∧ Kn s0 V0 (volRedo s V i r).2.1 (volRedo s V i r).2.2 ∧ Fall (volRedo s V i r).2.1 (volRedo s V i r).2.2 M) := by
 obtain ⟨f1, f2, f3, f4⟩ := c.facts
 have hm0 : 0 < V0.m := by have := c.m3; omega
 have em : V.m = V0.m := by unfold VolM.m; rw [h.kn.sup]
 have es : V.stripes = V0.stripes := by unfold VolM.stripes; rw [h.kn.sup]
 have eb : V.base = V0.base := by unfold VolM.base; rw [h.kn.sup]
 have hsp : V.sup.spare < 0 := by rw [h.kn.sup]; exact c.cfg.sp
 obtain ⟨hm1, hm2, hm3, hm4, hm5⟩ := of_decide_eq_true hr.1
 have stop : volRedo s V i r = (0, s, V) → (∀ st, st < V0.stripes → r.stripe = (st : Int) → parN V0.m st = i → aliveB s0 (recM V0 st r) = true → U i (V0.base + st) = D i st) → ((volRedo s V i r).1 = 0 ∧ (volRedo s V i r).2.2.used = V.used ∧ ∃ U' M', Rcv s0 V0 U0 D (volRedo s V i r).2.1 (volRedo s V i r).2.2 U' M' ∧ (∀ j st, U j (V0.base + st) = D j st → U' j (V0.base + st) = D j st) ∧ (∀ st, st < V0.stripes → r.stripe = (st : Int) → parN V0.m st = i → aliveB s0 (recM V0 st r) = true → U' i (V0.base + st) = D i st)) := fun e hd => by
  rw [e]; exact ⟨rfl, rfl, U, M, h, fun _ _ h => h, hd⟩
 by_cases hin : r.stripe < V.sup.stripes ∧ r.place < V.sup.members - 1
 ·have hstL : r.stripe.toNat < V0.stripes := by rw [← es]; unfold VolM.stripes; omega
  have hst : r.stripe = ((r.stripe.toNat : Nat) : Int) := by omega
  generalize r.stripe.toNat = st at hstL hst
  by_cases hpi : parN V0.m st = i
  ·have hplm : r.place.toNat < V0.m - 1 := by rw [← em]; unfold VolM.m; omega
   have hpm := place_mem (m := V0.m) (st := st) hm0 hplm
   have hrm : recM V0 st r = (parN V0.m st + 1 + r.place.toNat) % V0.m := hpm.1
   have hjl : recM V0 st r < V0.m := by rw [hrm]; exact hpm.2.1
   have hjp : recM V0 st r ≠ parN V0.m st := by rw [hrm]; exact hpm.2.2
   have hcons := c.cons st hstL
   have hap : aliveB s0 (parN V0.m st) = true := by rw [hpi]; exact hai
   obtain ⟨_, hpart⟩ := hcons.recs hap k hk r (by rw [hpi]; exact hr) hst
   have hjd : (s.disk (recM V0 st r)).dead = (s0.disk (recM V0 st r)).dead := h.kn.dead _
   have hget : ∀ j, volGet s V j st = devRead s (V.dev j) ((V0.base + st : Nat) : Int) := fun j => by unfold volGet; rw [disk_plain hsp, eb]
   have hget2 : ∀ s1 j, volGet s1 V j st = devRead s1 (V.dev j) ((V0.base + st : Nat) : Int) := fun s1 j => by unfold volGet; rw [disk_plain hsp, eb]
   have hrj := h.arr.read (i := recM V0 st r) (by rw [h.kn.len]; exact f1 _ hjl) (n := V0.base + st) (by rw [h.kn.sz]; exact f2 _ hjl _ hstL)
   rw [hon, if_neg Bool.false_ne_true] at hrj
   have hun : volRedo s V i r = (let g := volGet s V (recM V0 st r) st
    if g.2.1 = 0 then
     let w := volGet g.2.2 V (parN V0.m st) st
     if w.2.1 = 0 ∧ w.1 = xorB r.part g.1 then (0, w.2.2, V) else volPut w.2.2 V (parN V0.m st) st (xorB r.part g.1)
    else if g.2.1 = 3 then (3, g.2.2, V) else (0, g.2.2, V)) := by
    unfold volRedo
    rw [if_pos hin]
    have e1 : r.stripe.toNat = st := by omega
    dsimp only
    rw [e1, em, disk_plain hsp, if_pos hpi]
    rfl
   cases hd : (s.disk (recM V0 st r)).dead with
   | true =>
    rw [hd, if_pos rfl] at hrj
    have e : volRedo s V i r = (0, s, V) := by
     rw [hun]; dsimp only; rw [hget, hrj]; dsimp only; rw [if_neg (by omega), if_neg (by omega)]
    refine .inl (stop e fun st' h1 h2 h3 h4 => ?_)
    have : st' = st := by omega
    subst this
    have := (alive_iff s0 _).1 h4
    rw [hjd] at hd; rw [this] at hd; cases hd
   | false =>
    rw [hd, if_neg Bool.false_ne_true] at hrj
    have haj : aliveB s0 (recM V0 st r) = true := (alive_iff s0 _).2 (by rw [← hjd]; exact hd)
    have hUj : U (recM V0 st r) (V0.base + st) = D (recM V0 st r) st := h.may.data c hstL hjl hjp haj (h.allMay (f1 _ hjl) haj (f2 _ hjl _ hstL))
    have hwant : xorB r.part (U (recM V0 st r) (V0.base + st)) = D (parN V0.m st) st := by rw [hUj, hpart]; exact hcons.fits.part hm0 hjl hjp
    have t := Ticked.tick2 s
    have hrp := (h.arr.ticked t).read (i := parN V0.m st) (by rw [h.kn.len]; exact f1 _ (f4 _)) (n := V0.base + st) (by rw [h.kn.sz]; exact f2 _ (f4 _) _ hstL)
    have hpd : (s.disk (parN V0.m st)).dead = false := by rw [h.kn.dead]; exact (alive_iff s0 _).1 hap
    rw [t.off, hon, if_neg Bool.false_ne_true, t.disk, hpd, if_neg Bool.false_ne_true] at hrp
    rw [hget] at hun
    rw [hrj] at hun
    dsimp only at hun
    rw [if_pos rfl, hget2, hrp] at hun
    dsimp only at hun
    rw [hwant] at hun
    have t2 := t.trans (Ticked.tick2 s.tick.tick)
    by_cases hwas : U (parN V0.m st) (V0.base + st) = D (parN V0.m st) st
    ·rw [if_pos ⟨rfl, hwas⟩] at hun
     rw [hun]
     refine .inl ⟨rfl, rfl, U, M, h.ticked t2, fun _ _ h => h, fun st' h1 h2 h3 h4 => ?_⟩
     have : st' = st := by omega
     subst this
     rw [← h3]; exact hwas
    ·rw [if_neg (fun e => hwas e.2), put_plain hsp, eb] at hun
     rw [hun]
     have h2 := h.ticked t2
     obtain ⟨k1, hw⟩ := h2.arr.wr (i := parN V0.m st) (by rw [h2.kn.len]; exact f1 _ (f4 _)) (n := V0.base + st) (by rw [h2.kn.sz]; exact f2 _ (f4 _) _ hstL) (hcons.fits.len _ (f4 _))
     have hused : (volWr s.tick.tick.tick.tick V (parN V0.m st) ((V0.base + st : Nat) : Int) (D (parN V0.m st) st)).2.2.used = V.used := k1.same.used
     generalize volWr s.tick.tick.tick.tick V (parN V0.m st) ((V0.base + st : Nat) : Int) (D (parN V0.m st) st) = y at *
     rcases hw with ⟨_, e1, a1⟩ | ⟨hd2, _⟩ | ⟨e1, ho, hf⟩
     ·refine .inl ⟨e1, hused, _, _, ⟨h2.kn.trans k1.kn, a1, fun j hj haj n hn x hx => ?_⟩, fun j st' hold => ?_, fun st' h1 h2 h3 h4 => ?_⟩
      ·by_cases e : j = parN V0.m st
       ·subst e
        rw [updM_same] at hx
        rcases hx with hx | ⟨hx, hx2⟩
        ·exact h.may _ hj haj n hn x (by rw [hx]; exact h.allMay hj haj hn)
        ·exact .inr ⟨st, hstL, hx, rfl, hx2⟩
       ·rw [updM_ne _ _ e] at hx; exact h.may j hj haj n hn x hx
      ·by_cases e : j = parN V0.m st
       ·subst e
        rw [updM_same, updV]
        split
        ·rename_i e2
         have : st' = st := by omega
         rw [this]
        ·exact hold
       ·rw [updM_ne _ _ e]; exact hold
      ·have : st' = st := by omega
       subst this
       rw [← h3, updM_same, updV, if_pos rfl]
     ·rw [t2.disk, hpd] at hd2; cases hd2
     ·exact .inr ⟨e1, ho, h2.kn.trans k1.kn, hf⟩
  ·have e : volRedo s V i r = (0, s, V) := by
    unfold volRedo
    rw [if_pos hin]
    have e1 : r.stripe.toNat = st := by omega
    dsimp only
    rw [e1, em, disk_plain hsp, if_neg hpi]
   refine .inl (stop e fun st' h1 h2 h3 _ => ?_)
   have : st' = st := by omega
   subst this
   exact absurd h3 hpi
 ·have e : volRedo s V i r = (0, s, V) := by unfold volRedo; rw [if_neg hin]
  refine .inl (stop e fun st h1 h2 h3 h4 => ?_)
  exfalso
  have hap : aliveB s0 (parN V0.m st) = true := by rw [h3]; exact hai
  obtain ⟨hpl, _⟩ := (c.cons st h1).recs hap k hk r (by rw [h3]; exact hr) h2
  refine hin ⟨?_, by rw [h.kn.sup]; exact hpl⟩
  have h1 : st < V.stripes := by rw [es]; exact h1
  unfold VolM.stripes at h1
  omega
def Done (s0 : ShM) (V0 : VolM) (U0 D : Nat → Nat → Bytes) (us : List (Nat × Nat)) (U : Nat → Nat → Bytes) (i n : Nat) : Prop :=
 ∀ j q, j < V0.devs.length → aliveB s0 j = true → q < V0.logs → (j < i ∨ (j = i ∧ q < n)) → ∀ r, SlotB (U0 j) q (some r) → (j, q) ∈ us ∧ ∀ st, st < V0.stripes → r.stripe = (st : Int) → parN V0.m st = j → aliveB s0 (recM V0 st r) = true → U j (V0.base + st) = D j st
theorem getLog_off (h : ArrS s V U M) {i : Nat} (hi : i < V.devs.length) {k : Nat} (hk : k < V.logs) (hz : 2 + 2 * V.logs ≤ (V.dev i).size) (ho : s.off = true) : logGet s (V.dev i) V.logs (k : Int) = (noRec, 3, s) := by
 have hso : slotOk V.logs (k : Int) = true := decide_eq_true ⟨by omega, by omega⟩
 have c1 : (2 + 2 * (k : Int)) = ((2 + 2 * k : Nat) : Int) := by omega
 have e1 := h.read hi (n := 2 + 2 * k) (by omega)
 rw [ho, if_pos rfl] at e1
 unfold logGet
 rw [if_pos hso, c1, e1]
 dsimp only
 rw [if_neg (by omega)]
theorem getLog_dead (h : ArrS s V U M) {i : Nat} (hi : i < V.devs.length) {k : Nat} (hk : k < V.logs) (hz : 2 + 2 * V.logs ≤ (V.dev i).size) (ho : s.off = false) (hd : (s.disk i).dead = true) : logGet s (V.dev i) V.logs (k : Int) = (noRec, 4, s) := by
 have hso : slotOk V.logs (k : Int) = true := decide_eq_true ⟨by omega, by omega⟩
 have c1 : (2 + 2 * (k : Int)) = ((2 + 2 * k : Nat) : Int) := by omega
 have e1 := h.read hi (n := 2 + 2 * k) (by omega)
 rw [ho, if_neg Bool.false_ne_true, hd, if_pos rfl] at e1
 unfold logGet
 rw [if_pos hso, c1, e1]
 dsimp only
 rw [if_neg (by omega)]
theorem mem_use {V : VolM} {k x : Nat × Nat} (h : x ∈ V.used ∨ x = k) : x ∈ (V.use k).used := by
 unfold VolM.use
 dsimp only
 split
 ·rename_i hc
  rcases h with h | h
  ·exact h
  ·rw [h]; exact List.contains_iff_mem.1 hc
 ·rcases h with h | h
  ·exact List.mem_append_left _ h
  ·rw [h]; exact List.mem_append_right _ (List.mem_singleton.2 rfl)
theorem recIn_go (c : RcvC s0 V0 U0 D) : ∀ (f i n : Nat) (s : ShM) (V : VolM) (U : Nat → Nat → Bytes) (M : Nat → Nat → Bytes → Prop), n + f = V0.logs → i < V0.devs.length → Rcv s0 V0 U0 D s V U M → Done s0 V0 U0 D V.used U i n →
    (((recIn s V i n f).1 = 0 ∧ ∃ U' M', Rcv s0 V0 U0 D (recIn s V i n f).2.1 (recIn s V i n f).2.2 U' M' ∧ Done s0 V0 U0 D (recIn s V i n f).2.2.used U' (i + 1) 0) ∨
     ((recIn s V i n f).1 = 3 ∧ (recIn s V i n f).2.1.off = true ∧ Kn s0 V0 (recIn s V i n f).2.1 (recIn s V i n f).2.2 ∧ ∃ M', RcvM s0 V0 U0 D M' ∧ Fall (recIn s V i n f).2.1 (recIn s V i n f).2.2 M'))
  | 0, i, n, s, V, U, M, hf, hi, h, hd => .inl ⟨rfl, U, M, h, fun j q hj ha hq hc r hr => hd j q hj ha hq (by
      rcases hc with hc | ⟨_, hc⟩
      · by_cases e : j = i
        · exact .inr ⟨e, by omega⟩
        · exact .inl (by omega)
      · omega) r hr⟩
  | f + 1, i, n, s, V, U, M, hf, hi, h, hd => by
    obtain ⟨f1, f2, f3, f4⟩ := c.facts
    have el : V.logs = V0.logs := by unfold VolM.logs; rw [h.kn.sup]
    have hi' : i < V.devs.length := by rw [h.kn.len]; exact hi
    have hz : 2 + 2 * V.logs ≤ (V.dev i).size := by rw [el, h.kn.sz]; exact f3 i hi
    have hn : n < V.logs := by omega
    unfold recIn
    dsimp only
    cases ho : s.off with
    | true =>
      rw [getLog_off h.arr hi' hn hz ho]
      dsimp only
      rw [if_neg (by omega), if_pos rfl]
      exact .inr ⟨rfl, ho, h.kn, M, h.may, h.arr.fall⟩
    | false =>
      cases hdd : (s.disk i).dead with
      | true =>
        rw [getLog_dead h.arr hi' hn hz ho hdd]
        dsimp only
        rw [if_pos (.inl rfl)]
        refine recIn_go c f i (n + 1) s V U M (by omega) hi h fun j q hj ha hq hc r hr => hd j q hj ha hq ?_ r hr
        rcases hc with hc | ⟨hc, hc2⟩
        · exact .inl hc
        · exfalso
          rw [h.kn.dead] at hdd
          rw [hc] at ha
          rw [(alive_iff s0 i).1 ha] at hdd; cases hdd
      | false =>
        have hai : aliveB s0 i = true := (alive_iff s0 i).2 (by rw [← h.kn.dead]; exact hdd)
        obtain ⟨o, ho2⟩ := c.head.slot i hi hai n (by omega)
        have hUl : ∀ q, q < 2 + 2 * V0.logs → U i q = U0 i q := fun q hq => h.may.log c hi hai hq (h.allMay hi hai (by have := f3 i hi; omega))
        obtain ⟨g1, g2, g3⟩ := h.arr.getLog hi' hn hz hdd ho (ho2.congr (hUl _ (by omega)) (hUl _ (by omega)))
        generalize logGet s (V.dev i) V.logs (n : Int) = g at *
        cases o with
        | none =>
          have g2 : g.2.1 = 7 := g2
          rw [if_pos (.inr g2)]
          refine recIn_go c f i (n + 1) g.2.2 V U M (by omega) hi (h.ticked g3) fun j q hj ha hq hc r hr => ?_
          by_cases e : j = i ∧ q = n
          · obtain ⟨e1, e2⟩ := e
            subst e1; subst e2
            exact absurd (SlotB.one ho2 hr) (by simp)
          · refine hd j q hj ha hq ?_ r hr
            rcases hc with hc | ⟨hc, hc2⟩
            · exact .inl hc
            · exact .inr ⟨hc, by
                by_cases e2 : q = n
                · exact absurd ⟨hc, e2⟩ e
                · omega⟩
        | some r =>
          have g2 : g.2.1 = 0 := g2
          have g1 : g.1 = r := g1
          rw [if_neg (by omega), if_neg (by omega), if_pos g2, g1]
          have hr := redo_go c (h.ticked g3) (g3.off.trans ho) hi hai (k := n) (by omega) ho2
          generalize volRedo g.2.2 V i r = y at *
          rcases hr with ⟨e1, e2, U', M', h2, h3, h4⟩ | ⟨e1, e2, e3, e4⟩
          · rw [if_pos e1]
            refine recIn_go c f i (n + 1) y.2.1 (y.2.2.use (i, n)) U' M' (by omega) hi ⟨h2.kn.same rfl rfl, h2.arr.devs rfl, h2.may⟩ fun j q hj ha hq hc r' hr' => ?_
            by_cases e : j = i ∧ q = n
            · obtain ⟨e5, e6⟩ := e
              subst e5; subst e6
              have := SlotB.one ho2 hr'
              cases this
              exact ⟨mem_use (.inr rfl), h4⟩
            · obtain ⟨z1, z2⟩ := hd j q hj ha hq (by
                rcases hc with hc | ⟨hc, hc2⟩
                · exact .inl hc
                · exact .inr ⟨hc, by
                    by_cases e2 : q = n
                    · exact absurd ⟨hc, e2⟩ e
                    · omega⟩) r' hr'
              exact ⟨mem_use (.inl (by rw [e2]; exact z1)), fun st a1 a2 a3 a4 => h3 _ _ (z2 st a1 a2 a3 a4)⟩
          · rw [if_neg (by omega)]
            exact .inr ⟨e1, e2, e3, M, h.may, e4⟩
theorem recFrom_go (c : RcvC s0 V0 U0 D) : ∀ (f i : Nat) (s : ShM) (V : VolM) (U : Nat → Nat → Bytes) (M : Nat → Nat → Bytes → Prop), i + f = V0.devs.length → Rcv s0 V0 U0 D s V U M → Done s0 V0 U0 D V.used U i 0 →
    (((recFrom s V i f).1 = 0 ∧ ∃ U' M', Rcv s0 V0 U0 D (recFrom s V i f).2.1 (recFrom s V i f).2.2 U' M' ∧ Done s0 V0 U0 D (recFrom s V i f).2.2.used U' V0.devs.length 0) ∨
     ((recFrom s V i f).1 = 3 ∧ (recFrom s V i f).2.1.off = true ∧ Kn s0 V0 (recFrom s V i f).2.1 (recFrom s V i f).2.2 ∧ ∃ M', RcvM s0 V0 U0 D M' ∧ Fall (recFrom s V i f).2.1 (recFrom s V i f).2.2 M'))
  | 0, i, s, V, U, M, hf, h, hd => .inl ⟨rfl, U, M, h, by rw [← hf]; exact hd⟩
  | f + 1, i, s, V, U, M, hf, h, hd => by
    have el : V.logs = V0.logs := by unfold VolM.logs; rw [h.kn.sup]
    unfold recFrom
    dsimp only
    rw [el]
    have hr := recIn_go c V0.logs i 0 s V U M (by omega) (by omega) h hd
    generalize recIn s V i 0 V0.logs = y at *
    rcases hr with ⟨e1, U', M', h2, h3⟩ | ⟨e1, e2⟩
    · rw [if_pos e1]
      exact recFrom_go c f (i + 1) y.2.1 y.2.2 U' M' (by omega) h2 h3
    · rw [if_neg (by omega)]
      exact .inr ⟨e1, e2⟩
theorem recover_go (c : RcvC s0 V0 U0 D) (hmay : ∀ b, b < V0.size → May b (D (spotN V0.m b).member (spotN V0.m b).stripe)) (hu : V0.used = []) (h : Rcv s0 V0 U0 D s V0 U0 M) (t : Ticked s0 s) :
    Kn s0 V0 (volRecover s V0).2.1 (volRecover s V0).2.2 ∧
    (((volRecover s V0).1 = 0 ∧ (volRecover s V0).2.2.opens = [] ∧ (volRecover s V0).2.2.used = [] ∧ ∃ U M B O, LiveV (volRecover s V0).2.1 (volRecover s V0).2.2 U M D B O (JustD V0 D)) ∨
     ((volRecover s V0).1 = 3 ∧ (volRecover s V0).2.1.off = true ∧ Fell (volRecover s V0).2.1 (volRecover s V0).2.2 May)) := by
  obtain ⟨f1, f2, f3, f4⟩ := c.facts
  unfold volRecover
  dsimp only
  have hr := recFrom_go c V0.devs.length 0 s V0 U0 M (by omega) h (fun j q _ _ _ hc => by omega)
  generalize recFrom s V0 0 V0.devs.length = y at *
  rcases hr with ⟨e1, U', M', h2, hdone⟩ | ⟨e1, e2, e3, M', e4, e5⟩
  · rw [if_pos e1]
    have em : y.2.2.m = V0.m := by unfold VolM.m; rw [h2.kn.sup]
    have es : y.2.2.stripes = V0.stripes := by unfold VolM.stripes; rw [h2.kn.sup]
    have eb : y.2.2.base = V0.base := by unfold VolM.base; rw [h2.kn.sup]
    have el : y.2.2.logs = V0.logs := by unfold VolM.logs; rw [h2.kn.sup]
    have ez : y.2.2.size = V0.size := by unfold VolM.size; rw [em, es]
    have hlog : ∀ i, i < V0.devs.length → aliveB s0 i = true → ∀ n, n < 2 + 2 * V0.logs → U' i n = U0 i n := fun i hi ha n hn => h2.may.log c hi ha hn (h2.allMay hi ha (by have := f3 i hi; omega))
    have hsame : ∀ st, st < V0.stripes → ∀ j, j < V0.m → aliveB s0 j = true → U' j (V0.base + st) = D j st := fun st hst j hj ha => by
      by_cases e : j = parN V0.m st
      · subst e
        rcases h2.may.par c hst ha (h2.allMay (f1 _ hj) ha (f2 _ hj _ hst)) with z | z
        · rcases (c.cons st hst).par ha with z2 | ⟨q, r, q1, q2, q3, q4⟩
          · rw [z]; exact z2
          · exact (hdone _ q (f1 _ hj) ha q1 (.inl (f1 _ hj)) r q2).2 st hst q3 rfl q4
        · exact z
      · exact h2.may.data c hst hj e ha (h2.allMay (f1 _ hj) ha (f2 _ hj _ hst))
    have cvj : CrashV V0 (aliveB s0) (fun i => Just (U' i)) D (fun _ => False) (fun _ => 0) (fun _ => []) (JustD V0 D) := by
      refine ⟨c.m3, c.len, c.room, fun st hst => (c.cons st hst).fits, fun b hb => ⟨hb, rfl⟩, fun st hst j hj ha _ x hx => ?_, fun st hst ho => ho.elim, fun i hi ha x hx => ?_, fun i hi ha x hx => ?_, fun i hi ha k hk W hW => ?_⟩
      · have hx : x = _ := hx
        rw [hx]; exact hsame st hst j hj ha
      · have hx : x = _ := hx
        rw [hx, hlog i hi ha 0 (by omega)]; exact c.head.sup0 i hi ha
      · have hx : x = _ := hx
        rw [hx, hlog i hi ha 1 (by omega)]; exact c.head.sup1 i hi ha
      · obtain ⟨o, ho⟩ := c.head.slot i hi ha k hk
        have hz := f3 i hi
        have e1 : W (2 + 2 * k) = U0 i (2 + 2 * k) := (hW _ (by omega)).trans (hlog i hi ha _ (by omega))
        have e2 : W (2 + 2 * k + 1) = U0 i (2 + 2 * k + 1) := (hW _ (by omega)).trans (hlog i hi ha _ (by omega))
        refine ⟨o, ho.congr e1 e2, fun r er st hst h1 h3 => ?_⟩
        subst er
        obtain ⟨z1, z2⟩ := (c.cons st hst).recs (by rw [h3]; exact ha) k hk r (by rw [h3]; exact ho) h1
        exact ⟨z1, z2, fun f => f.elim⟩
    unfold volFlush
    dsimp only
    obtain ⟨k1, hs⟩ := h2.arr.sync
    generalize volSync y.2.1 y.2.2 = r at *
    have kk := h2.kn.trans k1.kn
    rcases hs with ⟨e2, a2⟩ | ⟨e2, ho, hf⟩
    · rw [if_pos e2]
      have em2 : r.2.2.m = V0.m := by unfold VolM.m; rw [kk.sup]
      have es2 : r.2.2.stripes = V0.stripes := by unfold VolM.stripes; rw [kk.sup]
      have eb2 : r.2.2.base = V0.base := by unfold VolM.base; rw [kk.sup]
      have el2 : r.2.2.logs = V0.logs := by unfold VolM.logs; rw [kk.sup]
      have hsy : Sy r.2.1 r.2.2 U' (fun i => Just (U' i)) D (fun _ => 0) (fun _ => []) (JustD V0 D) :=
        ⟨c.cfg.kn kk, c.one.kn kk, a2, cvj.kn kk, fun st hst j hj hdj => by
          rw [em2] at hj; rw [es2] at hst; rw [eb2]; rw [kk.dead] at hdj
          exact hsame st hst j hj ((alive_iff s0 j).2 hdj)⟩
      have ht := hsy.tail fun j q hj haj hq hun => by
        rw [kk.len] at hj; rw [kk.alive] at haj; rw [el2] at hq
        rw [k1.same.used] at hun
        obtain ⟨o, ho⟩ := c.head.slot j hj haj q hq
        rw [hlog j hj haj _ (by omega)]
        cases o with
        | none => exact ho
        | some r' => exact absurd (hdone j q hj haj hq (.inl hj) r' ho).1 hun
      dsimp only at ht
      obtain ⟨t1, t2⟩ := ht
      refine ⟨kk.trans t1, ?_⟩
      rcases t2 with ⟨z1, z2, z3, U2, M2, z4⟩ | ⟨z1, z2⟩
      · exact .inl ⟨z1, z2, z3, U2, M2, _, _, z4⟩
      · exact .inr ⟨z1, z2.off, (z2.mono fun b x hx => by rw [hx.2]; exact hmay b hx.1).fell⟩
    · rw [if_neg (by omega)]
      exact ⟨kk, .inr ⟨e2, ho, c.fell h2.may hmay kk hf⟩⟩
  · rw [if_neg (by omega)]
    exact ⟨e3, .inr ⟨e1, e2, c.fell e4 hmay e3 e5⟩⟩
structure Sk (s : ShM) (s' : ShM) : Prop where
 sec : s'.sectors = s.sectors
 dead : ∀ j, (s'.disk j).dead = (s.disk j).dead
 stops : s'.stops = s.stops
theorem Ready.open_ {Y : Sup} (h : Ready s Y May) :
    Sk s (volOpen s).2.1 ∧
    (((volOpen s).1 = 0 ∧ (∃ i : Nat, (volOpen s).2.2.sup = { Y with disk := (i : Int) }) ∧ (volOpen s).2.2.devs.length = (volBuild s Y).devs.length ∧ (volOpen s).2.2.opens = [] ∧ (volOpen s).2.2.used = [] ∧ ∃ U M D B O, LiveV (volOpen s).2.1 (volOpen s).2.2 U M D B O (JustD (volOpen s).2.2 D) ∧ ∀ b, b < (volOpen s).2.2.size → May b (D (spotN (volOpen s).2.2.m b).member (spotN (volOpen s).2.2.m b).stripe)) ∨
     ((volOpen s).1 = 3 ∧ (volOpen s).2.1.off = true ∧ ∃ V, (∃ i : Int, V.sup = { Y with disk := i }) ∧ V.devs.length = (volBuild s Y).devs.length ∧ Fell (volOpen s).2.1 V May)) := by
  obtain ⟨U, D, ha, hmay, hcons, hhead⟩ := h.cons
  obtain ⟨b1, b2⟩ := build_devs s Y
  have hrb0 := of_decide_eq_true (h.cfg.rb 0 (by have := h.m3; have := h.len; omega))
  have hm3i : (3 : Int) ≤ Y.members := hrb0.2.2.1
  have hm16 : Y.members ≤ 16 := hrb0.2.2.2.1
  have hst1 : (1 : Int) ≤ Y.stripes := hrb0.2.2.2.2.2.2.1
  have hst2 : Y.stripes ≤ 1024 := hrb0.2.2.2.2.2.2.2.1
  have hl1 : (1 : Int) ≤ Y.logs := hrb0.2.2.2.2.2.2.2.2.1
  have hl2 : Y.logs ≤ 8 := hrb0.2.2.2.2.2.2.2.2.2.1
  have hz : ∀ j, j < (volBuild s Y).devs.length → 1 < ((volBuild s Y).dev j).size := fun j hj => by
    have := h.room j hj
    have hb : (volBuild s Y).base = 2 + 2 * (volBuild s Y).logs := rfl
    omega
  unfold volOpen
  cases ho : s.off with
  | true =>
    rw [if_pos rfl]
    have c : RcvC s (volBuild s Y) U D := ⟨h.cfg, h.m3, h.len, h.room, h.one, hcons, hhead⟩
    exact ⟨⟨rfl, fun _ => rfl, rfl⟩, .inr ⟨rfl, ho, volBuild s Y, ⟨Y.disk, rfl⟩, rfl, c.fell (M := fun i => Just (U i)) (fun i _ _ n _ x hx => .inl hx) hmay (Kn.refl _ _) ha.fall⟩⟩
  | false =>
    rw [if_neg Bool.false_ne_true]
    dsimp only
    obtain ⟨t1, h1, h2⟩ := hear_all (Y := Y) s.disks.length 0 s ha ho h.cfg hhead hz (by omega)
    have hex : ∃ i, 0 ≤ i ∧ i < 0 + s.disks.length ∧ aliveB s i = true := by
      by_cases e : aliveB s 0 = true
      · exact ⟨0, by omega, by have := h.m3; have := h.len; omega, e⟩
      · by_cases e1 : aliveB s 1 = true
        · exact ⟨1, by omega, by have := h.m3; have := h.len; omega, e1⟩
        · have := h.one 0 1 (by have := h.m3; omega) (by have := h.m3; omega) (by simpa using e) (by simpa using e1)
          omega
    have hne := h2 hex
    generalize hearFrom s 0 s.disks.length = l at *
    rw [if_neg hne]
    obtain ⟨i0, hi0, hx⟩ := h1 _ (newest_mem hne)
    rw [hx]
    have hv1 : l.2.disks = s.disks := t1.2.2.1
    have hv2 : l.2.sectors = s.sectors := t1.2.2.2
    have hbo : buildOk l.2 { Y with disk := (i0 : Int) } = true := by
      have hd := h.cfg.dl
      rw [b1] at hd
      have hd : (s.disks.length : Int) = Y.members ∨ (s.disks.length : Int) = Y.members + 1 := hd
      have hn : needI Y.stripes Y.logs ≤ blocksI s.sectors := h.cfg.need
      unfold needI at hn
      rw [if_pos ⟨hl1, hl2, hst1, hst2⟩] at hn
      unfold buildOk
      rw [hv1, hv2]
      exact decide_eq_true ⟨hl1, hl2, hst1, hst2, hm3i, hm16, hd, hn⟩
    rw [if_pos hbo]
    have hp := t1.powr
    have hvb : volBuild l.2 { Y with disk := (i0 : Int) } = volBuild s { Y with disk := (i0 : Int) } := volBuild_powr hp _
    have hvY : volBuild l.2 Y = volBuild s Y := volBuild_powr hp _
    rw [hvb, hv1]
    obtain ⟨e1, t2, e2⟩ := tell_none (Y := Y) (W := volBuild s { Y with disk := (i0 : Int) }) s.disks.length 0 l.2 (by rw [hvY]; exact ha.powr hp) (t1.off.trans ho) (by rw [hvY]; exact h.cfg.powr hp) (by rw [hvY, hp.alive]; exact hhead) (by rw [hvY]; exact hz) ⟨i0, rfl⟩ (by rw [hvY]; omega)
    generalize tellFrom l.2 (volBuild s { Y with disk := (i0 : Int) }) 0 s.disks.length = tt at *
    rw [if_pos e1, e2]
    have t := t1.trans t2
    have c : RcvC s (volBuild s { Y with disk := (i0 : Int) }) U D := ⟨⟨h.cfg.sp, h.cfg.rb, h.cfg.dl, h.cfg.gen, h.cfg.need⟩, h.m3, h.len, h.room, h.one, fun st hst => ⟨(hcons st hst).fits, (hcons st hst).data, (hcons st hst).recs, (hcons st hst).par⟩, ⟨hhead.sup0, hhead.sup1, hhead.slot⟩⟩
    have hrcv : Rcv s (volBuild s { Y with disk := (i0 : Int) }) U D tt.2.1 (volBuild s { Y with disk := (i0 : Int) }) U (fun i => Just (U i)) :=
      ⟨Kn.ticked t _, (ha.devs (V' := volBuild s { Y with disk := (i0 : Int) }) rfl).ticked t, fun i _ _ n _ x hx => .inl hx⟩
    obtain ⟨k1, hres⟩ := recover_go (May := May) c hmay rfl hrcv t
    generalize volRecover tt.2.1 (volBuild s { Y with disk := (i0 : Int) }) = z at *
    refine ⟨⟨k1.sec, k1.dead, k1.stops⟩, ?_⟩
    rcases hres with ⟨z1, z2, z3, U2, M2, B2, O2, z4⟩ | ⟨z1, z2, z3⟩
    · have em : z.2.2.m = (volBuild s Y).m := by unfold VolM.m; rw [k1.sup]; rfl
      have es : z.2.2.stripes = (volBuild s Y).stripes := by unfold VolM.stripes; rw [k1.sup]; rfl
      have ez : z.2.2.size = (volBuild s Y).size := by unfold VolM.size; rw [em, es]
      refine .inl ⟨z1, ⟨i0, by rw [k1.sup]; rfl⟩, k1.len, z2, z3, U2, M2, D, B2, O2, z4.mono fun b x hx => ⟨by rw [ez]; exact hx.1, by rw [em]; exact hx.2⟩, fun b hb => ?_⟩
      rw [em]; exact hmay b (by rw [← ez]; exact hb)
    · exact .inr ⟨z1, z2, z.2.2, ⟨i0, by rw [k1.sup]; rfl⟩, k1.len, z3⟩
end
end
section
open Go.RowKit
section
variable {s s' s'' : ShM} {V V' V'' : VolM} {U U0 D : Nat → Nat → Bytes} {M M' : Nat → Nat → Bytes → Prop} {B : Nat → Nat} {O : Nat → Bytes} {May May' : Nat → Bytes → Prop} {L L' : Nat → List Bytes} {N : Nat} {q : Nat × Nat}
def mayL (L : Nat → List Bytes) (b : Nat) (x : Bytes) : Prop := x ∈ L b
structure RigOk (s : ShM) (V : VolM) (N : Nat) (L : Nat → List Bytes) (killed : Bool) (q : Nat × Nat) : Prop where
 q : V.m = q.1 ∧ V.stripes = q.2
 size : N = V.size
 ne : ∀ b, b < N → L b ≠ []
 alive : killed = false → ∀ i, (s.disk i).dead = false
 slen : s.disks.length = V.devs.length
 dl : V.devs.length = V.m + 1
 st : (∃ U M D B O, LiveV s V U M D B O (mayL L) ∧ ∀ b, b < N → (L b).getLast? = some (D (spotN V.m b).member (spotN V.m b).stripe)) ∨ Down s V (mayL L)
theorem off_has (h : s.off = true) (d n : Int) (hh : s.has d n = true) : s.readR d n = ([], 3, s) := by
 unfold ShM.readR
 rw [hh, if_pos rfl]
 unfold ShM.why
 rw [h]
 rfl
theorem Down.has (h : Down s V May) {i : Nat} (hi : i < V.devs.length) {n : Nat} (hn : n < (V.dev i).size) : s.has ((V.dev i).disk : Nat) (sumAt n : Nat) = true ∧ (V.dev i).disk = i := by
 obtain ⟨M, hf, _⟩ := h.crash
 have hz := hf.sz i hi
 have h1 := hf.ok.sectors1
 have hp : sumAt n < s.sectors := by
  unfold blocksI at hz
  rw [if_neg (by omega)] at hz
  unfold sumAt
  omega
 have hl := hf.slen
 refine ⟨?_, hf.dd i hi⟩
 rw [hf.dd i hi]
 simp only [ShM.has, decide_eq_true_eq]
 omega
theorem Down.sector (h : Down s V May) {i : Nat} (hi : i < V.devs.length) {n : Nat} (hn : n < (V.dev i).size) : devSector s (V.dev i) n = ([], [], 3, s) := by
 obtain ⟨hh, _⟩ := h.has hi hn
 have hbd : (0 : Int) ≤ (n : Int) ∧ (n : Int) < ((V.dev i).size : Int) := by omega
 simp only [devSector, hbd, and_self, if_true, Int.toNat_natCast, off_has h.off _ _ hh]
 rfl
theorem Down.get (h : Down s V May) {j st : Nat} (hj : j < V.m) (hst : st < V.stripes) : volGet s V j st = ([], 3, s) := by
 have hl := h.len
 have hr := h.room j (by omega)
 unfold volGet
 rw [disk_plain h.cfg.sp]
 simp only [devRead, h.sector (i := j) (by omega) (n := V.base + st) (by omega)]
 rfl
theorem Down.flush (h : Down s V May) : volFlush s V = (3, s, V) := by
 have h3 := h.m3
 have hl := h.len
 have e : ∃ f, V.devs.length = f + 1 := ⟨V.devs.length - 1, by omega⟩
 obtain ⟨f, hf⟩ := e
 have hsy : volSync s V = (3, s, V) := by
  unfold volSync
  rw [hf]
  unfold syncFrom
  have hfl : volFl s V 0 = (3, s, V) := by
   obtain ⟨M, hF, _⟩ := h.crash
   have h1 := hF.ok.sectors1
   have hlen := hF.slen
   have hh : s.has ((V.dev 0).disk : Nat) 0 = true := by
    rw [hF.dd 0 (by omega)]
    simp only [ShM.has, decide_eq_true_eq]
    omega
   have hr : s.flushR ((V.dev 0).disk : Nat) = (3, s) := by
    unfold ShM.flushR
    rw [hh, if_pos rfl]
    unfold ShM.why
    rw [h.off]
    rfl
   have hd : devFlush s (V.dev 0) = (3, s, V.dev 0) := by
    unfold devFlush
    rw [hr]
    rfl
   unfold volFl
   rw [hd]
   dsimp only
   rw [setDev_self (by omega)]
  dsimp only
  rw [hfl]
  dsimp only
  rw [if_neg (by omega)]
 unfold volFlush
 dsimp only
 rw [hsy]
 dsimp only
 rw [if_neg (by omega)]
theorem Down.write (h : Down s V May) {c : Nat} (hc : c < V.size) {b : Bytes} (hb : b.length = 128) : volWrite s V c b = (3, s, V) := by
 unfold volWrite
 rw [if_pos (by omega), if_pos hb, h.flush]
 dsimp only
 split
 ·rw [if_neg (by omega)]
 ·unfold volOnce
  rw [h.off, if_pos rfl]
theorem Down.read (h : Down s V May) {c : Nat} (hc : c < V.size) : volRead s V c = ([], 3, s, V) := by
 obtain ⟨q1, q2, _⟩ := spot_in h.m3 hc
 unfold volRead
 rw [if_pos (by omega), Int.toNat_natCast]
 dsimp only
 rw [h.get q2 q1]
 dsimp only
 rw [if_pos (.inr rfl)]
theorem q_kn {q : Nat × Nat} (k : Kn s V s' V') (h : V.m = q.1 ∧ V.stripes = q.2) : V'.m = q.1 ∧ V'.stripes = q.2 := by
 refine ⟨?_, ?_⟩
 ·unfold VolM.m; rw [k.sup]; exact h.1
 ·unfold VolM.stripes; rw [k.sup]; exact h.2
theorem size_kn (k : Kn s V s' V') : V'.size = V.size ∧ V'.m = V.m := by
 have em : V'.m = V.m := by unfold VolM.m; rw [k.sup]
 have es : V'.stripes = V.stripes := by unfold VolM.stripes; rw [k.sup]
 exact ⟨by unfold VolM.size; rw [em, es], em⟩
end
section
variable {s s' s'' : ShM} {V V' V'' : VolM} {May May' : Nat → Bytes → Prop} {L L' : Nat → List Bytes} {N : Nat} {killed : Bool} {q : Nat × Nat}
theorem Down.powr (h : Down s V May) (t : Powr s s') (ho : s'.off = true) : Down s' V May :=
 ⟨ho, h.cfg.powr t, h.m3, h.len, h.room, by rw [t.alive]; exact h.one, let ⟨M, a, b⟩ := h.crash; ⟨M, a.powr t, by rw [t.alive]; exact b⟩⟩
theorem RigOk.powr (h : RigOk s V N L killed q) (t : Powr s s') (ho : s.off = true → s'.off = true) : RigOk s' V N L killed q :=
 ⟨h.q, h.size, h.ne, fun hk i => by rw [t.disk]; exact h.alive hk i, by rw [t.disks]; exact h.slen, h.dl, h.st.imp (fun ⟨U, M, D, B, O, hl, hlast⟩ => ⟨U, M, D, B, O, hl.powr t, hlast⟩) fun hd => hd.powr t (ho hd.off)⟩
theorem RigOk.ticked (h : RigOk s V N L killed q) (t : Ticked s s') : RigOk s' V N L killed q := h.powr t.powr fun ho => by rw [t.off]; exact ho
theorem RigOk.stops (h : RigOk s V N L killed q) (n : Int) : RigOk (s.stop n) V N L killed q := by
 refine h.powr ?_ fun ho => ?_
 ·unfold ShM.stop
  split <;> exact ⟨rfl, rfl⟩
 ·unfold ShM.stop
  rw [ho, if_pos rfl]
  exact ho
def lastsL (L : Nat → List Bytes) (b : Nat) : List Bytes := (L b).drop ((L b).length - 1)
theorem lastsL_eq {b : Nat} {x : Bytes} (h : (L b).getLast? = some x) : lastsL L b = [x] := by
 unfold lastsL
 rcases List.eq_nil_or_concat (L b) with e | ⟨l, a, e⟩
 ·rw [e] at h; cases h
 ·rw [e] at h ⊢
  simp at h ⊢
  exact h
theorem Kn.slen (k : Kn s V s' V') (h : s.disks.length = V.devs.length) (h' : s'.disks.length = V'.devs.length) : s'.disks.length = s.disks.length := by rw [h', k.len, h]
theorem LiveV.slen {U D : Nat → Nat → Bytes} {M : Nat → Nat → Bytes → Prop} {B : Nat → Nat} {O : Nat → Bytes} (h : LiveV s V U M D B O May) : s.disks.length = V.devs.length := h.arr.slen
theorem Down.slen (h : Down s V May) : s.disks.length = V.devs.length := let ⟨_, a, _⟩ := h.crash; a.slen
theorem RigOk.flush (h : RigOk s V N L killed q) :
  ((volFlush s V).1 = 0 ∧ RigOk (volFlush s V).2.1 (volFlush s V).2.2 N (fun b => if b < N then lastsL L b else L b) killed q) ∨ ((volFlush s V).1 = 3 ∧ (volFlush s V).2.1.off = true ∧ RigOk (volFlush s V).2.1 (volFlush s V).2.2 N L killed q) := by
 rcases h.st with ⟨U, M, D, B, O, hl, hlast⟩ | hd
 ·obtain ⟨k1, hf⟩ := hl.flush
  generalize volFlush s V = r at *
  obtain ⟨ez, em⟩ := size_kn k1
  have hal : killed = false → ∀ i, (r.2.1.disk i).dead = false := fun hk i => by rw [k1.dead]; exact h.alive hk i
  rcases hf with ⟨e, _, _, U2, M2, hl2⟩ | ⟨e, hd⟩
  ·refine .inl ⟨e, q_kn k1 h.q, by rw [ez]; exact h.size, fun b hb => ?_, hal, hl2.slen, by rw [k1.len, em]; exact h.dl, .inl ⟨U2, M2, D, B, O, hl2.mono fun b x hx => ?_, fun b hb => ?_⟩⟩
   ·rw [if_pos hb, lastsL_eq (hlast b hb)]; simp
   ·have hb : b < N := by rw [h.size]; exact hx.1
    show x ∈ (if b < N then lastsL L b else L b)
    rw [if_pos hb, lastsL_eq (hlast b hb), List.mem_singleton]
    exact hx.2
   ·rw [if_pos hb, lastsL_eq (hlast b hb), em]; rfl
  ·exact .inr ⟨e, hd.off, q_kn k1 h.q, by rw [ez]; exact h.size, h.ne, hal, hd.slen, by rw [k1.len, em]; exact h.dl, .inr hd⟩
 ·rw [hd.flush]
  exact .inr ⟨rfl, hd.off, h⟩
theorem RigOk.write (h : RigOk s V N L killed q) {c : Nat} (hc : c < N) {x : Bytes} (hx : x.length = 128) :
  (s.off = false → ((volWrite s V c x).1 = 0 ∨ ((volWrite s V c x).1 = 3 ∧ (volWrite s V c x).2.1.off = true)) ∧ RigOk (volWrite s V c x).2.1 (volWrite s V c x).2.2 N (updM L c (L c ++ [x])) killed q) ∧
  (s.off = true → volWrite s V c x = (3, s, V)) := by
 have hc' : c < V.size := by rw [← h.size]; exact hc
 refine ⟨fun ho => ?_, fun ho => ?_⟩
 ·rcases h.st with ⟨U, M, D, B, O, hl, hlast⟩ | hd
  ·have hl' := hl.mono (May' := mayL (updM L c (L c ++ [x]))) fun b y hy => by
    show y ∈ updM L c (L c ++ [x]) b
    by_cases e : b = c
    ·rw [e, updM_same]; exact List.mem_append_left _ (by rw [← e]; exact hy)
    ·rw [updM_ne _ _ e]; exact hy
   obtain ⟨k1, hw⟩ := hl'.write hc' hx (by show x ∈ updM L c (L c ++ [x]) c; rw [updM_same]; exact List.mem_append_right _ (List.mem_singleton.2 rfl))
   generalize volWrite s V c x = r at *
   obtain ⟨ez, em⟩ := size_kn k1
   have hal : killed = false → ∀ i, (r.2.1.disk i).dead = false := fun hk i => by rw [k1.dead]; exact h.alive hk i
   have hne : ∀ b, b < N → updM L c (L c ++ [x]) b ≠ [] := fun b hb => by
    by_cases e : b = c
    ·rw [e, updM_same]; simp
    ·rw [updM_ne _ _ e]; exact h.ne b hb
   rcases hw with ⟨e, U2, M2, B2, O2, hl2⟩ | ⟨e, hd⟩
   ·refine ⟨.inl e, q_kn k1 h.q, by rw [ez]; exact h.size, hne, hal, hl2.slen, by rw [k1.len, em]; exact h.dl, .inl ⟨U2, M2, _, B2, O2, hl2, fun b hb => ?_⟩⟩
    rw [em, wrD_spot hl.cv.m3]
    by_cases e : b = c
    ·rw [e, updM_same, if_pos rfl]; simp
    ·rw [updM_ne _ _ e, if_neg e]; exact hlast b hb
   ·exact ⟨.inr ⟨e, hd.off⟩, q_kn k1 h.q, by rw [ez]; exact h.size, hne, hal, hd.slen, by rw [k1.len, em]; exact h.dl, .inr hd⟩
  ·rw [hd.off] at ho; cases ho
 ·rcases h.st with ⟨U, M, D, B, O, hl, hlast⟩ | hd
  ·exact (hl.down ho).write hc' hx
  ·exact hd.write hc' hx
structure RigUp (s : ShM) (Y : Sup) (N : Nat) (L : Nat → List Bytes) (killed : Bool) (q : Nat × Nat) : Prop where
 q : (volBuild s Y).m = q.1 ∧ (volBuild s Y).stripes = q.2
 size : N = (volBuild s Y).size
 ne : ∀ b, b < N → L b ≠ []
 alive : killed = false → ∀ i, (s.disk i).dead = false
 dl : (volBuild s Y).devs.length = (volBuild s Y).m + 1
 st : Ready s Y (mayL L)
theorem rigUp_of (hq : V.m = q.1 ∧ V.stripes = q.2) (hsz : N = V.size) (hne : ∀ b, b < N → L b ≠ []) (hal : killed = false → ∀ i, (s.disk i).dead = false) (hdl : V.devs.length = V.m + 1) (hf : Fell s V (mayL L)) (keep : List (List Int)) : RigUp (s.crash keep) V.sup N L killed q := by
 obtain ⟨M, hF, _⟩ := hf.crash
 refine ⟨hq, hsz, hne, fun hk i => by rw [crash_dead]; exact hal hk i, ?_, hf.ready keep⟩
 obtain ⟨b1, _⟩ := build_devs (s.crash keep) V.sup
 rw [b1, crash_len, hF.slen]
 exact hdl
theorem RigOk.crash (h : RigOk s V N L killed q) (keep : List (List Int)) : RigUp (s.crash keep) V.sup N L killed q := by
 refine rigUp_of h.q h.size h.ne h.alive h.dl ?_ keep
 rcases h.st with ⟨U, M, D, B, O, hl, _⟩ | hd
 ·exact hl.fell
 ·exact hd.fell
theorem RigUp.powr {Y : Sup} (h : RigUp s Y N L killed q) (t : Powr s s') : RigUp s' Y N L killed q := by
 refine ⟨h.q, h.size, h.ne, fun hk i => by rw [t.disk]; exact h.alive hk i, ?_, h.st.powr t⟩
 rw [volBuild_powr t]; exact h.dl
theorem RigUp.opened {Y : Sup} (h : RigUp s Y N L killed q) :
  ((volOpen s).1 = 0 ∨ ((volOpen s).1 = 3 ∧ (volOpen s).2.1.off = true)) ∧ (volOpen s).2.1.stops = s.stops ∧
  (∀ keep, ∃ Y', RigUp ((volOpen s).2.1.crash keep) Y' N L killed q) ∧
  ((volOpen s).1 = 0 → ((volOpen s).2.2.m = q.1 ∧ (volOpen s).2.2.stripes = q.2) ∧ (volOpen s).2.2.size = N ∧ ∃ U M D B O, LiveV (volOpen s).2.1 (volOpen s).2.2 U M D B O (JustD (volOpen s).2.2 D) ∧ (∀ b, b < N → D (spotN (volOpen s).2.2.m b).member (spotN (volOpen s).2.2.m b).stripe ∈ L b) ∧ (killed = false → ∀ i, ((volOpen s).2.1.disk i).dead = false) ∧ (volOpen s).2.2.devs.length = (volOpen s).2.2.m + 1) := by
 obtain ⟨k, hr⟩ := h.st.open_
 obtain ⟨b1, _⟩ := build_devs s Y
 generalize volOpen s = r at *
 have hal : killed = false → ∀ i, (r.2.1.disk i).dead = false := fun hk i => by rw [k.dead]; exact h.alive hk i
 rcases hr with ⟨e, ⟨i0, hs⟩, hlen, ho, hu, U, M, D, B, O, hl, hm⟩ | ⟨e, ho, V2, ⟨i0, hs⟩, hlen, hf⟩
 ·have em : r.2.2.m = (volBuild s Y).m := by unfold VolM.m; rw [hs]; rfl
  have es : r.2.2.stripes = (volBuild s Y).stripes := by unfold VolM.stripes; rw [hs]; rfl
  have ez : r.2.2.size = N := by rw [h.size]; unfold VolM.size; rw [em, es]
  have hdl2 : r.2.2.devs.length = r.2.2.m + 1 := by rw [hlen, em]; exact h.dl
  refine ⟨.inl e, k.stops, fun keep => ⟨r.2.2.sup, rigUp_of ⟨em.trans h.q.1, es.trans h.q.2⟩ ez.symm h.ne hal hdl2 (hl.mono (May' := mayL L) fun b x hx => ?_).fell keep⟩, fun _ => ⟨⟨em.trans h.q.1, es.trans h.q.2⟩, ez, U, M, D, B, O, hl, fun b hb => hm b (by rw [ez]; exact hb), hal, hdl2⟩⟩
  rw [hx.2]; exact hm b hx.1
 ·have em : V2.m = (volBuild s Y).m := by unfold VolM.m; rw [hs]; rfl
  have es : V2.stripes = (volBuild s Y).stripes := by unfold VolM.stripes; rw [hs]; rfl
  have ez : V2.size = N := by rw [h.size]; unfold VolM.size; rw [em, es]
  refine ⟨.inr ⟨e, ho⟩, k.stops, fun keep => ⟨V2.sup, rigUp_of ⟨em.trans h.q.1, es.trans h.q.2⟩ ez.symm h.ne hal ?_ hf keep⟩, fun e0 => by omega⟩
  rw [hlen, em]; exact h.dl
end
end
section
open Go.RowKit
section
variable {s s' s'' : ShM} {V V' V'' : VolM} {May May' : Nat → Bytes → Prop} {L L' : Nat → List Bytes} {N : Nat} {killed : Bool} {U D : Nat → Nat → Bytes} {M : Nat → Nat → Bytes → Prop} {B : Nat → Nat} {O : Nat → Bytes}
theorem xorF_zero : ∀ (l : List Nat), xorF (fun _ => zeroSec) l zeroSec = zeroSec
 | [] => rfl
 | k :: l => by
  show xorF (fun _ => zeroSec) l (xorB zeroSec zeroSec) = zeroSec
  rw [xorB_self zeroSec_l]
  exact xorF_zero l
theorem begin_live (m st l : Nat) (hm : 3 ≤ m) (hm16 : m ≤ 16) (hst : 1 ≤ st) (hst6 : st ≤ 6) (hl : 1 ≤ l) (hl8 : l ≤ 8)
  (hb : buildOk (freshSh (m + 1) 40) (newSup m st l) = true) (hok : VolOk (volMake (freshSh (m + 1) 40) (volBuild (freshSh (m + 1) 40) (newSup m st l))).2.1 (volMake (freshSh (m + 1) 40) (volBuild (freshSh (m + 1) 40) (newSup m st l))).2.2) :
  RigOk (volMake (freshSh (m + 1) 40) (volBuild (freshSh (m + 1) 40) (newSup m st l))).2.1 (volMake (freshSh (m + 1) 40) (volBuild (freshSh (m + 1) 40) (newSup m st l))).2.2 (st * (m - 1)) (fun _ => [zeroSec]) false (m, st) ∧
  (volMake (freshSh (m + 1) 40) (volBuild (freshSh (m + 1) 40) (newSup m st l))).1 = 0 ∧ (volMake (freshSh (m + 1) 40) (volBuild (freshSh (m + 1) 40) (newSup m st l))).2.2.size = st * (m - 1) ∧ (volMake (freshSh (m + 1) 40) (volBuild (freshSh (m + 1) 40) (newSup m st l))).2.2.m = m ∧ (volMake (freshSh (m + 1) 40) (volBuild (freshSh (m + 1) 40) (newSup m st l))).2.2.stripes = st := by
 obtain ⟨e0, hstops, hsup, hop, hus, hlen, hsz, harr⟩ := make_fresh (m + 1) (by omega) (by omega) m st l hb
 generalize volMake (freshSh (m + 1) 40) (volBuild (freshSh (m + 1) 40) (newSup m st l)) = r at *
 have em : r.2.2.m = m := by unfold VolM.m; rw [hsup]; show (((m : Nat) : Int)).toNat = m; omega
 have es : r.2.2.stripes = st := by unfold VolM.stripes; rw [hsup]; show (((st : Nat) : Int)).toNat = st; omega
 have el : r.2.2.logs = l := by unfold VolM.logs; rw [hsup]; show (((l : Nat) : Int)).toNat = l; omega
 have eb : r.2.2.base = 2 + 2 * l := by
  have : r.2.2.base = 2 + 2 * r.2.2.logs := rfl
  rw [this, el]
 have ez : r.2.2.size = st * (m - 1) := by unfold VolM.size; rw [em, es]
 have hU : ∀ i n, n ≠ 1 → saidU (fun _ _ => zeroSec) (madeSup m st l) 0 (m + 1) i n = zeroSec := fun i n hn => by
  unfold saidU
  split
  ·show updV (fun _ => zeroSec) ((1 : Int) % 2).toNat _ n = _
   rw [updV, if_neg (by show n ≠ 1; exact hn)]
  ·rfl
 have hU1 : ∀ i, i < m + 1 → saidU (fun _ _ => zeroSec) (madeSup m st l) 0 (m + 1) i 1 = supBytes { r.2.2.sup with disk := i } := fun i hi => by
  unfold saidU
  rw [if_pos ⟨by omega, hi⟩, hsup]
  show updV (fun _ => zeroSec) ((1 : Int) % 2).toNat _ 1 = _
  exact if_pos rfl
 have halv : ∀ i, i < m + 1 → (r.2.1.disk i).dead = false := fun i hi => by
  have := (harr.live i (by omega)).p.pow.alive
  rw [harr.dd i (by omega)] at this
  exact this
 have hall : ∀ i, (r.2.1.disk i).dead = false := fun i => by
  by_cases h : i < m + 1
  ·exact halv i h
  ·have hs := hok.slen
   unfold ShM.disk
   rw [List.getD_eq_getElem?_getD, List.getElem?_eq_none (by omega)]
   rfl
 have l0 := harr.live 0 (by omega)
 have hA : ArrS r.2.1 r.2.2 (saidU (fun _ _ => zeroSec) (madeSup m st l) 0 (m + 1)) (fun j => Just (saidU (fun _ _ => zeroSec) (madeSup m st l) 0 (m + 1) j)) :=
  ⟨l0.p.pow.ok, hok.slen, harr.dd, fun i hi => (harr.live i hi).p.size, l0.p.room, fun i hi _ => harr.live i hi⟩
 have h3i : (3 : Int) ≤ (m : Nat) := by omega
 have hneed := hok.need
 rw [eb, es] at hneed
 have hcfg : Cfg r.2.1 r.2.2 := by
  refine ⟨by rw [hsup]; show (-1 : Int) < 0; omega, fun i hi => decide_eq_true ?_, ?_, by rw [hsup]; rfl, ?_⟩
  ·rw [hsup]
   unfold RightP madeSup newSup
   dsimp only
   omega
  ·rw [hsup, hlen]
   right
   show ((m + 1 : Nat) : Int) = (m : Int) + 1
   omega
  ·rw [hsup]
   show needI (st : Int) (l : Int) ≤ _
   unfold needI
   rw [if_pos (by omega)]
   have := l0.p.size
   omega
 have hcv : CrashV r.2.2 (aliveB r.2.1) (fun j => Just (saidU (fun _ _ => zeroSec) (madeSup m st l) 0 (m + 1) j)) (fun _ _ => zeroSec) (fun t => t ∈ r.2.2.opens) (fun _ => 0) (fun _ => []) (mayL fun _ => [zeroSec]) := by
  refine ⟨by omega, by omega, fun j hj => ?_, fun t _ => ⟨fun _ _ => zeroSec_l, xorF_zero _⟩, fun b _ => List.mem_singleton.2 rfl, fun t ht j hj _ _ x hx => ?_, fun t ht ho => ?_, fun i hi _ x hx => ?_, fun i hi _ x hx => ?_, fun i hi _ k hk W hW => ?_⟩
  ·rw [eb, es, hsz j (by omega)]
   have := (harr.live j hj).p.size
   rw [hsz j (by omega)] at this
   omega
  ·have hx : x = _ := hx
   rw [hx, hU _ _ (by omega)]
  ·rw [hop] at ho; exact (List.not_mem_nil ho).elim
  ·have hx : x = _ := hx
   rw [hx, hU _ _ (by omega)]
  ·have hx : x = _ := hx
   rw [hx, hU1 i (by omega)]
  ·refine ⟨none, ?_, fun r e => by cases e⟩
   have h1 : 2 + 2 * k < (r.2.2.dev i).size := by
    rw [hsz i (by omega)]
    have := (harr.live i hi).p.size
    rw [hsz i (by omega)] at this
    omega
   have hx : W (2 + 2 * k) = _ := hW _ h1
   show W (2 + 2 * k) = zeroSec
   rw [hx, hU _ _ (by omega)]
 refine ⟨⟨⟨em, es⟩, ez.symm, fun b _ => by simp, fun _ => hall, hok.slen, by rw [hlen, em], .inl ⟨_, _, fun _ _ => zeroSec, fun _ => 0, fun _ => [], ⟨hcfg, hA, hcv, fun i j _ _ h1 _ => ?_, fun t ht j hj _ => ?_, fun i hi _ k hk _ x hx => ?_, fun i hi _ k hk W h1 _ q hq _ _ _ _ => ?_⟩, fun b _ => rfl⟩⟩, e0, ez, em, es⟩
 ·unfold aliveB at h1
  rw [hall] at h1
  cases h1
 ·exact hU _ _ (by omega)
 ·have hx : x = _ := hx
  rw [hx, hU _ _ (by omega)]
 ·exfalso
  have h1 : W (2 + 2 * k) = _ := h1
  rw [hU _ _ (by omega)] at h1
  have : SlotB W k none := h1
  exact absurd (SlotB.one this hq) (by simp)
end
end
end Go.Proofs.Ytajnlhalanhicaa

/-
 Several texts of this work in one (merge.py): MapW, MapK, ShM, ShP, ShA, ShB, ShQ, ShN, ShO, ShC, ShD, ShE, ShG.
-/
import Derived.Test.YtajnlhalanhicaaHeldTail
import Derived.Test.YtajnlhalanhicaaBase
import Derived.Test.YtajnlhalanhicaaProg
import Derived.Maps.OwnSet
import Derived.WideKeyPair
import Derived.RowKit
import Derived.Deep.RegionHeld3
import Derived.Deep.Onto
namespace Go.Proofs.Ytajnlhalanhicaa
set_option linter.all false
set_option maxRecDepth 20000
section
open Go.RowKit Go.Maps Go.MapKept
def pairV (x y : Nat) : Value := .agg #[.int .i64 x, .int .i64 y]
theorem pairV_inj {x y x' y' : Nat} (h : pairV x y = pairV x' y') : x = x' ∧ y = y' := by
 simp only [pairV, Value.agg.injEq, Array.mk.injEq, List.cons.injEq, Value.int.injEq, true_and, and_true] at h
 omega
def smallN (x : Nat) : Prop := x ≤ 9223372036854775807
structure PairMap (P : Program) (mt k et : TypeId) : Prop where
 keyed : Keyed P k
 keys : ∀ x y, smallN x → smallN y → ∃ l, keyOf P k (pairV x y) = some l
 mu : P.underlying mt = some (.map k et)
 zero : ∀ w : World, (zeroValue et).run P w = .ok (.int .i64 0) w
structure Holds (es : Array MapEntry) (f : Nat → Nat → Nat) : Prop where
 entries : ∀ e ∈ es.toList, ∃ x y : Nat, smallN x ∧ smallN y ∧ e.key = pairV x y ∧ e.val = .int .i64 (f x y : Nat)
 all : ∀ x y, f x y ≠ 0 → ∃ e ∈ es.toList, e.key = pairV x y
def MapP (w : World) (b : Nat) (f : Nat → Nat → Nat) : Prop := ∃ es clock, w.heap[b]? = some (.map es clock) ∧ Stamped es clock ∧ Holds es f
def MapE (w : World) (b : Nat) (f : Nat → Nat → Nat) (x y : Nat) (s : Int) : Prop := ∃ es clock, w.heap[b]? = some (.map es clock) ∧ Stamped es clock ∧ Holds es f ∧ ∃ e ∈ es.toList, e.key = pairV x y ∧ (e.born : Int) = s
def setBlk (w : World) (b : Nat) (o : Obj) : World := { w with heap := w.heap.setIfInBounds b o }
def updF (f : Nat → Nat → Nat) (x y c : Nat) : Nat → Nat → Nat := fun x' y' => if x' = x ∧ y' = y then c else f x' y'
theorem MapP.of_block {w w' : World} {b : Nat} {f : Nat → Nat → Nat} (h : MapP w b f) (hb : w'.heap[b]? = w.heap[b]?) : MapP w' b f := by
 obtain ⟨es, clock, h1, h2, h3⟩ := h
 exact ⟨es, clock, hb.trans h1, h2, h3⟩
theorem MapP.lt {w : World} {b : Nat} {f : Nat → Nat → Nat} (h : MapP w b f) : b < w.heap.size := by
 obtain ⟨es, clock, h1, _⟩ := h
 exact (Array.getElem?_eq_some_iff.1 h1).1
theorem MapE.toP {w : World} {b : Nat} {f : Nat → Nat → Nat} {x y : Nat} {s : Int} (h : MapE w b f x y s) : MapP w b f := by
 obtain ⟨es, clock, h1, h2, h3, _⟩ := h
 exact ⟨es, clock, h1, h2, h3⟩
theorem MapE.of_block {w w' : World} {b : Nat} {f : Nat → Nat → Nat} {x y : Nat} {s : Int} (h : MapE w b f x y s) (hb : w'.heap[b]? = w.heap[b]?) : MapE w' b f x y s := by
 obtain ⟨es, clock, h1, h⟩ := h
 exact ⟨es, clock, hb.trans h1, h⟩
section
variable {P : Program} {mt k et : TypeId} {w : World} {b : Nat} {f : Nat → Nat → Nat}
theorem Holds.keysOk {es : Array MapEntry} (K : PairMap P mt k et) (h : Holds es f) : ∀ e ∈ es.toList, ∃ l, keyOf P k e.key = some l := fun e he => by
 obtain ⟨x, y, hx, hy, hk, _⟩ := h.entries e he
 rw [hk]
 exact K.keys x y hx hy
theorem Holds.found {es : Array MapEntry} (h : Holds es f) {e : MapEntry} (he : e ∈ es.toList) {x y : Nat} (hk : e.key = pairV x y) : e.val = .int .i64 (f x y : Nat) := by
 obtain ⟨x', y', _, _, hk', hv⟩ := h.entries e he
 obtain ⟨rfl, rfl⟩ := pairV_inj (hk.symm.trans hk')
 exact hv
theorem Holds.none {es : Array MapEntry} (h : Holds es f) {x y : Nat} (hn : ∀ e ∈ es.toList, e.key ≠ pairV x y) : f x y = 0 := by
 by_cases h0 : f x y = 0
 ·exact h0
 ·obtain ⟨e, he, hk⟩ := h.all x y h0
  exact absurd hk (hn e he)
theorem MapP.look (K : PairMap P mt k et) (h : MapP w b f) (x y : Nat) (hx : smallN x) (hy : smallN y) :
  (Instr.lookup mt (.map (some b)) (pairV x y) false).run P w = .ok (.int .i64 (f x y : Nat)) w := by
 obtain ⟨es, clock, hb, hs, hh⟩ := h
 obtain ⟨l, hl⟩ := K.keys x y hx hy
 have hc := fun em => K.keyed.check w em hl
 rcases K.keyed.find w hl es.toList (hh.keysOk K) with ⟨h1, h2⟩ | ⟨j, e, h1, h2, h3⟩
 ·rw [hh.none h2]
  simp [Instr.lookup, run_underlying K.mu, MapKept.run_getObj_map hb, hc, h1, K.zero, Result.andThen]
 ·have he : e ∈ es.toList := List.mem_of_getElem? h2
  have hv := hh.found he h3
  simp [Instr.lookup, run_underlying K.mu, MapKept.run_getObj_map hb, hc, h1, hv, Result.andThen]
theorem modify_same {es : Array MapEntry} {j : Nat} {e : MapEntry} (h : es[j]? = some e) (g : MapEntry → MapEntry) (hg : g e = e) : es.modify j g = es := by
 apply Array.ext
 ·simp
 ·intro i h1 h2
  simp only [Array.getElem_modify]
  split
  ·rename_i hji
   subst hji
   have : es[j] = e := by
    have := Array.getElem?_eq_getElem h2
    rw [h] at this
    injection this with this
    exact this.symm
   rw [this, hg]
  ·rfl
theorem MapP.entry (K : PairMap P mt k et) (h : MapP w b f) (x y : Nat) (hx : smallN x) (hy : smallN y) :
  ∃ (s : Nat) (o : Obj), (Instr.mapEntry mt (.map (some b)) (pairV x y)).run P w = .ok (.tuple #[.int .i64 (f x y : Nat), .int .i64 s]) (setBlk w b o) ∧ MapE (setBlk w b o) b f x y s := by
 obtain ⟨es, clock, hb, hs, hh⟩ := h
 obtain ⟨l, hl⟩ := K.keys x y hx hy
 have hc := fun em => K.keyed.check w em hl
 rcases K.keyed.find w hl es.toList (hh.keysOk K) with ⟨h1, h2⟩ | ⟨j, e, h1, h2, h3⟩
 ·have h0 := hh.none h2
  refine ⟨clock, .map (es.push { key := pairV x y, val := .int .i64 0, born := clock }) (clock + 1), ?_, ?_⟩
  ·rw [h0]
   simp [Instr.mapEntry, run_underlying K.mu, MapKept.run_getObj_map hb, hc, h1, K.zero, MapKept.run_setObj_map _ hb, Result.andThen, goInt, setBlk]
  ·refine ⟨_, _, (heap_set hb).1, stamped_push hs h2, ⟨?_, ?_⟩, ⟨{ key := pairV x y, val := .int .i64 0, born := clock }, by simp, rfl, rfl⟩⟩
   ·intro e he
    simp only [Array.toList_push, List.mem_append, List.mem_singleton] at he
    rcases he with he | rfl
    ·exact hh.entries e he
    ·exact ⟨x, y, hx, hy, rfl, by rw [h0]; rfl⟩
   ·intro x' y' hne
    obtain ⟨e, he, hk⟩ := hh.all x' y' hne
    exact ⟨e, by simp only [Array.toList_push, List.mem_append]; exact .inl he, hk⟩
 ·have he : e ∈ es.toList := List.mem_of_getElem? h2
  have hv := hh.found he h3
  have hj : es[j]? = some e := by simpa using h2
  have hst := K.keyed.stays w hl
  have hm : es.modify j (fun e => { e with key := pairV x y }) = es := modify_same hj _ (by rw [← h3])
  refine ⟨e.born, .map es clock, ?_, ?_⟩
  ·simp [Instr.mapEntry, run_underlying K.mu, MapKept.run_getObj_map hb, hc, h1, hj, h3, hst, MapKept.run_setObj_map _ hb, Result.andThen, goInt, setBlk, hv, hm]
  ·exact ⟨es, clock, (heap_set hb).1, hs, hh, e, he, h3, rfl⟩
theorem MapE.store {x y : Nat} {s : Int} (h : MapE w b f x y s) (hx : smallN x) (hy : smallN y) (c : Nat) :
  ∃ o, (Instr.entryStore mt (.map (some b)) (.int .i64 s) (.int .i64 c)).run P w = .ok () (setBlk w b o) ∧ MapP (setBlk w b o) b (updF f x y c) := by
 obtain ⟨es, clock, hb, hs, hh, e, he, hk, hbo⟩ := h
 obtain ⟨j, hj, rfl⟩ := List.getElem_of_mem he
 have hj' : j < es.size := by simpa using hj
 have hfi : es.findIdx? (fun e => (e.born : Int) == s) = some j := by
  rw [Array.findIdx?_eq_some_iff_getElem]
  refine ⟨hj', by simp at hbo ⊢; exact hbo, ?_⟩
  intro i hij hb2
  have hnd := hs.2.1
  simp only [beq_iff_eq] at hb2
  rw [← hbo] at hb2
  have e1 : (es.toList.map (·.born))[i]'(by simp; omega) = (es.toList.map (·.born))[j]'(by simp; omega) := by
   simp at hb2 ⊢
   omega
  have := (List.getElem_inj hnd).1 e1
  omega
 refine ⟨.map (es.modify j fun e => { e with val := .int .i64 c }) clock, ?_, ?_⟩
 ·simp [Instr.entryStore, MapKept.run_getObj_map hb, asInt, asIntOf, hfi, MapKept.run_setObj_map _ hb, Result.andThen, setBlk]
 ·refine ⟨_, _, (heap_set hb).1, stamped_modify hs _ _ (fun _ _ => rfl) (fun _ _ _ => rfl), ⟨?_, ?_⟩⟩
  ·intro e he2
   obtain ⟨i, hi, rfl⟩ := List.getElem_of_mem he2
   have hi' : i < es.size := by simpa using hi
   simp only [Array.getElem_toList, Array.getElem_modify]
   by_cases hji : j = i
   ·subst hji
    obtain ⟨x', y', hx', hy', hk', _⟩ := hh.entries _ he
    obtain ⟨rfl, rfl⟩ := pairV_inj (hk.symm.trans hk')
    refine ⟨x, y, hx, hy, ?_, ?_⟩
    ·simp; simpa using hk
    ·simp [updF]
   ·obtain ⟨x', y', hx', hy', hk', hv'⟩ := hh.entries es[i] (by simp)
    refine ⟨x', y', hx', hy', ?_, ?_⟩
    ·rw [if_neg hji]; exact hk'
    ·rw [if_neg hji, hv']
     have hne : ¬ (x' = x ∧ y' = y) := by
      rintro ⟨rfl, rfl⟩
      have e1 : (es.toList.map (·.key))[i]'(by simp; omega) = (es.toList.map (·.key))[j]'(by simp; omega) := by
       simp at hk ⊢
       rw [hk', hk]
      have := (List.getElem_inj hs.2.2).1 e1
      omega
     simp [updF, hne]
  ·intro x' y' hne
   have hkeys : ∀ e ∈ es.toList, ∃ e' ∈ (es.modify j fun e => { e with val := .int .i64 c }).toList, e'.key = e.key := by
    intro e he2
    obtain ⟨i, hi, rfl⟩ := List.getElem_of_mem he2
    have hi' : i < es.size := by simpa using hi
    refine ⟨(es.modify j fun e => { e with val := .int .i64 c })[i]'(by simpa using hi'), by rw [Array.mem_toList_iff]; exact Array.getElem_mem _, ?_⟩
    simp only [Array.getElem_modify]
    split <;> simp
   by_cases hxy : x' = x ∧ y' = y
   ·obtain ⟨rfl, rfl⟩ := hxy
    obtain ⟨e', h1, h2⟩ := hkeys _ he
    exact ⟨e', h1, h2.trans hk⟩
   ·rw [updF, if_neg hxy] at hne
    obtain ⟨e, he2, hk2⟩ := hh.all x' y' hne
    obtain ⟨e', h1, h2⟩ := hkeys e he2
    exact ⟨e', h1, h2.trans hk2⟩
theorem MapP.del (K : PairMap P mt k et) (h : MapP w b f) (x y : Nat) (hx : smallN x) (hy : smallN y) (ty : TypeId) :
  ∃ o, (Builtin.delete_ #[mt, k] ty #[.map (some b), pairV x y]).run P w = .ok (.tuple #[]) (setBlk w b o) ∧ MapP (setBlk w b o) b (updF f x y 0) := by
 obtain ⟨es, clock, hb, hs, hh⟩ := h
 obtain ⟨l, hl⟩ := K.keys x y hx hy
 have hc := fun em => K.keyed.check w em hl
 rcases K.keyed.find w hl es.toList (hh.keysOk K) with ⟨h1, h2⟩ | ⟨j, e, h1, h2, h3⟩
 ·refine ⟨.map es clock, ?_, es, clock, (heap_set hb).1, hs, ⟨?_, ?_⟩⟩
  ·simp [Builtin.delete_, run_underlying K.mu, MapKept.run_getObj_map hb, hc, h1, MapKept.run_setObj_map _ hb, Result.andThen, setBlk]
  ·intro e he
   obtain ⟨x', y', hx', hy', hk', hv'⟩ := hh.entries e he
   have hne : ¬ (x' = x ∧ y' = y) := by
    rintro ⟨rfl, rfl⟩
    exact h2 e he hk'
   exact ⟨x', y', hx', hy', hk', by rw [updF, if_neg hne]; exact hv'⟩
  ·intro x' y' hne
   by_cases hxy : x' = x ∧ y' = y
   ·rw [updF, if_pos hxy] at hne
    exact absurd rfl hne
   ·rw [updF, if_neg hxy] at hne
    exact hh.all x' y' hne
 ·have he : e ∈ es.toList := List.mem_of_getElem? h2
  have hj : j < es.size := by
   have := (List.getElem?_eq_some_iff.1 h2).1
   simpa using this
  refine ⟨.map (es.eraseIdxIfInBounds j) clock, ?_, _, _, (heap_set hb).1, stamped_erase hs j, ⟨?_, ?_⟩⟩
  ·simp [Builtin.delete_, run_underlying K.mu, MapKept.run_getObj_map hb, hc, h1, MapKept.run_setObj_map _ hb, Result.andThen, setBlk]
  all_goals
   have hel : (es.eraseIdxIfInBounds j).toList = es.toList.eraseIdx j := by
    unfold Array.eraseIdxIfInBounds
    rw [dif_pos hj]
    simp
   rw [hel]
  ·intro e' he'
   obtain ⟨i, hi, hij, rfl⟩ := List.mem_eraseIdx_iff_getElem.1 he'
   obtain ⟨x', y', hx', hy', hk', hv'⟩ := hh.entries _ (List.getElem_mem hi)
   have hne : ¬ (x' = x ∧ y' = y) := by
    rintro ⟨rfl, rfl⟩
    have hj2 : j < es.toList.length := by simpa using hj
    have h2' : es.toList[j] = e := by
     have := List.getElem?_eq_getElem hj2
     rw [h2] at this
     injection this with this
     exact this.symm
    have e1 : (es.toList.map (·.key))[i]'(by simpa using hi) = (es.toList.map (·.key))[j]'(by simpa using hj) := by
     rw [List.getElem_map, List.getElem_map, hk', h2', h3]
    have := (List.getElem_inj hs.2.2).1 e1
    omega
   exact ⟨x', y', hx', hy', hk', by rw [updF, if_neg hne]; exact hv'⟩
  ·intro x' y' hne
   by_cases hxy : x' = x ∧ y' = y
   ·rw [updF, if_pos hxy] at hne
    exact absurd rfl hne
   ·rw [updF, if_neg hxy] at hne
    obtain ⟨e2, he2, hk2⟩ := hh.all x' y' hne
    obtain ⟨i, hi, rfl⟩ := List.getElem_of_mem he2
    refine ⟨_, List.mem_eraseIdx_iff_getElem.2 ⟨i, hi, ?_, rfl⟩, hk2⟩
    rintro rfl
    have : es.toList[i] = e := by
     have := List.getElem?_eq_getElem hi
     rw [h2] at this
     injection this with this
     exact this.symm
    rw [this, h3] at hk2
    exact hxy (by obtain ⟨a, b⟩ := pairV_inj hk2; exact ⟨a.symm, b.symm⟩)
end
end
section
open Go.RowKit Go.Maps Go.MapKept Go.WideMaps
theorem Try.arrKey : ArrKey Try.prog 133 3 2 := ⟨Try.underlying133, by kernel_rfl, by kernel_rfl, by kernel_rfl⟩
theorem Try.someTypes : ∃ m, Try.prog.types.size = m + 1 := by
 have h : decide (Try.prog.types.size ≠ 0) = true := by kernel_rfl
 exact Nat.exists_eq_succ_of_ne_zero (of_decide_eq_true h)
theorem wf_small {x : Nat} (h : smallN x) : (Lit.int .i64 (x : Int)).wf = true := by
 unfold smallN at h
 simp only [Lit.wf, IntKind.min, IntKind.max, IntKind.signed, IntKind.bits, Bool.and_eq_true, decide_eq_true_eq, if_true]
 constructor <;> omega
theorem Try.pairMap : PairMap Try.prog 76 133 3 where
 keyed := Keyed.of_law Try.arrKey.law
 keys := fun x y hx hy => ⟨_, keyOf_pair Try.arrKey Try.underlying3 Try.someTypes (wf_small hx) (wf_small hy)⟩
 mu := Try.underlying76
 zero := fun w => Try.zeroValue3 w
end
section
open Go.RowKit
abbrev Bytes := List UInt8
structure DiskM where
 sure : List Bytes
 waits : List (Nat × Bytes)
 dead : Bool
structure ShM where
 left : Int
 stops : Bool
 disks : List DiskM
 sectors : Nat
 count : Int
def zeroSec : Bytes := List.replicate 128 0
def freshDisk (n : Nat) : DiskM := ⟨List.replicate n zeroSec, [], false⟩
def freshSh (d n : Nat) : ShM := ⟨0, false, List.replicate d (freshDisk n), n, 0⟩
def ShM.off (s : ShM) : Bool := s.stops && decide (s.left = 0)
def ShM.has (s : ShM) (d n : Int) : Bool := decide (0 ≤ d ∧ d < s.disks.length ∧ 0 ≤ n ∧ n < s.sectors)
def noDisk : DiskM := ⟨[], [], false⟩
def ShM.disk (s : ShM) (d : Nat) : DiskM := s.disks.getD d noDisk
def ShM.setDisk (s : ShM) (d : Nat) (k : DiskM) : ShM := { s with disks := s.disks.set d k }
def ShM.why (s : ShM) (d : Nat) : Int := if s.off then 3 else if (s.disk d).dead then 4 else 0
def ShM.spend (s : ShM) : ShM := if s.stops then { s with left := wrap64 (s.left - 1) } else s
def ShM.tick (s : ShM) : ShM := { s with count := wrap64 (s.count + 1) }
def waitsOf (ws : List (Nat × Bytes)) (n : Nat) : Nat := (ws.filter fun w => w.1 == n).length
def lastOf (ws : List (Nat × Bytes)) (n : Nat) : Option Bytes := ((ws.reverse.find? fun w => w.1 == n)).map (·.2)
def DiskM.read (k : DiskM) (n : Nat) : Bytes := (lastOf k.waits n).getD (k.sure.getD n [])
def DiskM.write (k : DiskM) (n : Nat) (b : Bytes) : DiskM := { k with waits := k.waits ++ [(n, b)] }
def settleL (keeps : Nat → Bool) : Nat → List (Nat × Bytes) → List Bytes → List Bytes
 | _, [], sure => sure
 | i, w :: ws, sure => settleL keeps (i + 1) ws (if keeps i then sure.set w.1 w.2 else sure)
def DiskM.settle (k : DiskM) (keeps : Nat → Bool) : DiskM := { k with sure := settleL keeps 0 k.waits k.sure, waits := [] }
def ShM.readR (s : ShM) (d n : Int) : Bytes × Int × ShM :=
 if s.has d n then (if s.why d.toNat = 0 then ((s.disk d.toNat).read n.toNat, 0, s.tick) else ([], s.why d.toNat, s)) else ([], 1, s)
def ShM.writeR (s : ShM) (d n : Int) (b : Bytes) : Int × ShM :=
 if s.has d n ∧ b.length = 128 then (if s.why d.toNat = 0 then (0, (s.spend.tick).setDisk d.toNat ((s.disk d.toNat).write n.toNat b)) else (s.why d.toNat, s)) else (1, s)
def ShM.flushR (s : ShM) (d : Int) : Int × ShM :=
 if s.has d 0 then (if s.why d.toNat = 0 then (0, (s.spend.tick).setDisk d.toNat ((s.disk d.toNat).settle fun _ => true)) else (s.why d.toNat, s)) else (1, s)
def ShM.killR (s : ShM) (d : Int) : Int × ShM :=
 if s.has d 0 then (0, s.setDisk d.toNat { s.disk d.toNat with dead := true }) else (1, s)
def ShM.deadR (s : ShM) (d : Int) : Bool := s.has d 0 && (s.disk d.toNat).dead
def ShM.stop (s : ShM) (n : Int) : ShM := if s.off then s else { s with left := max n 0, stops := decide (0 ≤ n) }
def keepsOf (keep : List (List Int)) (d : Nat) (i : Nat) : Bool := (keep.getD d []).contains (i : Int)
def ShM.crash (s : ShM) (keep : List (List Int)) : ShM := { s with left := 0, stops := false, disks := s.disks.mapIdx fun d k => k.settle (keepsOf keep d) }
structure ShM.Ok (s : ShM) : Prop where
 disks1 : 1 ≤ s.disks.length
 disks17 : s.disks.length ≤ 17
 sectors1 : 1 ≤ s.sectors
 sectors4096 : s.sectors ≤ 4096
 sure : ∀ k ∈ s.disks, k.sure.length = s.sectors
 sec : ∀ k ∈ s.disks, ∀ b ∈ k.sure, b.length = 128
 waits : ∀ k ∈ s.disks, ∀ w ∈ k.waits, w.1 < s.sectors ∧ w.2.length = 128
end
section
open Go.RowKit
theorem flat_len {α : Type} {f : α → List Value} {n : Nat} (hf : ∀ a, (f a).length = n) : ∀ l : List α, (l.flatMap f).length = l.length * n
 | [] => by simp
 | a :: l => by rw [List.flatMap_cons, List.length_append, hf, flat_len hf l, List.length_cons, Nat.succ_mul]; omega
theorem flat_get {α : Type} {f : α → List Value} {n : Nat} (hf : ∀ a, (f a).length = n) : ∀ (l : List α) (k j : Nat) (hk : k < l.length), j < n → (l.flatMap f)[k * n + j]? = (f l[k])[j]?
 | [], _, _, hk, _ => absurd hk (by simp)
 | a :: l, 0, j, _, hj => by
  rw [List.flatMap_cons, Nat.zero_mul, Nat.zero_add, List.getElem?_append_left (by rw [hf]; exact hj)]
  rfl
 | a :: l, k + 1, j, hk, hj => by
  have hk' : k < l.length := by simpa using hk
  rw [List.flatMap_cons, List.getElem?_append_right (by rw [hf, Nat.succ_mul]; omega), hf, show (k + 1) * n + j - n = k * n + j from by rw [Nat.succ_mul]; omega, flat_get hf l k j hk' hj]
  rfl
theorem flat_set {α : Type} {f : α → List Value} {n : Nat} (hf : ∀ a, (f a).length = n) : ∀ (l : List α) (k j : Nat) (hk : k < l.length) (a : α) (v : Value), j < n → f a = (f l[k]).set j v → (l.flatMap f).set (k * n + j) v = (l.set k a).flatMap f
 | [], _, _, hk, _, _, _, _ => absurd hk (by simp)
 | b :: l, 0, j, _, a, v, hj, h => by
  rw [List.flatMap_cons, Nat.zero_mul, Nat.zero_add, List.set_append_left _ _ (by rw [hf]; exact hj), List.set_cons_zero, List.flatMap_cons, h]
  rfl
 | b :: l, k + 1, j, hk, a, v, hj, h => by
  have hk' : k < l.length := by simpa using hk
  rw [List.flatMap_cons, List.set_append_right _ _ (by rw [hf, Nat.succ_mul]; omega), hf, show (k + 1) * n + j - n = k * n + j from by rw [Nat.succ_mul]; omega, flat_set hf l k j hk' a v hj h, List.set_cons_succ, List.flatMap_cons]
def strV (b : Bytes) : Value := .string ⟨b.toArray⟩
def sureV (l : List Bytes) : List Value := l.map strV
def waitV (w : Nat × Bytes) : List Value := [.int .i64 (w.1 : Int), strV w.2]
def waitsV (l : List (Nat × Bytes)) : List Value := l.flatMap waitV
structure DiskF where
 gs : Nat
 cs : Nat
 wv : Value
def diskV (p : DiskM × DiskF) : List Value := [.slice (some ⟨p.2.gs, 0, none⟩) p.1.sure.length p.2.cs, p.2.wv, .bool p.1.dead]
def disksV (l : List DiskM) (fs : List DiskF) : List Value := (l.zip fs).flatMap diskV
theorem waitV_len (w : Nat × Bytes) : (waitV w).length = 2 := rfl
theorem diskV_len (p : DiskM × DiskF) : (diskV p).length = 3 := rfl
theorem waitsV_get (l : List (Nat × Bytes)) (k j : Nat) (hk : k < l.length) (hj : j < 2) : (waitsV l)[k * 2 + j]? = (waitV l[k])[j]? := flat_get waitV_len l k j hk hj
theorem waitsV_app (l m : List (Nat × Bytes)) : waitsV (l ++ m) = waitsV l ++ waitsV m := by simp [waitsV]
theorem disksV_len (l : List DiskM) (fs : List DiskF) (h : fs.length = l.length) : (disksV l fs).length = l.length * 3 := by
 rw [disksV, flat_len diskV_len, List.length_zip, h, Nat.min_self]
theorem disksV_get (l : List DiskM) (fs : List DiskF) (h : fs.length = l.length) (d j : Nat) (hd : d < l.length) (hj : j < 3) : (disksV l fs)[d * 3 + j]? = (diskV (l[d], fs[d]))[j]? := by
 have := flat_get diskV_len (l.zip fs) d j (by rw [List.length_zip, h, Nat.min_self]; exact hd) hj
 rw [List.getElem_zip] at this
 exact this
theorem zip_set {α β : Type} : ∀ (l : List α) (m : List β) (d : Nat) (a : α) (b : β), (l.set d a).zip (m.set d b) = (l.zip m).set d (a, b)
 | [], _, _, _, _ => by simp
 | _ :: _, [], _, _, _ => by simp
 | _ :: _, _ :: _, 0, _, _ => rfl
 | x :: l, y :: m, d + 1, a, b => by simp [zip_set l m d a b]
theorem disksV_set (l : List DiskM) (fs : List DiskF) (h : fs.length = l.length) (d j : Nat) (hd : d < l.length) (hj : j < 3) (k : DiskM) (f : DiskF) (v : Value) (he : diskV (k, f) = (diskV (l[d], fs[d])).set j v) :
  (disksV l fs).set (d * 3 + j) v = disksV (l.set d k) (fs.set d f) := by
 rw [disksV, disksV, zip_set]
 refine flat_set diskV_len (l.zip fs) d j (by rw [List.length_zip, h, Nat.min_self]; exact hd) (k, f) v hj ?_
 rw [List.getElem_zip]
 exact he
theorem ownsRow_same {w w' : World} {base e size n : Nat} {v : Value} {vs : List Value} (h : w.ownsRow base e size v n vs) (hb : ∀ k, v.ownBlock = some k → w'.heap[k]? = w.heap[k]?) : w'.ownsRow base e size v n vs := by
 refine ⟨h.1, ?_⟩
 rcases h.2 with hn | ⟨g, cap, cur, rfl, hg, hgg, rest⟩
 ·exact .inl hn
 ·exact .inr ⟨g, cap, cur, rfl, hg, by rw [hb g (by simp [Value.ownBlock])]; exact hgg, rest⟩
theorem lt_of_blk {w : World} {k : Nat} {o : Obj} (h : w.heap[k]? = some o) : k < w.heap.size := (Array.getElem?_eq_some_iff.1 h).1
def DiskF.blocks (f : DiskF) : List Nat := f.gs :: f.wv.ownBlock.toList
structure ShF where
 g : Nat
 gd : Nat
 cd : Nat
 gm : Nat
 fs : List DiskF
def ShF.blocks (F : ShF) : List Nat := [F.g, F.gd, F.gm] ++ F.fs.flatMap DiskF.blocks
def ShF.setF (F : ShF) (d : Nat) (f : DiskF) : ShF := { F with fs := F.fs.set d f }
def shelfR (s : ShM) (F : ShF) : Array Value :=
 #[.int .i64 s.left, .bool s.stops, .slice (some ⟨F.gd, 0, none⟩) s.disks.length F.cd, .int .i64 (s.sectors : Int), .int .i64 s.count, .map (some F.gm)]
def seenF (s : ShM) (d n : Nat) : Nat := if d < s.disks.length then waitsOf (s.disk d).waits n else 0
theorem ShF.mem_g (F : ShF) : F.g ∈ F.blocks := by simp [ShF.blocks]
theorem ShF.mem_gd (F : ShF) : F.gd ∈ F.blocks := by simp [ShF.blocks]
theorem ShF.mem_gm (F : ShF) : F.gm ∈ F.blocks := by simp [ShF.blocks]
theorem ShF.mem_f (F : ShF) {d : Nat} (h : d < F.fs.length) {b : Nat} (hb : b ∈ (F.fs[d]).blocks) : b ∈ F.blocks := by
 simp only [ShF.blocks, List.mem_append, List.mem_flatMap]
 exact .inr ⟨_, List.getElem_mem h, hb⟩
theorem ShF.mem_cases {F : ShF} {b : Nat} (h : b ∈ F.blocks) : b = F.g ∨ b = F.gd ∨ b = F.gm ∨ ∃ (d : Nat) (h : d < F.fs.length), b ∈ (F.fs[d]).blocks := by
 simp only [ShF.blocks, List.mem_append, List.mem_flatMap, List.mem_cons, List.not_mem_nil, or_false] at h
 rcases h with (h | h | h) | ⟨f, hf, h⟩
 ·exact .inl h
 ·exact .inr (.inl h)
 ·exact .inr (.inr (.inl h))
 ·obtain ⟨d, hd, rfl⟩ := List.getElem_of_mem hf
  exact .inr (.inr (.inr ⟨d, hd, h⟩))
structure Sep (F : ShF) : Prop where
 g_gd : F.g ≠ F.gd
 g_gm : F.g ≠ F.gm
 gd_gm : F.gd ≠ F.gm
 out : ∀ d (h : d < F.fs.length), ∀ b ∈ (F.fs[d]).blocks, b ≠ F.g ∧ b ≠ F.gd ∧ b ≠ F.gm
 one : ∀ d (h : d < F.fs.length), (F.fs[d]).wv.ownBlock ≠ some (F.fs[d]).gs
 apart : ∀ d e (h : d < F.fs.length) (h' : e < F.fs.length), d ≠ e → ∀ b ∈ (F.fs[d]).blocks, b ∉ (F.fs[e]).blocks
theorem Sep.setF {F : ShF} (h : Sep F) (d : Nat) (hd : d < F.fs.length) (f : DiskF) (N : Nat) (hN : ∀ b ∈ F.blocks, b < N) (h1 : ∀ b ∈ f.blocks, b ∈ (F.fs[d]).blocks ∨ N ≤ b) (h2 : f.wv.ownBlock ≠ some f.gs) : Sep (F.setF d f) := by
 have hne : ∀ b ∈ f.blocks, ∀ c ∈ F.blocks, c ∉ (F.fs[d]).blocks → b ≠ c := by
  rintro b hb c hc hcd rfl
  rcases h1 b hb with hm | hm
  ·exact hcd hm
  ·have := hN b hc
   omega
 refine ⟨h.g_gd, h.g_gm, h.gd_gm, ?_, ?_, ?_⟩
 ·intro e he b hb
  have he' : e < F.fs.length := by simpa [ShF.setF] using he
  simp only [ShF.setF, List.getElem_set] at hb
  split at hb
  ·subst e
   exact ⟨hne b hb _ F.mem_g fun hx => (h.out _ hd _ hx).1 rfl, hne b hb _ F.mem_gd fun hx => (h.out _ hd _ hx).2.1 rfl, hne b hb _ F.mem_gm fun hx => (h.out _ hd _ hx).2.2 rfl⟩
  ·exact h.out e he' b hb
 ·intro e he
  have he' : e < F.fs.length := by simpa [ShF.setF] using he
  simp only [ShF.setF, List.getElem_set]
  split
  ·exact h2
  ·exact h.one e he'
 ·intro a e ha he hae b hb hb2
  have ha' : a < F.fs.length := by simpa [ShF.setF] using ha
  have he' : e < F.fs.length := by simpa [ShF.setF] using he
  simp only [ShF.setF, List.getElem_set] at hb hb2
  split at hb <;> split at hb2
  ·omega
  ·subst a
   exact hne b hb b (F.mem_f he' hb2) (fun hx => h.apart _ _ hd he' hae _ hx hb2) rfl
  ·subst e
   exact hne b hb2 b (F.mem_f ha' hb) (fun hx => h.apart _ _ ha' hd hae _ hb hx) rfl
  ·exact h.apart a e ha' he' hae b hb hb2
structure ShAtM (w : World) (F : ShF) (s : ShM) (f : Nat → Nat → Nat) : Prop where
 ok : s.Ok
 st : w.heap[F.g]? = some (.cells (shelfR s F) 78)
 fs : F.fs.length = s.disks.length
 ds : w.ownsRow 0 104 3 (.slice (some ⟨F.gd, 0, none⟩) s.disks.length F.cd) s.disks.length (disksV s.disks F.fs)
 sure : ∀ d (h : d < s.disks.length), w.ownsRow 0 9 1 (.slice (some ⟨(F.fs[d]'(by omega)).gs, 0, none⟩) (s.disks[d]).sure.length (F.fs[d]'(by omega)).cs) (s.disks[d]).sure.length (sureV (s.disks[d]).sure)
 waits : ∀ d (h : d < s.disks.length), w.ownsRow 0 132 2 (F.fs[d]'(by omega)).wv (s.disks[d]).waits.length (waitsV (s.disks[d]).waits)
 seen : MapP w F.gm f
 sep : Sep F
abbrev ShAt (w : World) (F : ShF) (s : ShM) : Prop := ShAtM w F s (seenF s)
section
variable {w w' : World} {F : ShF} {s : ShM} {f : Nat → Nat → Nat}
theorem ShAtM.lt (h : ShAtM w F s f) : ∀ b ∈ F.blocks, b < w.heap.size := by
 intro b hb
 rcases ShF.mem_cases hb with rfl | rfl | rfl | ⟨d, hd, hb⟩
 ·exact lt_of_blk h.st
 ·exact (World.ownsRow.lt h.ds _ rfl).2
 ·exact h.seen.lt
 ·simp only [DiskF.blocks, List.mem_cons, Option.mem_toList] at hb
  rcases hb with rfl | hb
  ·exact (World.ownsRow.lt (h.sure d (by rw [← h.fs]; exact hd)) _ rfl).2
  ·exact (World.ownsRow.lt (h.waits d (by rw [← h.fs]; exact hd)) _ hb).2
theorem ShAtM.of_blocks (h : ShAtM w F s f) (hb : ∀ b ∈ F.blocks, w'.heap[b]? = w.heap[b]?) : ShAtM w' F s f := by
 refine ⟨h.ok, (hb _ F.mem_g).trans h.st, h.fs, ownsRow_same h.ds ?_, fun d hd => ownsRow_same (h.sure d hd) ?_, fun d hd => ownsRow_same (h.waits d hd) ?_, h.seen.of_block (hb _ F.mem_gm), h.sep⟩
 ·rintro k e
  injection e with e
  subst e
  exact hb _ F.mem_gd
 ·rintro k e
  injection e with e
  subst e
  exact hb _ (F.mem_f (by rw [h.fs]; exact hd) (by simp [DiskF.blocks]))
 ·intro k e
  exact hb _ (F.mem_f (by rw [h.fs]; exact hd) (by simp [DiskF.blocks, e]))
theorem ShAtM.below (h : ShAtM w F s f) (hb : Below w.heap.size w w') : ShAtM w' F s f := h.of_blocks fun b hm => hb.block b (h.lt b hm)
theorem ShAtM.alloc (h : ShAtM w F s f) (o : Obj) : ShAtM (w.alloc o) F s f := h.below ((Below.refl _ _).alloc (Nat.le_refl _) _)
theorem ShAtM.drew (h : ShAtM w F s f) : ShAtM w.drew F s f := h.of_blocks fun _ _ => rfl
theorem ShAtM.far (h : ShAtM w F s f) {a : Addr} (ha : a.block ∉ F.blocks) (u : Value) : ShAtM (w.setCell a u) F s f :=
 h.of_blocks fun b hb => heap_setCell_other _ _ _ _ (fun e => ha (e ▸ hb))
theorem ShAtM.c0 (h : ShAtM w F s f) : w.cell? ⟨F.g, 0, none⟩ = some (.int .i64 s.left) := (cell_of_row w F.g 0 _ _ _ h.st).trans rfl
theorem ShAtM.c1 (h : ShAtM w F s f) : w.cell? ⟨F.g, 1, none⟩ = some (.bool s.stops) := (cell_of_row w F.g 1 _ _ _ h.st).trans rfl
theorem ShAtM.c2 (h : ShAtM w F s f) : w.cell? ⟨F.g, 2, none⟩ = some (.slice (some ⟨F.gd, 0, none⟩) s.disks.length F.cd) := (cell_of_row w F.g 2 _ _ _ h.st).trans rfl
theorem ShAtM.c3 (h : ShAtM w F s f) : w.cell? ⟨F.g, 3, none⟩ = some (.int .i64 (s.sectors : Int)) := (cell_of_row w F.g 3 _ _ _ h.st).trans rfl
theorem ShAtM.c4 (h : ShAtM w F s f) : w.cell? ⟨F.g, 4, none⟩ = some (.int .i64 s.count) := (cell_of_row w F.g 4 _ _ _ h.st).trans rfl
theorem ShAtM.c5 (h : ShAtM w F s f) : w.cell? ⟨F.g, 5, none⟩ = some (.map (some F.gm)) := (cell_of_row w F.g 5 _ _ _ h.st).trans rfl
theorem ShAtM.frozen (h : ShAtM w F s f) (i : Nat) : w.frozen? ⟨F.g, i, none⟩ = false := frozen_of_row w F.g i _ _ h.st
theorem ShAtM.dcell (h : ShAtM w F s f) {d : Nat} (hd : d < s.disks.length) {j : Nat} (hj : j < 3) : w.cell? ⟨F.gd, d * 3 + j, none⟩ = (diskV (s.disks[d], F.fs[d]'(by rw [h.fs]; exact hd)))[j]? := by
 rw [World.ownsRow.cellAt h.ds (d * 3 + j) (by omega), disksV_get _ _ h.fs d j hd hj]
theorem ShAtM.d0 (h : ShAtM w F s f) {d : Nat} (hd : d < s.disks.length) : w.cell? ⟨F.gd, d * 3, none⟩ = some (.slice (some ⟨(F.fs[d]'(by rw [h.fs]; exact hd)).gs, 0, none⟩) (s.disks[d]).sure.length (F.fs[d]'(by rw [h.fs]; exact hd)).cs) :=
 (h.dcell hd (j := 0) (by omega)).trans rfl
theorem ShAtM.d1 (h : ShAtM w F s f) {d : Nat} (hd : d < s.disks.length) : w.cell? ⟨F.gd, d * 3 + 1, none⟩ = some (F.fs[d]'(by rw [h.fs]; exact hd)).wv := (h.dcell hd (by omega)).trans rfl
theorem ShAtM.d2 (h : ShAtM w F s f) {d : Nat} (hd : d < s.disks.length) : w.cell? ⟨F.gd, d * 3 + 2, none⟩ = some (.bool (s.disks[d]).dead) := (h.dcell hd (by omega)).trans rfl
theorem ShAtM.dfrozen (h : ShAtM w F s f) (i : Nat) : w.frozen? ⟨F.gd, i, none⟩ = false := World.ownsRow.frozenAt h.ds i
theorem ShAtM.sureC (h : ShAtM w F s f) {d n : Nat} (hd : d < s.disks.length) (hn : n < (s.disks[d]).sure.length) : w.cell? ⟨(F.fs[d]'(by rw [h.fs]; exact hd)).gs, n, none⟩ = some (strV (s.disks[d]).sure[n]) := by
 rw [World.ownsRow.cellAt (h.sure d hd) n (by omega)]
 simp [sureV, hn]
theorem ShAtM.sfrozen (h : ShAtM w F s f) {d : Nat} (hd : d < s.disks.length) (i : Nat) : w.frozen? ⟨(F.fs[d]'(by rw [h.fs]; exact hd)).gs, i, none⟩ = false := World.ownsRow.frozenAt (h.sure d hd) i
theorem ShAtM.setSt (h : ShAtM w F s f) (i : Nat) (u : Value) (s' : ShM) (hr : shelfR s' F = (shelfR s F).setIfInBounds i u) (hd : s'.disks = s.disks) (hs : s'.sectors = s.sectors) : ShAtM (w.setCell ⟨F.g, i, none⟩ u) F s' f := by
 have hk : ∀ b ∈ F.blocks, b ≠ F.g → (w.setCell ⟨F.g, i, none⟩ u).heap[b]? = w.heap[b]? := fun b _ hne => heap_setCell_other _ _ _ _ hne
 have hds : ∀ d (hd : d < F.fs.length), ∀ b ∈ (F.fs[d]).blocks, (w.setCell ⟨F.g, i, none⟩ u).heap[b]? = w.heap[b]? := fun d hd b hb => hk b (F.mem_f hd hb) (h.sep.out d hd b hb).1
 have hok := h.ok
 obtain ⟨l', st', ds', se', co'⟩ := s'
 obtain ⟨l, st, ds, se, co⟩ := s
 subst hd hs
 refine ⟨⟨hok.disks1, hok.disks17, hok.sectors1, hok.sectors4096, hok.sure, hok.sec, hok.waits⟩, ?_, h.fs, ownsRow_same h.ds ?_, fun d hd => ownsRow_same (h.sure d hd) ?_, fun d hd => ownsRow_same (h.waits d hd) ?_, h.seen.of_block (hk _ F.mem_gm h.sep.g_gm.symm), h.sep⟩
 ·rw [hr]
  exact heap_setCell_same w F.g i _ _ u h.st
 ·rintro k e
  injection e with e
  subst e
  exact hk _ F.mem_gd h.sep.g_gd.symm
 ·rintro k e
  injection e with e
  subst e
  exact hds d (by rw [h.fs]; exact hd) _ (by simp [DiskF.blocks])
 ·intro k e
  exact hds d (by rw [h.fs]; exact hd) _ (by simp [DiskF.blocks, e])
theorem ShAtM.setLeft (h : ShAtM w F s f) (x : Int) : ShAtM (w.setCell ⟨F.g, 0, none⟩ (.int .i64 x)) F { s with left := x } f := h.setSt 0 _ _ rfl rfl rfl
theorem ShAtM.setStops (h : ShAtM w F s f) (x : Bool) : ShAtM (w.setCell ⟨F.g, 1, none⟩ (.bool x)) F { s with stops := x } f := h.setSt 1 _ _ rfl rfl rfl
theorem ShAtM.setCount (h : ShAtM w F s f) (x : Int) : ShAtM (w.setCell ⟨F.g, 4, none⟩ (.int .i64 x)) F { s with count := x } f := h.setSt 4 _ _ rfl rfl rfl
theorem ShM.Ok.setDisk (h : s.Ok) (d : Nat) (k : DiskM) (h1 : k.sure.length = s.sectors) (h2 : ∀ b ∈ k.sure, b.length = 128) (h3 : ∀ x ∈ k.waits, x.1 < s.sectors ∧ x.2.length = 128) : (s.setDisk d k).Ok := by
 refine ⟨by simpa [ShM.setDisk] using h.disks1, by simpa [ShM.setDisk] using h.disks17, h.sectors1, h.sectors4096, ?_, ?_, ?_⟩
 all_goals
  intro q hq
  simp only [ShM.setDisk] at hq ⊢
  rcases List.mem_or_eq_of_mem_set hq with hq | rfl
 ·exact h.sure q hq
 ·exact h1
 ·exact h.sec q hq
 ·exact h2
 ·exact h.waits q hq
 ·exact h3
theorem ShAtM.upd (h : ShAtM w F s f) (d : Nat) (hd : d < s.disks.length) (k : DiskM) (fd : DiskF) (hok : (s.setDisk d k).Ok)
  (hk : ∀ b ∈ F.blocks, b ≠ F.gd → b ∉ (F.fs[d]'(by rw [h.fs]; exact hd)).blocks → w'.heap[b]? = w.heap[b]?)
  (hds : w'.ownsRow 0 104 3 (.slice (some ⟨F.gd, 0, none⟩) s.disks.length F.cd) s.disks.length (disksV (s.disks.set d k) (F.fs.set d fd)))
  (hsu : w'.ownsRow 0 9 1 (.slice (some ⟨fd.gs, 0, none⟩) k.sure.length fd.cs) k.sure.length (sureV k.sure))
  (hwa : w'.ownsRow 0 132 2 fd.wv k.waits.length (waitsV k.waits))
  (hsep : Sep (F.setF d fd)) : ShAtM w' (F.setF d fd) (s.setDisk d k) f := by
 have hd' : d < F.fs.length := by rw [h.fs]; exact hd
 have hlen : (s.setDisk d k).disks.length = s.disks.length := by simp [ShM.setDisk]
 refine ⟨hok, ?_, by simp [ShF.setF, ShM.setDisk, h.fs], ?_, ?_, ?_, ?_, hsep⟩
 ·have e : shelfR (s.setDisk d k) (F.setF d fd) = shelfR s F := by simp [shelfR, ShM.setDisk, ShF.setF]
  rw [e]
  exact (hk _ F.mem_g h.sep.g_gd fun hx => (h.sep.out d hd' _ hx).1 rfl).trans h.st
 ·rw [hlen]
  exact hds
 ·intro e he
  have he' : e < s.disks.length := by rw [← hlen]; exact he
  simp only [ShM.setDisk, ShF.setF, List.getElem_set]
  split
  ·subst e
   exact hsu
  ·rename_i hne
   refine ownsRow_same (h.sure e he') ?_
   intro b hb
   injection hb with hb
   subst hb
   exact hk _ (F.mem_f (by rw [h.fs]; exact he') (by simp [DiskF.blocks])) (h.sep.out e (by rw [h.fs]; exact he') _ (by simp [DiskF.blocks])).2.1 (h.sep.apart e d (by rw [h.fs]; exact he') hd' (fun x => hne x.symm) _ (by simp [DiskF.blocks]))
 ·intro e he
  have he' : e < s.disks.length := by rw [← hlen]; exact he
  simp only [ShM.setDisk, ShF.setF, List.getElem_set]
  split
  ·subst e
   exact hwa
  ·rename_i hne
   refine ownsRow_same (h.waits e he') ?_
   intro b hb
   have hm : b ∈ (F.fs[e]'(by rw [h.fs]; exact he')).blocks := by simp [DiskF.blocks, hb]
   exact hk _ (F.mem_f (by rw [h.fs]; exact he') hm) (h.sep.out e (by rw [h.fs]; exact he') _ hm).2.1 (h.sep.apart e d (by rw [h.fs]; exact he') hd' (fun x => hne x.symm) _ hm)
 ·exact h.seen.of_block (hk _ F.mem_gm h.sep.gd_gm.symm fun hx => (h.sep.out d hd' _ hx).2.2 rfl)
theorem ShF.setF_self (F : ShF) (d : Nat) (hd : d < F.fs.length) : F.setF d F.fs[d] = F := by simp [ShF.setF]
theorem ShAtM.setDead (h : ShAtM w F s f) {d : Nat} (hd : d < s.disks.length) (x : Bool) :
  ShAtM (w.setCell ⟨F.gd, d * 3 + 2, none⟩ (.bool x)) F (s.setDisk d { s.disks[d] with dead := x }) f := by
 have hd' : d < F.fs.length := by rw [h.fs]; exact hd
 have hmem := List.getElem_mem hd
 have := h.upd (w' := w.setCell ⟨F.gd, d * 3 + 2, none⟩ (.bool x)) d hd { s.disks[d] with dead := x } F.fs[d] (h.ok.setDisk d _ (h.ok.sure s.disks[d] hmem) (h.ok.sec s.disks[d] hmem) (h.ok.waits s.disks[d] hmem))
  (fun b _ h1 _ => heap_setCell_other _ _ _ _ h1)
  (by rw [← disksV_set _ _ h.fs d 2 hd (by omega) _ _ (.bool x) rfl]; exact (World.ownsRow.stored h.ds _ _).1)
  (ownsRow_same (h.sure d hd) fun k e => heap_setCell_other _ _ _ _ (by injection e with e; subst e; exact (h.sep.out d hd' _ (by simp [DiskF.blocks])).2.1))
  (ownsRow_same (h.waits d hd) fun k e => heap_setCell_other _ _ _ _ (h.sep.out d hd' _ (by simp [DiskF.blocks, e])).2.1)
  (by rw [ShF.setF_self]; exact h.sep)
 rw [ShF.setF_self] at this
 exact this
theorem ShAtM.setSure (h : ShAtM w F s f) {d n : Nat} (hd : d < s.disks.length) (b : Bytes) (hb : b.length = 128) :
  ShAtM (w.setCell ⟨(F.fs[d]'(by rw [h.fs]; exact hd)).gs, n, none⟩ (strV b)) F (s.setDisk d { s.disks[d] with sure := (s.disks[d]).sure.set n b }) f := by
 have hd' : d < F.fs.length := by rw [h.fs]; exact hd
 have hmem := List.getElem_mem hd
 have hgs : (F.fs[d]).gs ∈ (F.fs[d]).blocks := by simp [DiskF.blocks]
 have hsame := (World.ownsRow.stored (h.sure d hd) n (strV b)).1
 have hok : (s.setDisk d { s.disks[d] with sure := (s.disks[d]).sure.set n b }).Ok := h.ok.setDisk d _ (by simpa using h.ok.sure s.disks[d] hmem) (by
   intro x hx
   rcases List.mem_or_eq_of_mem_set hx with hx | rfl
   ·exact h.ok.sec s.disks[d] hmem x hx
   ·exact hb) (h.ok.waits s.disks[d] hmem)
 have hds : disksV (s.disks.set d { s.disks[d] with sure := (s.disks[d]).sure.set n b }) (F.fs.set d F.fs[d]) = disksV s.disks F.fs := by
  rw [← disksV_set _ _ h.fs d 2 hd (by omega) _ _ (.bool (s.disks[d]).dead) (by simp [diskV])]
  have e := disksV_get _ _ h.fs d 2 hd (by omega)
  exact List.ext_getElem? fun i => by
   rw [List.getElem?_set]
   split
   ·subst i
    rw [e]
    split
    ·rfl
    ·rename_i hlt
     rw [disksV_len _ _ h.fs] at hlt
     omega
   ·rfl
 have := h.upd (w' := w.setCell ⟨(F.fs[d]).gs, n, none⟩ (strV b)) d hd { s.disks[d] with sure := (s.disks[d]).sure.set n b } F.fs[d] hok
  (fun b _ _ h2 => heap_setCell_other _ _ _ _ fun e => h2 (e ▸ hgs))
  (by rw [hds]; exact ownsRow_same h.ds fun k e => heap_setCell_other _ _ _ _ (by injection e with e; subst e; exact (h.sep.out d hd' _ hgs).2.1.symm))
  (by simpa [sureV, List.map_set] using hsame)
  (ownsRow_same (h.waits d hd) fun k e => heap_setCell_other _ _ _ _ (fun e2 => h.sep.one d hd' (by rw [e, e2])))
  (by rw [ShF.setF_self]; exact h.sep)
 rw [ShF.setF_self] at this
 exact this
theorem ShAtM.storeW (h : ShAtM w F s f) {d : Nat} (hd : d < s.disks.length) (v : Value) (ws : List (Nat × Bytes)) (hws : ∀ x ∈ ws, x.1 < s.sectors ∧ x.2.length = 128)
  (hrow : w'.ownsRow 0 132 2 v ws.length (waitsV ws)) (hsz : w.heap.size ≤ w'.heap.size)
  (hk : ∀ b, b < w.heap.size → (F.fs[d]'(by rw [h.fs]; exact hd)).wv.ownBlock ≠ some b → w'.heap[b]? = w.heap[b]?)
  (hv : ∀ b, v.ownBlock = some b → (F.fs[d]'(by rw [h.fs]; exact hd)).wv.ownBlock = some b ∨ w.heap.size ≤ b) :
  ShAtM (w'.setCell ⟨F.gd, d * 3 + 1, none⟩ v) (F.setF d { F.fs[d]'(by rw [h.fs]; exact hd) with wv := v }) (s.setDisk d { s.disks[d] with waits := ws }) f := by
 have hd' : d < F.fs.length := by rw [h.fs]; exact hd
 have hmem := List.getElem_mem hd
 have hgs : (F.fs[d]).gs ∈ (F.fs[d]).blocks := by simp [DiskF.blocks]
 have hgd : w'.heap[F.gd]? = w.heap[F.gd]? := hk _ (h.lt _ F.mem_gd) fun e => (h.sep.out d hd' F.gd (by simp [DiskF.blocks, e])).2.1 rfl
 have hds' : w'.ownsRow 0 104 3 (.slice (some ⟨F.gd, 0, none⟩) s.disks.length F.cd) s.disks.length (disksV s.disks F.fs) := ownsRow_same h.ds fun k e => by injection e with e; subst e; exact hgd
 have hsu : (w'.setCell ⟨F.gd, d * 3 + 1, none⟩ v).heap[(F.fs[d]).gs]? = w.heap[(F.fs[d]).gs]? := (heap_setCell_other _ _ _ _ (h.sep.out d hd' _ hgs).2.1).trans (hk _ (h.lt _ (F.mem_f hd' hgs)) (h.sep.one d hd'))
 refine h.upd d hd { s.disks[d] with waits := ws } { F.fs[d] with wv := v } (h.ok.setDisk d _ (h.ok.sure s.disks[d] hmem) (h.ok.sec s.disks[d] hmem) hws) ?_ ?_ ?_ ?_ ?_
 ·intro b hb h1 h2
  exact (heap_setCell_other _ _ _ _ h1).trans (hk b (h.lt b hb) fun e => h2 (by simp [DiskF.blocks, e]))
 ·rw [← disksV_set _ _ h.fs d 1 hd (by omega) _ _ v rfl]
  exact (World.ownsRow.stored hds' _ _).1
 ·exact ownsRow_same (h.sure d hd) fun k e => by injection e with e; subst e; exact hsu
 ·refine ownsRow_same hrow fun k e => heap_setCell_other _ _ _ _ ?_
  rcases hv k e with h1 | h1
  ·exact (h.sep.out d hd' k (by simp [DiskF.blocks, h1])).2.1
  ·have := h.lt _ F.mem_gd
   intro e2
   have e3 : k = F.gd := e2
   omega
 ·refine h.sep.setF d hd' _ w.heap.size h.lt ?_ ?_
  ·intro b hb
   simp only [DiskF.blocks, List.mem_cons, Option.mem_toList] at hb ⊢
   rcases hb with rfl | hb
   ·exact .inl (.inl rfl)
   ·rcases hv b hb with h1 | h1
    ·exact .inl (.inr h1)
    ·exact .inr h1
  ·intro e
   rcases hv _ e with h1 | h1
   ·exact h.sep.one d hd' h1
   ·have := h.lt _ (F.mem_f hd' hgs)
    simp at h1
    omega
theorem ShAtM.map (h : ShAtM w F s f) {f' : Nat → Nat → Nat} (hk : ∀ b, b ≠ F.gm → w'.heap[b]? = w.heap[b]?) (hm : MapP w' F.gm f') : ShAtM w' F s f' := by
 have hds : ∀ d (hd : d < F.fs.length), ∀ b ∈ (F.fs[d]).blocks, w'.heap[b]? = w.heap[b]? := fun d hd b hb => hk b (h.sep.out d hd b hb).2.2
 refine ⟨h.ok, (hk _ h.sep.g_gm).trans h.st, h.fs, ownsRow_same h.ds ?_, fun d hd => ownsRow_same (h.sure d hd) ?_, fun d hd => ownsRow_same (h.waits d hd) ?_, hm, h.sep⟩
 ·rintro k e
  injection e with e
  subst e
  exact hk _ h.sep.gd_gm
 ·rintro k e
  injection e with e
  subst e
  exact hds d (by rw [h.fs]; exact hd) _ (by simp [DiskF.blocks])
 ·intro k e
  exact hds d (by rw [h.fs]; exact hd) _ (by simp [DiskF.blocks, e])
end
structure Turns (B : List Nat) (w w' : World) : Prop where
 os : w'.os = w.os
 tape : w'.tape = w.tape
 output : w'.output = w.output
 size : w.heap.size ≤ w'.heap.size
 block : ∀ k, k < w.heap.size → k ∉ B → w'.heap[k]? = w.heap[k]?
theorem Turns.refl (B : List Nat) (w : World) : Turns B w w := ⟨rfl, rfl, rfl, Nat.le_refl _, fun _ _ _ => rfl⟩
theorem Turns.below {B : List Nat} {w w' : World} {b : Nat} (h : Turns B w w') (hB : ∀ k ∈ B, b ≤ k) (hb : b ≤ w.heap.size) : Below b w w' :=
 ⟨h.os, h.tape, h.output, h.size, fun k hk => h.block k (by omega) fun hm => by have := hB k hm; omega⟩
theorem Turns.of_below {B : List Nat} {w w' : World} (h : Below w.heap.size w w') : Turns B w w' :=
 ⟨h.os, h.tape, h.output, h.size, fun k hk _ => h.block k hk⟩
theorem Turns.trans {B : List Nat} {a b c : World} (h : Turns B a b) (k : Turns B b c) : Turns B a c :=
 ⟨k.os.trans h.os, k.tape.trans h.tape, k.output.trans h.output, Nat.le_trans h.size k.size, fun i hi hn => (k.block i (Nat.lt_of_lt_of_le hi h.size) hn).trans (h.block i hi hn)⟩
theorem Turns.setCell {B : List Nat} {w w' : World} (h : Turns B w w') {a : Addr} (ha : a.block ∈ B) (u : Value) : Turns B w (w'.setCell a u) :=
 ⟨h.os, h.tape, h.output, by simpa using h.size, fun k hk hn => (heap_setCell_other _ _ _ _ fun e => hn (by rw [e]; exact ha)).trans (h.block k hk hn)⟩
theorem Turns.alloc {B : List Nat} {w w' : World} (h : Turns B w w') (o : Obj) : Turns B w (w'.alloc o) :=
 ⟨h.os, h.tape, h.output, by simpa using Nat.le_succ_of_le h.size, fun k hk hn => (heap_alloc_old w' o (Nat.lt_of_lt_of_le hk h.size)).trans (h.block k hk hn)⟩
theorem Turns.drew {B : List Nat} {w w' : World} (h : Turns B w w') : Turns B w w'.drew := ⟨h.os, h.tape, h.output, h.size, h.block⟩
theorem Turns.mono {B B' : List Nat} {w w' : World} (h : Turns B w w') (hs : ∀ b ∈ B, b ∈ B') : Turns B' w w' :=
 ⟨h.os, h.tape, h.output, h.size, fun k hk hn => h.block k hk fun hm => hn (hs k hm)⟩
theorem Turns.setBlk {B : List Nat} {w w' : World} (h : Turns B w w') {b : Nat} (hb : b ∈ B) (o : Obj) : Turns B w (setBlk w' b o) :=
 ⟨h.os, h.tape, h.output, by simpa [Go.Proofs.Ytajnlhalanhicaa.setBlk] using h.size, fun k hk hn => by
  rw [← h.block k hk hn]
  have hne : b ≠ k := fun e => hn (e ▸ hb)
  simp only [Go.Proofs.Ytajnlhalanhicaa.setBlk, Array.getElem?_setIfInBounds_ne hne]⟩
theorem Turns.grown {B : List Nat} {w w1 w2 : World} {v : Value} (h : Turns B w w1) (hg : w1.grownBy w2 v.ownBlock) (hv : ∀ k, v.ownBlock = some k → k ∈ B ∨ w.heap.size ≤ k) : Turns B w w2 :=
 ⟨hg.os.trans h.os, hg.tape.trans h.tape, hg.output.trans h.output, Nat.le_trans h.size hg.size, fun k hk hn => (hg.block k (Nat.lt_of_lt_of_le hk h.size) (fun e => by
  rcases hv k e.symm with h1 | h1
  ·exact hn h1
  ·omega)).trans (h.block k hk hn)⟩
structure ShTo (w : World) (F : ShF) (w' : World) (F' : ShF) : Prop where
 turns : Turns F.blocks w w'
 g : F'.g = F.g
 news : ∀ b ∈ F'.blocks, b ∈ F.blocks ∨ w.heap.size ≤ b
theorem ShTo.refl (w : World) (F : ShF) : ShTo w F w F := ⟨Turns.refl _ _, rfl, fun _ h => .inl h⟩
theorem ShTo.same {w w' : World} {F : ShF} (h : Turns F.blocks w w') : ShTo w F w' F := ⟨h, rfl, fun _ h => .inl h⟩
theorem ShTo.trans {a b c : World} {F G H : ShF} (h : ShTo a F b G) (k : ShTo b G c H) : ShTo a F c H :=
 ⟨⟨k.turns.os.trans h.turns.os, k.turns.tape.trans h.turns.tape, k.turns.output.trans h.turns.output, Nat.le_trans h.turns.size k.turns.size, fun i hi hn => (k.turns.block i (Nat.lt_of_lt_of_le hi h.turns.size) (fun hm => by
   rcases h.news i hm with h1 | h1
   ·exact hn h1
   ·omega)).trans (h.turns.block i hi hn)⟩, k.g.trans h.g, fun b hb => by
   rcases k.news b hb with h1 | h1
   ·exact h.news b h1
   ·exact .inr (Nat.le_trans h.turns.size h1)⟩
theorem ShTo.then_ {a b c : World} {F G : ShF} (h : ShTo a F b G) (k : Turns G.blocks b c) : ShTo a F c G := h.trans (ShTo.same k)
theorem ShTo.base {w w' : World} {F F' : ShF} (h : ShTo w F w' F') {base : Nat} (hB : ∀ b ∈ F.blocks, base ≤ b) (hb : base ≤ w.heap.size) : Below base w w' ∧ ∀ b ∈ F'.blocks, base ≤ b :=
 ⟨h.turns.below hB hb, fun b hm => by
  rcases h.news b hm with h1 | h1
  ·exact hB b h1
  ·omega⟩
theorem ShTo.other {w w' : World} {F F' G : ShF} {s : ShM} {f : Nat → Nat → Nat} (h : ShTo w F w' F') (hG : ShAtM w G s f) (hd : ∀ b ∈ G.blocks, b ∉ F.blocks) : ShAtM w' G s f ∧ ∀ b ∈ G.blocks, b ∉ F'.blocks :=
 ⟨hG.of_blocks fun b hb => h.turns.block b (hG.lt b hb) (hd b hb), fun b hb hm => by
  rcases h.news b hm with h1 | h1
  ·exact hd b hb h1
  ·have := hG.lt b hb
   omega⟩
end
section
open Go.RowKit
section
variable {w : World} {F : ShF} {s : ShM} {f : Nat → Nat → Nat}
theorem sh_off (h : ShAtM w F s f) : Calls Try.prog 36 #[.pointer (some ⟨F.g, 0, none⟩)] w fun e w' => e = .returned (.bool s.off) ∧ w = w' := by
 have h0 := h.c0
 have h1 := h.c1
 have hlt := h.lt _ F.mem_g
 unfold ShM.off
 obtain ⟨l, st, ds, se, co⟩ := s
 clear h
 dsimp only at *
 go_enter Try.func36, Try.ntmps36
 cases st
 ·go_wp2
  go_ret
  exact ⟨by simp, rfl⟩
 ·by_cases hl : l = 0
  ·subst hl
   go_wp2
   go_ret
   exact ⟨by simp, rfl⟩
  ·have hb : (l == 0) = false := beq_eq_false_iff_ne.2 hl
   go_wp2
   go_ret
   exact ⟨by simp [hl], rfl⟩
theorem sh_has (h : ShAtM w F s f) (d n : Int) : Calls Try.prog 45 #[.pointer (some ⟨F.g, 0, none⟩), .int .i64 d, .int .i64 n] w fun e w' => e = .returned (.bool (s.has d n)) ∧ w = w' := by
 have h2 := h.c2
 have h3 := h.c3
 have hlt := h.lt _ F.mem_g
 unfold ShM.has
 obtain ⟨l, st, ds, se, co⟩ := s
 clear h
 dsimp only at *
 generalize ds.length = m at *
 go_enter Try.func45, Try.ntmps45
 by_cases a1 : 0 ≤ d
 ·by_cases a2 : d < m
  ·by_cases a3 : 0 ≤ n
   ·by_cases a4 : n < se
    ·go_wp2
     go_ret
     exact ⟨by simp <;> omega, rfl⟩
    ·go_wp2
     go_ret
     exact ⟨by simp <;> omega, rfl⟩
   ·go_wp2
    go_ret
    exact ⟨by simp <;> omega, rfl⟩
  ·go_wp2
   go_ret
   exact ⟨by simp <;> omega, rfl⟩
 ·go_wp2
  go_ret
  exact ⟨by simp <;> omega, rfl⟩
theorem sh_ready (hS : ShAtM w F s f) (d : Nat) (hd : d < s.disks.length) (sp : Bool) :
  Calls Try.prog 60 #[.pointer (some ⟨F.g, 0, none⟩), .int .i64 d, .bool sp] w fun e w' =>
   e = .returned (.int .i64 (s.why d)) ∧ ShAtM w' F (if s.why d = 0 ∧ sp = true then s.spend else s) f ∧ Turns F.blocks w w' := by
 have h0 := hS.c0
 have h1 := hS.c1
 have h2 := hS.c2
 have hf0 := hS.frozen 0
 have hdd := hS.d2 hd
 have hlt := hS.lt _ F.mem_g
 have hgm := F.mem_g
 have hle17 := hS.ok.disks17
 have hoff := sh_off hS
 have hdk : s.disk d = s.disks[d] := by simp [ShM.disk, hd]
 unfold ShM.why
 rw [hdk]
 generalize hkd : (s.disks[d]).dead = dead at *
 generalize hso : s.off = off at *
 replace hso := Lib.hid hso
 replace hkd := Lib.hid hkd
 go_enter Try.func60, Try.ntmps60
 go_wp2_with fail
 refine hoff.mono ?_
 rintro e w' ⟨rfl, rfl⟩
 cases off
 ·cases dead
  ·cases sp
   ·go_wp2
    go_ret
    exact ⟨by simp, by simpa using hS, Turns.refl _ _⟩
   ·generalize hst : s.stops = st at *
    replace hst := Lib.hid hst
    cases st
    ·go_wp2
     go_ret
     exact ⟨by simp, by simpa [ShM.spend, hst.out] using hS, Turns.refl _ _⟩
    ·go_wp2
     go_ret
     refine ⟨by simp, ?_, (Turns.refl _ _).setCell hgm _⟩
     have := hS.setLeft (wrap64 (s.left - 1))
     simpa [ShM.spend, hst.out] using this
  ·go_wp2
   go_ret
   exact ⟨by simp, by simpa using hS, Turns.refl _ _⟩
 ·go_wp2
  go_ret
  exact ⟨by simp, by simpa using hS, Turns.refl _ _⟩
theorem sh_count (h : ShAtM w F s f) : Calls Try.prog 9 #[.pointer (some ⟨F.g, 0, none⟩)] w fun e w' => e = .returned (.int .i64 s.count) ∧ w = w' := by
 have h4 := h.c4
 have hlt := h.lt _ F.mem_g
 go_enter Try.func9, Try.ntmps9
 go_wp2
 go_ret
 exact ⟨by simp, rfl⟩
theorem sh_size (h : ShAtM w F s f) : Calls Try.prog 51 #[.pointer (some ⟨F.g, 0, none⟩)] w fun e w' => e = .returned (.tuple #[.int .i64 (s.disks.length : Nat), .int .i64 (s.sectors : Nat)]) ∧ Below w.heap.size w w' := by
 have h2 := h.c2
 have h3 := h.c3
 have hlt := h.lt _ F.mem_g
 go_enter Try.func51, Try.ntmps51
 go_wp2_with fail
 go_quiet (fail)
 go_wp2
 go_ret2
 exact ⟨by simp, below_drewN (Below.refl _ _) _⟩
theorem sh_dead (h : ShAtM w F s f) (d : Int) : Calls Try.prog 96 #[.pointer (some ⟨F.g, 0, none⟩), .int .i64 d] w fun e w' => e = .returned (.bool (s.deadR d)) ∧ w = w' := by
 have h2 := h.c2
 have hlt := h.lt _ F.mem_g
 have hle17 := h.ok.disks17
 have hhas := sh_has h d 0
 unfold ShM.deadR
 go_enter Try.func96, Try.ntmps96
 go_wp2_with fail
 refine hhas.mono ?_
 rintro e w' ⟨rfl, rfl⟩
 by_cases hh : s.has d 0 = true
 ·have hd : 0 ≤ d ∧ d < s.disks.length := by
   simp only [ShM.has, decide_eq_true_eq] at hh
   omega
  obtain ⟨d, rfl⟩ := Int.eq_ofNat_of_zero_le hd.1
  have hd' : d < s.disks.length := by omega
  have h1 := h.d2 hd'
  have hdk : s.disk d = s.disks[d] := by simp [ShM.disk, hd']
  rw [hh]
  go_wp2
  go_ret
  exact ⟨by simp [hdk, hh], rfl⟩
 ·have hh' : s.has d 0 = false := by simpa using hh
  rw [hh']
  go_wp2
  go_ret
  exact ⟨by simp [hh'], rfl⟩
theorem sh_kill (hS : ShAtM w F s f) (d : Int) : Calls Try.prog 15 #[.pointer (some ⟨F.g, 0, none⟩), .int .i64 d] w fun e w' =>
  e = .returned (.int .i64 (s.killR d).1) ∧ ShAtM w' F (s.killR d).2 f ∧ Turns F.blocks w w' := by
 have h2 := hS.c2
 have hlt := hS.lt _ F.mem_g
 have hle17 := hS.ok.disks17
 have hhas := sh_has hS d 0
 have hdf := hS.dfrozen
 unfold ShM.killR
 go_enter Try.func15, Try.ntmps15
 go_wp2_with fail
 refine hhas.mono ?_
 rintro e w' ⟨rfl, rfl⟩
 by_cases hh : s.has d 0 = true
 ·have hd : 0 ≤ d ∧ d < s.disks.length := by
   simp only [ShM.has, decide_eq_true_eq] at hh
   omega
  obtain ⟨d, rfl⟩ := Int.eq_ofNat_of_zero_le hd.1
  have hd' : d < s.disks.length := by omega
  have h1 := hS.d2 hd'
  have hdf2 := hdf (d * 3 + 2)
  have hdk : s.disk d = s.disks[d] := by simp [ShM.disk, hd']
  rw [hh]
  go_wp2
  go_ret
  refine ⟨by simp, ?_, (Turns.refl _ _).setCell F.mem_gd _⟩
  have := hS.setDead hd' true
  simpa [hdk] using this
 ·have hh' : s.has d 0 = false := by simpa using hh
  rw [hh']
  go_wp2
  go_ret
  exact ⟨by simp, by simpa using hS, Turns.refl _ _⟩
theorem sh_stop (hS : ShAtM w F s f) (n : Int) : Calls Try.prog 14 #[.pointer (some ⟨F.g, 0, none⟩), .int .i64 n] w fun e w' =>
  e = .returned (.tuple #[]) ∧ ShAtM w' F (s.stop n) f ∧ Turns F.blocks w w' := by
 have h0 := hS.c0
 have h1 := hS.c1
 have hlt := hS.lt _ F.mem_g
 have hf0 := hS.frozen 0
 have hf1 := hS.frozen 1
 have hoff := sh_off hS
 unfold ShM.stop
 go_enter Try.func14, Try.ntmps14
 go_wp2_with fail
 refine hoff.mono ?_
 rintro e w' ⟨rfl, rfl⟩
 by_cases hh : s.off = true
 ·rw [hh]
  go_wp2
  go_end0
  exact ⟨by simp, by simpa using hS, Turns.refl _ _⟩
 ·have hh' : s.off = false := by simpa using hh
  rw [hh']
  by_cases hn : 0 ≤ n
  ·go_wp2_with fail
   go_end0
   refine ⟨by simp, ?_, ((Turns.refl _ _).setCell F.mem_g _).setCell F.mem_g _⟩
   have := (hS.setLeft n).setStops true
   rw [show max n 0 = n from by omega]
   exact this
  ·go_wp2_with fail
   go_end0
   refine ⟨by simp, ?_, ((Turns.refl _ _).setCell F.mem_g _).setCell F.mem_g _⟩
   have := (hS.setLeft 0).setStops false
   rw [show max n 0 = 0 from by omega, show decide (0 ≤ n) = false from by simp; omega]
   exact this
end
end
section
open Go.RowKit
theorem Try.infoWrite : (Try.prog.info? 132).map (fun i => (i.zero, i.size, i.bytes)) = some (some (.agg #[.int .i64 0, .string ⟨#[]⟩]), 2, 24) := by kernel_rfl
section
variable {w : World} {F : ShF} {s : ShM} {f : Nat → Nat → Nat}
theorem waitV_one (x : Nat × Bytes) : ∀ u ∈ waitV x, u.oneCell' = true := by
 intro u hu
 simp only [waitV, List.mem_cons, List.not_mem_nil, or_false] at hu
 rcases hu with rfl | rfl <;> rfl
theorem waitsOf_app (ws : List (Nat × Bytes)) (n m : Nat) (b : Bytes) : waitsOf (ws ++ [(n, b)]) m = waitsOf ws m + if n = m then 1 else 0 := by
 simp only [waitsOf, List.filter_append, List.length_append]
 by_cases h : n = m
 ·simp [h]
 ·simp [h]
theorem seenF_write {s s2 : ShM} (hs : s2.disks = s.disks) {d : Nat} (hd : d < s.disks.length) (n : Nat) (b : Bytes) (x y : Nat) :
  seenF (s2.setDisk d ((s.disk d).write n b)) x y = updF (seenF s) d n (seenF s d n + 1) x y := by
 simp only [seenF, ShM.setDisk, ShM.disk, List.length_set, hs, if_pos hd, updF, DiskM.write]
 by_cases hx : x = d
 ·subst hx
  simp only [if_pos hd, List.getD_eq_getElem?_getD, List.getElem?_set_self hd, Option.getD_some, waitsOf_app]
  by_cases hy : y = n
  ·subst hy
   simp
  ·have hy' : ¬ n = y := fun e => hy e.symm
   simp [hy, hy']
 ·have hx' : ¬ d = x := fun e => hx e.symm
  simp [hx, hx', List.getD_eq_getElem?_getD, List.getElem?_set]
theorem setBlk_other (w : World) (b : Nat) (o : Obj) (k : Nat) (h : k ≠ b) : (setBlk w b o).heap[k]? = w.heap[k]? := by
 simp only [setBlk, Array.getElem?_setIfInBounds_ne (fun e => h e.symm)]
theorem bump_facts {X : World} {F : ShF} {s : ShM} {fq : Nat → Nat → Nat} (hS : ShAtM X F s fq) (d n q : Nat) (hd : smallN d) (hn : smallN n) (hq : fq d n = q) (hqb : q ≤ 1000000000000) :
  ∃ (st : Nat) (Y1 Y2 : World), (Instr.lookup 76 (.map (some F.gm)) (.agg #[.int .i64 (d : Int), .int .i64 (n : Int)]) false).run Try.prog X.drew = .ok (.int .i64 (q : Int)) X.drew ∧
   (Instr.mapEntry 76 (.map (some F.gm)) (.agg #[.int .i64 (d : Int), .int .i64 (n : Int)])).run Try.prog X.drew = .ok (.tuple #[.int .i64 (q : Int), .int .i64 (st : Int)]) Y1 ∧
   (Instr.lookup 76 (.map (some F.gm)) (.agg #[.int .i64 (d : Int), .int .i64 (n : Int)]) false).run Try.prog Y1 = .ok (.int .i64 (q : Int)) Y1 ∧
   (Instr.entryStore 76 (.map (some F.gm)) (.int .i64 (st : Int)) (.int .i64 (IntKind.i64.wrap ((q : Int) + 1)))).run Try.prog Y1 = .ok () Y2 ∧
   X.drew.cell? ⟨F.g, 5, none⟩ = some (.map (some F.gm)) ∧ Y1.cell? ⟨F.g, 5, none⟩ = some (.map (some F.gm)) ∧ Y2.cell? ⟨F.g, 5, none⟩ = some (.map (some F.gm)) ∧
   ShAtM Y2 F s (updF fq d n (q + 1)) ∧ Turns F.blocks X Y2 := by
 subst hq
 have h0 : MapP X.drew F.gm fq := hS.seen
 obtain ⟨st, o1, hE, hM⟩ := h0.entry Try.pairMap d n hd hn
 obtain ⟨o2, hSt, hM2⟩ := hM.store (P := Try.prog) (mt := 76) hd hn (fq d n + 1)
 have hc := hS.c5
 have hb1 : ∀ k, k ≠ F.gm → (setBlk X.drew F.gm o1).heap[k]? = X.heap[k]? := fun k hk => setBlk_other _ _ _ k hk
 have hb2 : ∀ k, k ≠ F.gm → (setBlk (setBlk X.drew F.gm o1) F.gm o2).heap[k]? = X.heap[k]? := fun k hk => (setBlk_other _ _ _ k hk).trans (hb1 k hk)
 refine ⟨st, setBlk X.drew F.gm o1, setBlk (setBlk X.drew F.gm o1) F.gm o2, h0.look Try.pairMap d n hd hn, hE, hM.toP.look Try.pairMap d n hd hn, ?_, hc, (World.cell?_of_block (hb1 _ hS.sep.g_gm)).trans hc, (World.cell?_of_block (hb2 _ hS.sep.g_gm)).trans hc, hS.map hb2 hM2,
  (((Turns.refl _ _).drew).setBlk F.mem_gm _).setBlk F.mem_gm _⟩
 have e : IntKind.i64.wrap (((fq d n : Nat) : Int) + 1) = ((fq d n + 1 : Nat) : Int) := by
  have : ∀ x : Int, 0 ≤ x → x ≤ 1000000000001 → IntKind.i64.wrap x = x := by
   intro x h1 h2
   simp only [IntKind.wrap, IntKind.bits, IntKind.signed, if_true]
   simp
   omega
  rw [this _ (by omega) (by omega)]
  omega
 rw [e]
 exact hSt
theorem has_of {s : ShM} {d n : Int} (h : s.has d n = true) : (0 ≤ d ∧ d < s.disks.length) ∧ 0 ≤ n ∧ n < s.sectors := by
 simp only [ShM.has, decide_eq_true_eq] at h
 omega
set_option maxHeartbeats 1000000 in
theorem sh_write (hS : ShAt w F s) (d n : Int) (A : Option Addr) (m c : Nat) (bs : Bytes) (hr : Rd w A bs) (hm : bs.length = m) (hA : ∀ ad, A = some ad → ad.block ∉ F.blocks)
  (hroom : (s.disk d.toNat).waits.length ≤ 1000000000000) :
  Calls Try.prog 22 #[.pointer (some ⟨F.g, 0, none⟩), .int .i64 d, .int .i64 n, .slice A m c] w fun e w' =>
   ∃ F', e = .returned (.int .i64 (s.writeR d n bs).1) ∧ ShAt w' F' (s.writeR d n bs).2 ∧ ShTo w F w' F' ∧ ((s.writeR d n bs).1 ≠ 0 → F' = F) := by
 have hhas := sh_has hS d n
 have hlt := hS.lt _ F.mem_g
 by_cases hh : s.has d n = true ∧ bs.length = 128
 ·obtain ⟨hh, hl⟩ := hh
  obtain ⟨⟨hd0, hd1⟩, hn0, hn1⟩ := has_of hh
  obtain ⟨d, rfl⟩ := Int.eq_ofNat_of_zero_le hd0
  obtain ⟨n, rfl⟩ := Int.eq_ofNat_of_zero_le hn0
  have hd' : d < s.disks.length := by omega
  have hdk : s.disk d = s.disks[d] := by simp [ShM.disk, hd']
  have hready := sh_ready hS d hd' true
  have hres : s.writeR d n bs = (if s.why d = 0 then (0, (s.spend.tick).setDisk d ((s.disk d).write n bs)) else (s.why d, s)) := by
   simp [ShM.writeR, hh, hl]
  rw [hres]
  have hm128 : m = 128 := by omega
  subst hm128
  rw [hh] at hhas
  simp only [Int.toNat_natCast] at hroom
  by_cases hw : s.why d = 0
  ·rw [if_pos hw]
   simp only [hw, true_and, if_true] at hready
   go_enter Try.func22, Try.ntmps22
   go_wp2_with fail
   refine hhas.mono ?_
   rintro e w' ⟨rfl, rfl⟩
   go_wp2_with fail
   refine hready.mono ?_
   rintro e w1 ⟨rfl, hS1, hT1⟩
   have hc4 := hS1.c4
   have hf4 := hS1.frozen 4
   go_wp2_with fail
   have hS2 := hS1.setCount (wrap64 (s.spend.count + 1))
   have hT2 := hT1.setCell (a := ⟨F.g, 4, none⟩) F.mem_g (.int .i64 (wrap64 (s.spend.count + 1)))
   have hs2 : { s.spend with count := wrap64 (s.spend.count + 1) } = s.spend.tick := rfl
   rw [hs2] at hS2
   have hdisks : s.spend.tick.disks = s.disks := by simp only [ShM.tick, ShM.spend]; split <;> rfl
   have hsect : s.spend.tick.sectors = s.sectors := by simp only [ShM.tick, ShM.spend]; split <;> rfl
   generalize hs2e : s.spend.tick = s2 at *
   replace hs2e := Lib.hid hs2e
   generalize w1.setCell ⟨F.g, 4, none⟩ (.int .i64 (wrap64 (s.spend.count + 1))) = W at *
   have hd2 : d < s2.disks.length := by rw [hdisks]; exact hd'
   have hd2' : d < F.fs.length := by rw [hS2.fs]; exact hd2
   have hc2 := hS2.c2
   have hc5 := hS2.c5
   have hwc := hS2.d1 hd2
   have hwf := hS2.dfrozen (d * 3 + 1)
   have hrow := hS2.waits d hd2
   have hle17 := hS2.ok.disks17
   have ek : s2.disks[d] = s.disk d := by rw [hdk]; simp only [hdisks]
   have hseen : ∀ x y, seenF (s2.setDisk d ((s.disk d).write n bs)) x y = updF (seenF s) d n (seenF s d n + 1) x y := seenF_write hdisks hd' n bs
   rw [ek] at hrow
   have hkw := hS2.ok.waits _ (List.getElem_mem hd2)
   rw [ek] at hkw
   have hsee : seenF s d n ≤ 1000000000000 := by
    have e1 : seenF s d n = waitsOf (s.disk d).waits n := by simp only [seenF, if_pos hd']
    rw [e1]
    exact Nat.le_trans (List.length_filter_le _ _) hroom
   have hdl : (d : Int) < s2.disks.length := by rw [hdisks]; exact hd1
   have hgm9 := hS2.sep
   clear hres hs2 hdk hready hhas hc4 hf4 hT1 hS1
   generalize hke : s.disk d = k at *
   replace hke := Lib.hid hke
   generalize hsf : seenF s d n = q at *
   generalize seenF s = fq at *
   replace hdisks := Lib.hid hdisks
   replace ek := Lib.hid ek
   replace hsf := Lib.hid hsf
   have hrW : Rd W A bs := ⟨hr.1, hr.2.1, fun ad e i hi => (World.cell?_of_block (hT2.block _ (World.block_lt_of_cell? w _ (hr.2.2 ad e i hi)) (by rw [add_block]; exact hA ad e))).trans (hr.2.2 ad e i hi)⟩
   have hkeep : ∀ W', Turns (F.gd :: (F.fs[d]).wv.ownBlock.toList) W W' → W'.cell? ⟨F.g, 2, none⟩ = some (.slice (some ⟨F.gd, 0, none⟩) s2.disks.length F.cd) ∧ (convert 32 9 (.slice A 128 c)).run Try.prog W' = .ok (.string ⟨bs.toArray⟩) W' := by
    intro W' hT
    have hg1 : F.g ∉ (F.gd :: (F.fs[d]).wv.ownBlock.toList) := by
     simp only [List.mem_cons, Option.mem_toList, not_or]
     exact ⟨hS2.sep.g_gd, fun e => (hS2.sep.out d hd2' F.g (by simp [DiskF.blocks, e])).1 rfl⟩
    refine ⟨(World.cell?_of_block (hT.block F.g (hS2.lt _ F.mem_g) hg1)).trans hc2, ?_⟩
    refine run_string_rd (P := Try.prog) W' 32 9 5 Try.underlying32 Try.underlying5 Try.underlying9 A 128 c bs ?_ hl
    refine ⟨hrW.1, hrW.2.1, fun ad e i hi => (World.cell?_of_block (hT.block _ (World.block_lt_of_cell? W _ (hrW.2.2 ad e i hi)) ?_)).trans (hrW.2.2 ad e i hi)⟩
    rw [add_block]
    intro hm
    refine hA ad e ?_
    simp only [List.mem_cons, Option.mem_toList] at hm
    rcases hm with hm | hm
    ·rw [hm]; exact F.mem_gd
    ·exact F.mem_f hd2' (by simp [DiskF.blocks, hm])
   have hgdn : F.gd ∉ (F.fs[d]).wv.ownBlock.toList := by
    intro hm
    exact (hS2.sep.out d hd2' F.gd (by simp only [DiskF.blocks, List.mem_cons]; exact .inr hm)).2.1 rfl
   have hgdlt := hS2.lt _ F.mem_gd
   have hnew := World.new_ne W _ hwc
   refine wp_region_held_drew (S := (fun w' => w'.cell? ⟨F.g, 2, none⟩ = some (.slice (some ⟨F.gd, 0, none⟩) s2.disks.length F.cd) ∧ (convert 32 9 (.slice A 128 c)).run Try.prog w' = .ok (.string ⟨bs.toArray⟩) w')) (by kernel_rfl) (by (try dsimp only); refine hkeep _ ?_; repeat (first | exact Turns.refl _ _ | assumption | refine Turns.drew ?_ | refine Turns.alloc ?_ _ | refine Turns.setCell ?_ (by simp) _)) (fun hHeld => ?_)
   refine tkA 0 ?_
   refine tkA 1 ?_
   refine tkA 2 ?_
   refine tkA 3 ?_
   refine tkA 4 ?_
   refine tkA 5 ?_
   refine tkA 6 ?_
   refine tkA 7 ?_
   refine tkA 8 ?_
   refine tkA 9 ?_
   refine tkA 10 ?_
   refine tkA 11 ?_
   refine tkA 13 ?_
   refine tkA 14 ?_
   refine tkA 15 ?_
   refine tkA 16 ?_
   refine wpAnyH_ready (rs := [12, 17]) (by kernel_rfl) (by simp) ?_
   refine AllReadyH.cons (o := ⟨_, _, _, _, _, _⟩) rfl (fun K hK => ?_) (AllReadyH.cons (o := ⟨_, _, _, _, _, _⟩) rfl (fun K hK => ?_) AllReadyH.nil)
   ·
    go_simp
    refine hK.out _ _ ?_ (fun hHeld => ?_)
    ·(refine hkeep _ ?_; repeat (first | exact Turns.refl _ _ | assumption | refine Turns.drew ?_ | refine Turns.alloc ?_ _ | refine Turns.setCell ?_ (by simp) _))
    clear hK K
    (try simp only [pA, pN, pB, pC, pD])
    refine rkA 17 (fun K hK => ?_)
    go_simp
    refine hK.out _ _ ?_ (fun hHeld => ?_)
    ·(refine hkeep _ ?_; repeat (first | exact Turns.refl _ _ | assumption | refine Turns.drew ?_ | refine Turns.alloc ?_ _ | refine Turns.setCell ?_ (by simp) _))
    clear hK K
    (try simp only [pA, pN, pB, pC, pD])
    refine rkA 18 (fun K hK => ?_)
    refine step_append_at (by rfl) (.tmp 47) (.tmp 52) 102 (by rfl) 0 132 (.agg #[.int .i64 0, .string ⟨#[]⟩]) 2 24 Try.underlying102 Try.infoWrite rfl (by omega)
     (F.fs[d]).wv k.waits.length (waitsV k.waits) (waitV (n, bs)) (some ⟨W.heap.size, 0, none⟩) 1 1 (by rfl) (by rfl) (hrow.alloc _).drew (RdV.lit W _ (waitV (n, bs)) (by simp [waitV])).drew (waitV_one _) (by rfl) (by simp only [maxLen]; omega) (by omega) (Nat.zero_le _) ?_
    intro v9 w9 hown9 hg9 hat9
    have hT9 : Turns (F.fs[d]).wv.ownBlock.toList W w9 := Turns.grown (((Turns.refl _ _).alloc _).drew) hg9 (fun k hk => .inl (by simp [hk]))
    have hT9' : Turns (F.gd :: (F.fs[d]).wv.ownBlock.toList) W w9 := hT9.mono (fun b hb => by simp only [List.mem_cons]; exact .inr hb)
    have hc9 := (World.cell?_of_block (hT9.block F.gd (hS2.lt _ F.mem_gd) hgdn) (a := ⟨F.gd, d * 3 + 1, none⟩)).trans hwc
    have hf9 := (World.frozen?_of_block (hT9.block F.gd (hS2.lt _ F.mem_gd) hgdn) (a := ⟨F.gd, d * 3 + 1, none⟩)).trans hwf
    obtain ⟨A9, c9, rfl, hcc9, _⟩ := ownsRow_form hown9
    refine hK.out _ _ ?_ (fun hHeld => ?_)
    ·(refine hkeep _ ?_; repeat (first | exact Turns.refl _ _ | assumption | refine Turns.drew ?_ | refine Turns.alloc ?_ _ | refine Turns.setCell ?_ (by simp) _))
    clear hK K
    (try simp only [pA, pN, pB, pC, pD])
    refine tkA 19 ?_
    refine tkA 20 ?_
    refine rkA 21 (fun K hK => ?_)
    go_simp
    refine hK.out _ _ ?_ (fun hHeld => ?_)
    ·(refine hkeep _ ?_; repeat (first | exact Turns.refl _ _ | assumption | refine Turns.drew ?_ | refine Turns.alloc ?_ _ | refine Turns.setCell ?_ (by simp) _))
    clear hK K
    (try simp only [pA, pN, pB, pC, pD])
    refine wpAnyH_done (by kernel_rfl) ?_ _
    have hS10 := hS2.storeW hd2 (.slice A9 (k.waits.length + 1) c9) (k.waits ++ [(n, bs)])
     (by
      intro x hx
      rcases List.mem_append.1 hx with hx | hx
      ·exact hkw x hx
      ·simp only [List.mem_singleton] at hx
       subst hx
       exact ⟨by rw [hsect]; omega, hl⟩)
     (by rw [waitsV_app, List.length_append]; exact hown9) hT9.size
     (fun b hb hne => hT9.block b hb (by simpa using hne))
     (by
      intro b hb
      rcases hat9 with h9 | h9
      ·exact .inl (h9 ▸ hb)
      ·rw [h9] at hb
       injection hb with hb
       subst hb
       exact .inr (by simp))
    have hT10 : Turns F.blocks w (w9.setCell ⟨F.gd, d * 3 + 1, none⟩ (.slice A9 (k.waits.length + 1) c9)) := (hT2.trans (hT9.mono (fun b hb => F.mem_f hd2' (by simp only [DiskF.blocks, List.mem_cons]; exact .inr hb)))).setCell F.mem_gd _
    have hnews : ∀ b ∈ (F.setF d { F.fs[d] with wv := .slice A9 (k.waits.length + 1) c9 }).blocks, b ∈ F.blocks ∨ w.heap.size ≤ b := by
     intro b hb
     rcases ShF.mem_cases hb with rfl | rfl | rfl | ⟨e, he, hb⟩
     ·exact .inl F.mem_g
     ·exact .inl F.mem_gd
     ·exact .inl F.mem_gm
     ·have he' : e < F.fs.length := by simpa [ShF.setF] using he
      simp only [ShF.setF, List.getElem_set] at hb
      split at hb
      ·simp only [DiskF.blocks, List.mem_cons, Option.mem_toList] at hb
       rcases hb with rfl | hb
       ·exact .inl (F.mem_f hd2' (by simp [DiskF.blocks]))
       ·rcases hat9 with h9 | h9
        ·rw [h9] at hb
         exact .inl (F.mem_f hd2' (by simp [DiskF.blocks, hb]))
        ·rw [h9] at hb
         injection hb with hb
         have := hT2.size
         simp at hb
         exact .inr (by omega)
      ·exact .inl (F.mem_f he' hb)
    generalize w9.setCell ⟨F.gd, d * 3 + 1, none⟩ (.slice A9 (k.waits.length + 1) c9) = X at *
    generalize { F.fs[d] with wv := .slice A9 (k.waits.length + 1) c9 } = fd at *
    have hcX := hS10.c5
    clear hown9 hg9 hat9 hT9 hT9' hc9 hf9 hrow hkeep hwc hwf hc2
    have hX5 : (F.setF d fd).gm = F.gm := rfl
    have hd7 : smallN d := by have := hS2.ok.disks17; unfold smallN; omega
    have hn7 : smallN n := by have := hS2.ok.sectors4096; rw [hsect] at this; unfold smallN; omega
    obtain ⟨st, Y1, Y2, hb1, hb2, hb3, hb4, hb5, hb6, hb7, hS11, hT11⟩ := bump_facts hS10 d n q hd7 hn7 hsf.out hsee
    have hgX : (F.setF d fd).g = F.g := rfl
    rw [hgX] at hb5 hb6 hb7
    rw [hX5] at hb1 hb2 hb3 hb4 hb5 hb6 hb7
    go_wp2_with fail
    go_region_held3 (fun w' => w'.cell? ⟨F.g, 5, none⟩ = some (.map (some F.gm))) (assumption) (fail)
    all_goals
     have hfin : ShAt Y2 (F.setF d fd) (s2.setDisk d (k.write n bs)) := by
      have e1 : ({ sure := s2.disks[d].sure, waits := k.waits ++ [(n, bs)], dead := s2.disks[d].dead } : DiskM) = k.write n bs := by rw [ek.out]; rfl
      have e2 : seenF (s2.setDisk d (k.write n bs)) = updF fq d n (q + 1) := funext fun x => funext fun y => hseen x y
      unfold ShAt
      rw [e2, ← e1]
      exact hS11
     have hto : ShTo w F Y2 (F.setF d fd) := (⟨hT10, rfl, hnews⟩ : ShTo w F X (F.setF d fd)).then_ hT11
     clear hb1 hb2 hb3 hb4 hS11 hT11 hS10 hseen
     go_wp2
     go_ret
     refine ⟨_, by simp, ?_, hto, fun h => absurd rfl h⟩
     rw [hs2e.out, hke.out]
     exact hfin
   ·
    go_simp
    refine hK.out _ _ ?_ (fun hHeld => ?_)
    ·(refine hkeep _ ?_; repeat (first | exact Turns.refl _ _ | assumption | refine Turns.drew ?_ | refine Turns.alloc ?_ _ | refine Turns.setCell ?_ (by simp) _))
    clear hK K
    (try simp only [pA, pN, pB, pC, pD])
    refine rkA 12 (fun K hK => ?_)
    go_simp
    refine hK.out _ _ ?_ (fun hHeld => ?_)
    ·(refine hkeep _ ?_; repeat (first | exact Turns.refl _ _ | assumption | refine Turns.drew ?_ | refine Turns.alloc ?_ _ | refine Turns.setCell ?_ (by simp) _))
    clear hK K
    (try simp only [pA, pN, pB, pC, pD])
    refine rkA 18 (fun K hK => ?_)
    refine step_append_at (by rfl) (.tmp 47) (.tmp 52) 102 (by rfl) 0 132 (.agg #[.int .i64 0, .string ⟨#[]⟩]) 2 24 Try.underlying102 Try.infoWrite rfl (by omega)
     (F.fs[d]).wv k.waits.length (waitsV k.waits) (waitV (n, bs)) (some ⟨W.heap.size, 0, none⟩) 1 1 (by rfl) (by rfl) (hrow.alloc _).drew (RdV.lit W _ (waitV (n, bs)) (by simp [waitV])).drew (waitV_one _) (by rfl) (by simp only [maxLen]; omega) (by omega) (Nat.zero_le _) ?_
    intro v9 w9 hown9 hg9 hat9
    have hT9 : Turns (F.fs[d]).wv.ownBlock.toList W w9 := Turns.grown (((Turns.refl _ _).alloc _).drew) hg9 (fun k hk => .inl (by simp [hk]))
    have hT9' : Turns (F.gd :: (F.fs[d]).wv.ownBlock.toList) W w9 := hT9.mono (fun b hb => by simp only [List.mem_cons]; exact .inr hb)
    have hc9 := (World.cell?_of_block (hT9.block F.gd (hS2.lt _ F.mem_gd) hgdn) (a := ⟨F.gd, d * 3 + 1, none⟩)).trans hwc
    have hf9 := (World.frozen?_of_block (hT9.block F.gd (hS2.lt _ F.mem_gd) hgdn) (a := ⟨F.gd, d * 3 + 1, none⟩)).trans hwf
    obtain ⟨A9, c9, rfl, hcc9, _⟩ := ownsRow_form hown9
    refine hK.out _ _ ?_ (fun hHeld => ?_)
    ·(refine hkeep _ ?_; repeat (first | exact Turns.refl _ _ | assumption | refine Turns.drew ?_ | refine Turns.alloc ?_ _ | refine Turns.setCell ?_ (by simp) _))
    clear hK K
    (try simp only [pA, pN, pB, pC, pD])
    refine tkA 19 ?_
    refine tkA 20 ?_
    refine rkA 21 (fun K hK => ?_)
    go_simp
    refine hK.out _ _ ?_ (fun hHeld => ?_)
    ·(refine hkeep _ ?_; repeat (first | exact Turns.refl _ _ | assumption | refine Turns.drew ?_ | refine Turns.alloc ?_ _ | refine Turns.setCell ?_ (by simp) _))
    clear hK K
    (try simp only [pA, pN, pB, pC, pD])
    refine wpAnyH_done (by kernel_rfl) ?_ _
    have hS10 := hS2.storeW hd2 (.slice A9 (k.waits.length + 1) c9) (k.waits ++ [(n, bs)])
     (by
      intro x hx
      rcases List.mem_append.1 hx with hx | hx
      ·exact hkw x hx
      ·simp only [List.mem_singleton] at hx
       subst hx
       exact ⟨by rw [hsect]; omega, hl⟩)
     (by rw [waitsV_app, List.length_append]; exact hown9) hT9.size
     (fun b hb hne => hT9.block b hb (by simpa using hne))
     (by
      intro b hb
      rcases hat9 with h9 | h9
      ·exact .inl (h9 ▸ hb)
      ·rw [h9] at hb
       injection hb with hb
       subst hb
       exact .inr (by simp))
    have hT10 : Turns F.blocks w (w9.setCell ⟨F.gd, d * 3 + 1, none⟩ (.slice A9 (k.waits.length + 1) c9)) := (hT2.trans (hT9.mono (fun b hb => F.mem_f hd2' (by simp only [DiskF.blocks, List.mem_cons]; exact .inr hb)))).setCell F.mem_gd _
    have hnews : ∀ b ∈ (F.setF d { F.fs[d] with wv := .slice A9 (k.waits.length + 1) c9 }).blocks, b ∈ F.blocks ∨ w.heap.size ≤ b := by
     intro b hb
     rcases ShF.mem_cases hb with rfl | rfl | rfl | ⟨e, he, hb⟩
     ·exact .inl F.mem_g
     ·exact .inl F.mem_gd
     ·exact .inl F.mem_gm
     ·have he' : e < F.fs.length := by simpa [ShF.setF] using he
      simp only [ShF.setF, List.getElem_set] at hb
      split at hb
      ·simp only [DiskF.blocks, List.mem_cons, Option.mem_toList] at hb
       rcases hb with rfl | hb
       ·exact .inl (F.mem_f hd2' (by simp [DiskF.blocks]))
       ·rcases hat9 with h9 | h9
        ·rw [h9] at hb
         exact .inl (F.mem_f hd2' (by simp [DiskF.blocks, hb]))
        ·rw [h9] at hb
         injection hb with hb
         have := hT2.size
         simp at hb
         exact .inr (by omega)
      ·exact .inl (F.mem_f he' hb)
    generalize w9.setCell ⟨F.gd, d * 3 + 1, none⟩ (.slice A9 (k.waits.length + 1) c9) = X at *
    generalize { F.fs[d] with wv := .slice A9 (k.waits.length + 1) c9 } = fd at *
    have hcX := hS10.c5
    clear hown9 hg9 hat9 hT9 hT9' hc9 hf9 hrow hkeep hwc hwf hc2
    have hX5 : (F.setF d fd).gm = F.gm := rfl
    have hd7 : smallN d := by have := hS2.ok.disks17; unfold smallN; omega
    have hn7 : smallN n := by have := hS2.ok.sectors4096; rw [hsect] at this; unfold smallN; omega
    obtain ⟨st, Y1, Y2, hb1, hb2, hb3, hb4, hb5, hb6, hb7, hS11, hT11⟩ := bump_facts hS10 d n q hd7 hn7 hsf.out hsee
    have hgX : (F.setF d fd).g = F.g := rfl
    rw [hgX] at hb5 hb6 hb7
    rw [hX5] at hb1 hb2 hb3 hb4 hb5 hb6 hb7
    go_wp2_with fail
    go_region_held3 (fun w' => w'.cell? ⟨F.g, 5, none⟩ = some (.map (some F.gm))) (assumption) (fail)
    all_goals
     have hfin : ShAt Y2 (F.setF d fd) (s2.setDisk d (k.write n bs)) := by
      have e1 : ({ sure := s2.disks[d].sure, waits := k.waits ++ [(n, bs)], dead := s2.disks[d].dead } : DiskM) = k.write n bs := by rw [ek.out]; rfl
      have e2 : seenF (s2.setDisk d (k.write n bs)) = updF fq d n (q + 1) := funext fun x => funext fun y => hseen x y
      unfold ShAt
      rw [e2, ← e1]
      exact hS11
     have hto : ShTo w F Y2 (F.setF d fd) := (⟨hT10, rfl, hnews⟩ : ShTo w F X (F.setF d fd)).then_ hT11
     clear hb1 hb2 hb3 hb4 hS11 hT11 hS10 hseen
     go_wp2
     go_ret
     refine ⟨_, by simp, ?_, hto, fun h => absurd rfl h⟩
     rw [hs2e.out, hke.out]
     exact hfin
  ·rw [if_neg hw]
   simp only [hw, false_and, if_false] at hready
   have hb : (s.why d != 0) = true := by simpa using hw
   clear hres
   generalize s.why d = y at *
   go_enter Try.func22, Try.ntmps22
   go_wp2_with fail
   refine hhas.mono ?_
   rintro e w' ⟨rfl, rfl⟩
   go_wp2_with fail
   refine hready.mono ?_
   rintro e w1 ⟨rfl, hS1, hT1⟩
   go_wp2
   go_ret
   exact ⟨F, by simp, hS1, ShTo.same hT1, fun _ => rfl⟩
 ·have hres : s.writeR d n bs = (1, s) := by simp only [ShM.writeR, if_neg hh]
  rw [hres]
  go_enter Try.func22, Try.ntmps22
  go_wp2_with fail
  refine hhas.mono ?_
  rintro e w' ⟨rfl, rfl⟩
  by_cases hs : s.has d n = true
  ·have hl : m ≠ 128 := fun e => hh ⟨hs, by omega⟩
   have hb : ((m : Int) != 128) = true := by rw [bne_iff_ne]; omega
   rw [hs]
   clear hh hres hhas
   go_wp2
   go_ret
   exact ⟨F, by simp, hS, ShTo.refl _ _, fun _ => rfl⟩
  ·have hs' : s.has d n = false := by simpa using hs
   rw [hs']
   clear hh hres hhas
   go_wp2
   go_ret
   exact ⟨F, by simp, hS, ShTo.refl _ _, fun _ => rfl⟩
end
end
section
open Go.RowKit
def ShF.at_ (F : ShF) (d : Nat) : DiskF := F.fs.getD d ⟨0, 0, .slice none 0 0⟩
theorem ShF.at_eq (F : ShF) {d : Nat} (h : d < F.fs.length) : F.fs[d] = F.at_ d := by simp [ShF.at_, List.getD_eq_getElem?_getD, h]
theorem ShM.disk_eq (s : ShM) {d : Nat} (h : d < s.disks.length) : s.disks[d] = s.disk d := by simp [ShM.disk, List.getD_eq_getElem?_getD, h]
theorem ShM.disk_set (s : ShM) {d : Nat} (h : d < s.disks.length) (k : DiskM) : (s.setDisk d k).disk d = k := by simp [ShM.disk, ShM.setDisk, List.getD_eq_getElem?_getD, h]
theorem ShM.disk_set_ne (s : ShM) {d e : Nat} (h : e ≠ d) (k : DiskM) : (s.setDisk d k).disk e = s.disk e := by
 have h' : ¬ d = e := fun x => h x.symm
 simp [ShM.disk, ShM.setDisk, List.getD_eq_getElem?_getD, List.getElem?_set, h']
theorem ShM.set_set (s : ShM) (d : Nat) (k k' : DiskM) : (s.setDisk d k).setDisk d k' = s.setDisk d k' := by simp [ShM.setDisk]
theorem ShM.set_len (s : ShM) (d : Nat) (k : DiskM) : (s.setDisk d k).disks.length = s.disks.length := by simp [ShM.setDisk]
theorem ShM.set_self (s : ShM) (d : Nat) : s.setDisk d (s.disk d) = s := by
 obtain ⟨l, st, ds, se, co⟩ := s
 simp only [ShM.setDisk, ShM.disk, ShM.mk.injEq, true_and, and_true]
 apply List.ext_getElem?
 intro i
 rw [List.getElem?_set]
 split
 ·subst d
  split
  ·rename_i h
   simp [List.getD_eq_getElem?_getD, h]
  ·rename_i h
   simp [List.getElem?_eq_none (Nat.le_of_not_lt h)]
 ·rfl
section
variable {w w' : World} {F : ShF} {s : ShM} {f : Nat → Nat → Nat}
theorem ShAtM.okd (h : ShAtM w F s f) {d : Nat} (hd : d < s.disks.length) : (s.disk d).sure.length = s.sectors ∧ (∀ b ∈ (s.disk d).sure, b.length = 128) ∧ ∀ x ∈ (s.disk d).waits, x.1 < s.sectors ∧ x.2.length = 128 := by
 rw [← s.disk_eq hd]
 exact ⟨h.ok.sure _ (List.getElem_mem hd), h.ok.sec _ (List.getElem_mem hd), h.ok.waits _ (List.getElem_mem hd)⟩
theorem ShAtM.fd (h : ShAtM w F s f) {d : Nat} (hd : d < s.disks.length) : d < F.fs.length := by rw [h.fs]; exact hd
theorem ShAtM.e0 (h : ShAtM w F s f) {d : Nat} (hd : d < s.disks.length) : w.cell? ⟨F.gd, d * 3, none⟩ = some (.slice (some ⟨(F.at_ d).gs, 0, none⟩) (s.disk d).sure.length (F.at_ d).cs) := by
 rw [← s.disk_eq hd, ← F.at_eq (h.fd hd)]; exact h.d0 hd
theorem ShAtM.e1 (h : ShAtM w F s f) {d : Nat} (hd : d < s.disks.length) : w.cell? ⟨F.gd, d * 3 + 1, none⟩ = some (F.at_ d).wv := by
 rw [← F.at_eq (h.fd hd)]; exact h.d1 hd
theorem ShAtM.esure (h : ShAtM w F s f) {d n : Nat} (hd : d < s.disks.length) (hn : n < (s.disk d).sure.length) : w.cell? ⟨(F.at_ d).gs, n, none⟩ = some (strV ((s.disk d).sure.getD n [])) := by
 rw [← F.at_eq (h.fd hd)]
 have hn' : n < (s.disks[d]).sure.length := by rw [s.disk_eq hd]; exact hn
 rw [h.sureC hd hn']
 congr 2
 simp only [s.disk_eq hd, List.getD_eq_getElem?_getD]
 simp [hn]
theorem ShAtM.efrozen (h : ShAtM w F s f) {d : Nat} (hd : d < s.disks.length) (i : Nat) : w.frozen? ⟨(F.at_ d).gs, i, none⟩ = false := by
 rw [← F.at_eq (h.fd hd)]; exact h.sfrozen hd i
theorem ShAtM.ewaits (h : ShAtM w F s f) {d : Nat} (hd : d < s.disks.length) : w.ownsRow 0 132 2 (F.at_ d).wv (s.disk d).waits.length (waitsV (s.disk d).waits) := by
 rw [← s.disk_eq hd, ← F.at_eq (h.fd hd)]; exact h.waits d hd
theorem ShF.mem_gs (F : ShF) {d : Nat} (h : d < F.fs.length) : (F.at_ d).gs ∈ F.blocks := by rw [← F.at_eq h]; exact F.mem_f h (by simp [DiskF.blocks])
theorem ShF.mem_wv (F : ShF) {d b : Nat} (h : d < F.fs.length) (hb : (F.at_ d).wv.ownBlock = some b) : b ∈ F.blocks := by rw [← F.at_eq h] at hb; exact F.mem_f h (by simp [DiskF.blocks, hb])
theorem ShAtM.gs_ne (h : ShAtM w F s f) {d : Nat} (hd : d < s.disks.length) : (F.at_ d).gs ≠ F.g ∧ (F.at_ d).gs ≠ F.gd ∧ (F.at_ d).gs ≠ F.gm := by
 rw [← F.at_eq (h.fd hd)]; exact h.sep.out d (h.fd hd) _ (by simp [DiskF.blocks])
theorem ShAtM.esetSure (h : ShAtM w F s f) {d n : Nat} (hd : d < s.disks.length) (b : Bytes) (hb : b.length = 128) :
  ShAtM (w.setCell ⟨(F.at_ d).gs, n, none⟩ (strV b)) F (s.setDisk d { s.disk d with sure := (s.disk d).sure.set n b }) f := by
 have := h.setSure (n := n) hd b hb
 rw [F.at_eq (h.fd hd)] at this
 simp only [s.disk_eq hd] at this
 exact this
theorem ShAtM.eclear (h : ShAtM w F s f) {d : Nat} (hd : d < s.disks.length) :
  ShAtM (w.setCell ⟨F.gd, d * 3 + 1, none⟩ (.slice none 0 0)) (F.setF d { F.at_ d with wv := .slice none 0 0 }) (s.setDisk d { s.disk d with waits := [] }) f := by
 have := h.storeW (w' := w) hd (.slice none 0 0) [] (fun x hx => by simp at hx) (World.ownsRow_nil _ _ _ _) (Nat.le_refl _) (fun _ _ _ => rfl) (fun b hb => by simp [Value.ownBlock] at hb)
 rw [F.at_eq (h.fd hd)] at this
 simp only [s.disk_eq hd] at this
 exact this
theorem ShF.clear_news (F : ShF) (d : Nat) : ∀ b ∈ (F.setF d { F.at_ d with wv := .slice none 0 0 }).blocks, b ∈ F.blocks := by
 intro b hb
 rcases ShF.mem_cases hb with rfl | rfl | rfl | ⟨e, he, hb⟩
 ·exact F.mem_g
 ·exact F.mem_gd
 ·exact F.mem_gm
 ·have he' : e < F.fs.length := by simpa [ShF.setF] using he
  simp only [ShF.setF, List.getElem_set] at hb
  split at hb
  ·subst d
   simp only [DiskF.blocks, Value.ownBlock, Option.toList_none, List.mem_singleton] at hb
   subst hb
   exact F.mem_gs he'
  ·exact F.mem_f he' hb
end
theorem settleL_snoc (keeps : Nat → Bool) (x : Nat × Bytes) : ∀ (l : List (Nat × Bytes)) (j : Nat) (sure : List Bytes),
  settleL keeps j (l ++ [x]) sure = if keeps (j + l.length) then (settleL keeps j l sure).set x.1 x.2 else settleL keeps j l sure
 | [], j, sure => by simp [settleL]
 | y :: l, j, sure => by
  rw [List.cons_append, settleL, settleL, settleL_snoc keeps x l (j + 1)]
  simp only [List.length_cons, show j + 1 + l.length = j + (l.length + 1) from by omega]
theorem settleL_take (keeps : Nat → Bool) (ws : List (Nat × Bytes)) (i : Nat) (hi : i < ws.length) (sure : List Bytes) :
  settleL keeps 0 (ws.take (i + 1)) sure = if keeps i then (settleL keeps 0 (ws.take i) sure).set ws[i].1 ws[i].2 else settleL keeps 0 (ws.take i) sure := by
 rw [List.take_succ_eq_append_getElem hi, settleL_snoc]
 simp only [List.length_take, Nat.zero_add, Nat.min_eq_left (Nat.le_of_lt hi)]
theorem settleL_len (keeps : Nat → Bool) : ∀ (l : List (Nat × Bytes)) (j : Nat) (sure : List Bytes), (settleL keeps j l sure).length = sure.length
 | [], _, _ => rfl
 | y :: l, j, sure => by rw [settleL, settleL_len keeps l]; split <;> simp
theorem settleL_mem (keeps : Nat → Bool) : ∀ (l : List (Nat × Bytes)) (j : Nat) (sure : List Bytes), ∀ b ∈ settleL keeps j l sure, b ∈ sure ∨ ∃ x ∈ l, x.2 = b
 | [], _, _ => fun b hb => .inl hb
 | y :: l, j, sure => fun b hb => by
  rw [settleL] at hb
  rcases settleL_mem keeps l _ _ b hb with h | ⟨x, hx, h⟩
  ·split at h
   ·rcases List.mem_or_eq_of_mem_set h with h | h
    ·exact .inl h
    ·exact .inr ⟨y, by simp, h.symm⟩
   ·exact .inl h
  ·exact .inr ⟨x, by simp [hx], h⟩
def delF (f : Nat → Nat → Nat) (d : Nat) (ws : List (Nat × Bytes)) : Nat → Nat → Nat := fun x y => if x = d ∧ y ∈ ws.map (·.1) then 0 else f x y
theorem delF_nil (f : Nat → Nat → Nat) (d : Nat) : delF f d [] = f := by funext x y; simp [delF]
theorem delF_snoc (f : Nat → Nat → Nat) (d : Nat) (ws : List (Nat × Bytes)) (x : Nat × Bytes) : updF (delF f d ws) d x.1 0 = delF f d (ws ++ [x]) := by
 funext a b
 simp only [updF, delF, List.map_append, List.mem_append, List.map_cons, List.map_nil, List.mem_singleton]
 by_cases h1 : a = d
 ·subst h1
  by_cases h2 : b = x.1
  ·simp [h2]
  ·simp only [h2, and_false, or_false, if_false]
 ·simp [h1]
theorem waitsOf_zero (ws : List (Nat × Bytes)) (n : Nat) : waitsOf ws n ≠ 0 → n ∈ ws.map (·.1) := by
 intro h
 have h' : 0 < (ws.filter fun w => w.1 == n).length := Nat.pos_of_ne_zero h
 obtain ⟨x, hx⟩ := List.exists_mem_of_length_pos h'
 rw [List.mem_filter] at hx
 exact List.mem_map.2 ⟨x, hx.1, by simpa using hx.2⟩
theorem delF_all (s : ShM) {d : Nat} (hd : d < s.disks.length) (k : DiskM) (hk : k.waits = []) : delF (seenF s) d (s.disk d).waits = seenF (s.setDisk d k) := by
 funext x y
 simp only [delF, seenF, ShM.set_len]
 by_cases hx : x = d
 ·subst hx
  rw [if_pos hd, if_pos hd, s.disk_set hd, hk]
  by_cases hy : y ∈ (s.disk x).waits.map (·.1)
  ·simp only [hy, and_self, if_true]
   rfl
  ·simp only [hy, and_false, if_false]
   have : ¬ waitsOf (s.disk x).waits y ≠ 0 := fun h => hy (waitsOf_zero _ _ h)
   rw [Classical.not_not.1 this]
   rfl
 ·rw [s.disk_set_ne hx]
  simp [hx]
end
section
open Go.RowKit
theorem mul64_one (n : Nat) (w : World) (hn : n ≤ 4096) : Calls Try.prog 99 #[.int .u64 1, .int .u64 n] w fun e w' => e = .returned (.tuple #[.int .u64 0, .int .u64 n]) ∧ w = w' := by
 have hA : bits .and .u64 1 4294967295 = 1 := by decide
 have hB : bits .and .u64 (n : Int) 4294967295 = (n : Int) := by
  have := u64_and_nat n 4294967295 (by omega) (by omega)
  rw [show ((4294967295 : Nat) : Int) = 4294967295 from rfl] at this
  rw [this]
  have e := Nat.and_two_pow_sub_one_eq_mod n 32
  rw [show (2 ^ 32 - 1 : Nat) = 4294967295 from rfl, show (2 ^ 32 : Nat) = 4294967296 from rfl] at e
  rw [e, Nat.mod_eq_of_lt (by omega)]
 have hC : (n : Int) / 4294967296 = 0 := by omega
 have hD : IntKind.u64.wrap (n : Int) = (n : Int) := by
  have : IntKind.u64.wrap (n : Int) = (n : Int) % 18446744073709551616 := by simp [IntKind.wrap, IntKind.bits, IntKind.signed]
  rw [this]; omega
 have hE : bits .and .u64 0 4294967295 = 0 := by decide
 have hF : IntKind.u64.wrap 0 = 0 := by decide
 go_enter Try.func99, Try.ntmps99
 go_wp2
 go_ret2
 exact ⟨by simp [hA, hB, hC, hD, hE, hF], rfl⟩
theorem bmul_one (n : Nat) (w : World) (hn : n ≤ 4096) : Calls Try.prog 84 #[.int .u64 1, .int .u64 n] w fun e w' => e = .returned (.tuple #[.int .u64 0, .int .u64 n]) ∧ w = w' := by
 go_enter Try.func84, Try.ntmps84
 go_wp2_with fail
 refine (mul64_one n w hn).mono ?_
 rintro e w' ⟨rfl, rfl⟩
 go_wp2
 go_ret2
 exact ⟨by simp, rfl⟩
theorem Try.infoStr : (Try.prog.info? 9).map (fun i => (i.zero, i.size, i.bytes)) = some (some (.string ⟨#[]⟩), 1, 16) := by kernel_rfl
def repRow (n k : Nat) (v z : Value) : List Value := List.replicate k v ++ List.replicate (n - k) z
theorem repRow_put (n k m : Nat) (v z : Value) (h : k + m ≤ n) : (repRow n k v z).take k ++ List.replicate m v ++ (repRow n k v z).drop (k + m) = repRow n (k + m) v z := by
 simp only [repRow]
 rw [List.take_append_of_le_length (by simp), List.take_of_length_le (by simp), List.drop_append, List.drop_eq_nil_of_le (by simp), List.nil_append, List.length_replicate, List.drop_replicate]
 rw [List.replicate_append_replicate]
 congr 2
 omega
theorem copy_rep {P : Program} (w : World) (dT sT ty e : TypeId) (hu : P.underlying dT = some (.slice e)) (hs : (P.info? e).map (·.size) = some 1) (g : Nat) (n k : Nat) (b : Bytes) (z : Value) (hg : w.heap[g]? = some (.cells (repRow n k (strV b) z).toArray e (0, 0)))
  (o dLen dCap sCap m : Nat) (hm : m = Nat.min k dLen) (ho : o = k) (hkm : k + m ≤ n) :
  (Builtin.copy_ #[dT, sT] ty #[.slice (some ⟨g, o, none⟩) dLen dCap, .slice (some ⟨g, 0, none⟩) k sCap]).run P w = .ok (.int .i64 m) (w.setRow g (repRow n (k + m) (strV b) z).toArray) := by
 subst ho
 have hkn : o ≤ n := by omega
 have hmk : m ≤ o := by rw [hm]; exact Nat.min_le_left _ _
 have h := run_copy_row (P := P) w dT sT ty e g o dLen dCap ⟨g, 0, none⟩ o sCap (repRow n o (strV b) z).toArray e (List.replicate m (strV b)) hu hs hg (by simpa using hm)
  (by
   intro j u hj
   have hjm : j < m := by
    have := (List.getElem?_eq_some_iff.1 hj).1
    simpa using this
   rw [List.getElem?_replicate, if_pos hjm] at hj
   injection hj with hj
   subst hj
   have e1 : (⟨g, 0, none⟩ : Addr).add j = ⟨g, j, none⟩ := by unfold Addr.add; split <;> simp_all
   rw [e1, cell_of_row w g j _ e (0, 0) hg]
   simp only [List.getElem?_toArray, repRow]
   rw [List.getElem?_append_left (by simp; omega), List.getElem?_replicate, if_pos (by omega)])
  (by simp [repRow]; omega)
  (by intro u hu; rw [List.eq_of_mem_replicate hu]; rfl)
 simp only [List.length_replicate] at h
 rw [h, repRow_put n o m _ _ hkm]
 rfl
set_option maxRecDepth 3000 in
theorem sl_repeat (n : Nat) (w : World) (b : Bytes) (ad : Addr) (c : Nat) (hr : RdV w (some ad) [strV b]) (h1 : 1 ≤ n) (hn : n ≤ 4096) :
  Calls Try.prog 46 #[.slice (some ad) 1 c, .int .i64 n] w fun e w' =>
   e = .returned (.slice (some ⟨w.heap.size, 0, none⟩) n n) ∧ w'.ownsRow w.heap.size 9 1 (.slice (some ⟨w.heap.size, 0, none⟩) n n) n (List.replicate n (strV b)) ∧ Below w.heap.size w w' ∧ w'.heap.size = w.heap.size + 1 := by
 obtain ⟨i0, hi0, hz0, hz1, hz2⟩ := info_parts Try.infoStr
 have hmk : ∀ W : World, (Instr.makeSlice 33 (.int .i64 n) (.int .i64 n)).run Try.prog W = .ok (.slice (some ⟨W.heap.size, 0, none⟩) n n) (W.alloc (.cells (repRow n 0 (strV b) (.string ⟨#[]⟩)).toArray 9)) := by
  intro W
  have h := run_make (P := Try.prog) (w := W) 33 9 i0 (.string ⟨#[]⟩) Try.underlying33 hi0 hz0 .i64 .i64 (n : Int) (n : Int) (by omega) (Int.le_refl _) (by rw [hz2]; omega) (by omega)
  simp only [Int.toNat_natCast, hz1, Nat.mul_one] at h
  rw [h]
  have e1 : madeCells (Value.string ⟨#[]⟩).cells n = (repRow n 0 (strV b) (.string ⟨#[]⟩)).toArray := by
   apply Array.toList_inj.1
   rw [show (Value.string ⟨#[]⟩).cells = #[Value.string ⟨#[]⟩] from rfl, toList_madeCells_one]
   simp [repRow]
  rw [e1]
 have hsz : (Try.prog.info? 9).map (·.size) = some 1 := by rw [hi0, Option.map_some, hz1]
 have hg0 := heap_alloc_new w (.cells (repRow n 0 (strV b) (.string ⟨#[]⟩)).toArray 9)
 have hcp0 := run_copy_row (P := Try.prog) (w.alloc (.cells (repRow n 0 (strV b) (.string ⟨#[]⟩)).toArray 9)) 33 33 3 9 w.heap.size 0 n n ad 1 c _ 9 [strV b] Try.underlying33 hsz hg0
  (by show 1 = Nat.min 1 n; exact (Nat.min_eq_left h1).symm)
  (by
   intro j u hj
   have hj0 : j < 1 := (List.getElem?_eq_some_iff.1 hj).1
   have h0 : j = 0 := by omega
   subst h0
   injection hj with hj
   subst hj
   have := hr.cell 0 (by simp)
   exact (World.cell?_of_block (heap_alloc_old w _ (World.block_lt_of_cell? w _ this))).trans this)
  (by simp [repRow]; omega) (by intro u hu; simp at hu; subst hu; rfl)
 have hput0 := repRow_put n 0 1 (strV b) (.string ⟨#[]⟩) (by omega)
 simp only [List.length_singleton, Nat.zero_add] at hcp0 hput0
 rw [show List.replicate 1 (strV b) = [strV b] from rfl] at hput0
 rw [hput0] at hcp0
 have hG1 := setRow_heap (w.alloc (.cells (repRow n 0 (strV b) (.string ⟨#[]⟩)).toArray 9)) w.heap.size _ (repRow n 1 (strV b) (.string ⟨#[]⟩)).toArray 9 _ hg0
 have hB1 : Below w.heap.size w ((w.alloc (.cells (repRow n 0 (strV b) (.string ⟨#[]⟩)).toArray 9)).setRow w.heap.size (repRow n 1 (strV b) (.string ⟨#[]⟩)).toArray) :=
  ((Below.refl _ _).alloc (Nat.le_refl _) _).trans ⟨rfl, rfl, rfl, by simp [World.setRow], fun k hk => setRow_other _ _ k _ (by omega)⟩
 have hsz1 : ((w.alloc (.cells (repRow n 0 (strV b) (.string ⟨#[]⟩)).toArray 9)).setRow w.heap.size (repRow n 1 (strV b) (.string ⟨#[]⟩)).toArray).heap.size = w.heap.size + 1 := by simp [World.setRow]
 go_enter Try.func46, Try.ntmps46
 go_wp2_with fail
 refine (bmul_one n w hn).mono ?_
 rintro e w' ⟨rfl, rfl⟩
 have hn2 : ¬ (9223372036854775807 : Int) < (n : Int) := by omega
 go_wp2_with fail
 generalize (w.alloc (.cells (repRow n 0 (strV b) (.string ⟨#[]⟩)).toArray 9)).setRow w.heap.size (repRow n 1 (strV b) (.string ⟨#[]⟩)).toArray = w1 at *
 generalize hgg : w.heap.size = g at *
 clear hcp0 hput0 hg0 hmk hr
 go_loopw [8] (fun p wr => ∃ k : Nat, 1 ≤ k ∧ k ≤ n ∧ p = .int .i64 k ∧ wr.heap[g]? = some (.cells (repRow n k (strV b) (.string ⟨#[]⟩)).toArray 9) ∧ Below g w wr ∧ wr.heap.size = g + 1)
  (fun p _ => (n - intOf p).toNat)
 case atStart => exact ⟨1, by omega, h1, by go_num, hG1, hB1, hsz1⟩
 case round =>
  obtain ⟨k, hk1, hkn, rfl, hG, hB, hs⟩ := hrel
  by_cases hlt : k < n
  ·obtain ⟨m, hm⟩ : ∃ m, m = Nat.min k (n - k) := ⟨_, rfl⟩
   have hmb : m ≤ n - k := by rw [hm]; exact Nat.min_le_right _ _
   have hm1 : 1 ≤ m := by rw [hm]; exact Nat.le_min.2 ⟨hk1, by omega⟩
   have hcp := copy_rep (P := Try.prog) wr.drew 33 33 3 9 Try.underlying33 hsz g n k b (.string ⟨#[]⟩) hG k (n - k) (n - k) n m hm rfl (by omega)
   have hG2 := setRow_heap wr.drew g _ (repRow n (k + m) (strV b) (.string ⟨#[]⟩)).toArray 9 _ hG
   have hB2 : Below g w (wr.drew.setRow g (repRow n (k + m) (strV b) (.string ⟨#[]⟩)).toArray) := hB.drew.trans ⟨rfl, rfl, rfl, by simp [World.setRow], fun j hj => setRow_other _ _ j _ (by omega)⟩
   have hs2 : (wr.drew.setRow g (repRow n (k + m) (strV b) (.string ⟨#[]⟩)).toArray).heap.size = g + 1 := by simpa [World.setRow] using hs
   have hkk : (k : Int) < (n : Int) := by omega
   clear hm
   go_wp2_with fail
   go_region_held3 (fun w' => True) (trivial) (fail)
   clear hcp
   have hwr : IntKind.i64.wrap ((k : Int) + (m : Int)) = ((k + m : Nat) : Int) := by
    simp only [IntKind.wrap, IntKind.bits, IntKind.signed, if_true]
    simp
    omega
   replace hwr := Lib.hid hwr
   go_wp2
   go_roundw
   case rel => exact ⟨k + m, by omega, by omega, by rw [hwr.out], hG2, hB2, hs2⟩
   case measure =>
    rw [hwr.out]
    simp [intOf]
    omega
  ·have hkn2 : k = n := by omega
   subst hkn2
   go_wp2
   go_ret
   subst hgg
   refine ⟨by simp, ⟨by simp, .inr ⟨_, k, _, rfl, Nat.le_refl _, hG, Nat.le_refl _, by simp only [maxLen]; omega, by simp [repRow], by simp [repRow]⟩⟩, hB, hs⟩
theorem Try.infoDisk : (Try.prog.info? 104).map (fun i => (i.zero, i.size, i.bytes)) = some (some (.agg #[.slice none 0 0, .slice none 0 0, .bool false]), 3, 56) := by kernel_rfl
def newRow (n d : Nat) (l : List Nat) : List Value := l.flatMap (fun g => [.slice (some ⟨g, 0, none⟩) n n, .slice none 0 0, .bool false]) ++ (List.replicate (d - l.length) ()).flatMap (fun _ => [.slice none 0 0, .slice none 0 0, .bool false])
theorem newRow_len (n d : Nat) (l : List Nat) (h : l.length ≤ d) : (newRow n d l).length = d * 3 := by
 rw [newRow, List.length_append, flat_len (n := 3) (fun _ => rfl), flat_len (n := 3) (fun _ => rfl), List.length_replicate]
 omega
theorem newRow_set (n d : Nat) (l : List Nat) (g : Nat) (h : l.length < d) : (newRow n d l).set (l.length * 3) (.slice (some ⟨g, 0, none⟩) n n) = newRow n d (l ++ [g]) := by
 rw [newRow, List.set_append_right _ _ (by rw [flat_len (n := 3) (fun _ => rfl)]; omega), flat_len (n := 3) (fun _ => rfl), Nat.sub_self]
 obtain ⟨m, hm⟩ : ∃ m, d - l.length = m + 1 := ⟨d - l.length - 1, by omega⟩
 rw [hm, List.replicate_succ, List.flatMap_cons, newRow, List.flatMap_append]
 have e : d - (l ++ [g]).length = m := by simp; omega
 rw [e]
 simp
theorem newRow_all (n d : Nat) (l : List Nat) (h : l.length = d) : newRow n d l = disksV (List.replicate d (freshDisk n)) (l.map fun g => ⟨g, n, .slice none 0 0⟩) := by
 have h0 : d - l.length = 0 := by omega
 simp only [newRow, h0, List.replicate_zero, List.flatMap_nil, List.append_nil]
 subst h
 simp only [disksV]
 induction l with
 | nil => rfl
 | cons g l ih =>
  rw [List.flatMap_cons, List.length_cons, List.replicate_succ, List.map_cons, List.zip_cons_cons, List.flatMap_cons, ih (by simp)]
  simp [diskV, freshDisk]
end
section
open Go.RowKit
structure Rows (w : World) (n : Nat) (b : Nat) (l : List Nat) : Prop where
 own : ∀ (j : Nat) (h : j < l.length), w.ownsRow 0 9 1 (.slice (some ⟨l[j], 0, none⟩) n n) n (List.replicate n (strV zeroSec))
 low : ∀ (j : Nat) (h : j < l.length), b ≤ l[j]
 inc : ∀ (i j : Nat) (hi : i < l.length) (hj : j < l.length), i < j → l[i] < l[j]
theorem Rows.nil (w : World) (n b : Nat) : Rows w n b [] := ⟨fun _ h => absurd h (by simp), fun _ h => absurd h (by simp), fun _ _ h => absurd h (by simp)⟩
theorem Rows.lt {w : World} {n b : Nat} {l : List Nat} (h : Rows w n b l) (j : Nat) (hj : j < l.length) : l[j] < w.heap.size := (World.ownsRow.lt (h.own j hj) _ rfl).2
theorem Rows.below {w w' : World} {n b : Nat} {l : List Nat} (h : Rows w n b l) (hk : ∀ k, b ≤ k → k < w.heap.size → w'.heap[k]? = w.heap[k]?) : Rows w' n b l :=
 ⟨fun j hj => ownsRow_same (h.own j hj) fun k e => by
  injection e with e
  subst e
  exact hk _ (h.low j hj) (h.lt j hj), h.low, h.inc⟩
theorem Rows.snoc {w : World} {n b : Nat} {l : List Nat} (h : Rows w n b l) (g : Nat) (hg : w.ownsRow 0 9 1 (.slice (some ⟨g, 0, none⟩) n n) n (List.replicate n (strV zeroSec))) (hb : b ≤ g) (hl : ∀ (j : Nat) (hj : j < l.length), l[j] < g) : Rows w n b (l ++ [g]) := by
 refine ⟨fun j hj => ?_, fun j hj => ?_, fun i j hi hj hij => ?_⟩
 ·rw [List.getElem_append]
  split
  ·exact h.own j (by assumption)
  ·simpa using hg
 ·rw [List.getElem_append]
  split
  ·exact h.low j (by assumption)
  ·simpa using hb
 ·simp only [List.length_append, List.length_singleton] at hi hj
  rw [List.getElem_append, List.getElem_append]
  split
  ·split
   ·exact h.inc i j (by assumption) (by assumption) hij
   ·simp only [List.getElem_singleton]
    exact hl i (by assumption)
  ·omega
theorem freshSh_ok (d n : Nat) (h1 : 1 ≤ d) (h17 : d ≤ 17) (n1 : 1 ≤ n) (n4 : n ≤ 4096) : (freshSh d n).Ok := by
 refine ⟨by simpa [freshSh] using h1, by simpa [freshSh] using h17, n1, n4, ?_, ?_, ?_⟩
 ·intro k hk
  rw [List.eq_of_mem_replicate hk]
  simp [freshDisk, freshSh]
 ·intro k hk b hb
  rw [List.eq_of_mem_replicate hk] at hb
  rw [List.eq_of_mem_replicate hb]
  simp [zeroSec]
 ·intro k hk x hx
  rw [List.eq_of_mem_replicate hk] at hx
  simp [freshDisk] at hx
theorem seenF_fresh (d n : Nat) : seenF (freshSh d n) = fun _ _ => 0 := by
 funext x y
 simp only [seenF, freshSh, List.length_replicate, ShM.disk]
 split
 ·rename_i h
  simp [List.getD_eq_getElem?_getD, h, freshDisk, waitsOf]
 ·rfl
theorem fresh_at {w : World} {g gd gm d n : Nat} {l : List Nat} (h1 : 1 ≤ d) (h17 : d ≤ 17) (n1 : 1 ≤ n) (n4 : n ≤ 4096) (hl : l.length = d) (hR : Rows w n (g + 1) l)
  (hg : w.heap[g]? = some (.cells #[.int .i64 0, .bool false, .slice (some ⟨gd, 0, none⟩) d d, .int .i64 (n : Int), .int .i64 0, .map (some gm)] 78))
  (hgd : w.heap[gd]? = some (.cells (newRow n d l).toArray 104)) (hm : MapP w gm (fun _ _ => 0)) (h2 : gd < gm) (h3 : gm < g) :
  ShAt w ⟨g, gd, d, gm, l.map fun x => ⟨x, n, .slice none 0 0⟩⟩ (freshSh d n) := by
 have hok := freshSh_ok d n h1 h17 n1 n4
 have hdk : ∀ j (h : j < (freshSh d n).disks.length), (freshSh d n).disks[j] = freshDisk n := fun j h => by simp [freshSh]
 have hfs : ∀ j (h : j < (l.map fun x => (⟨x, n, .slice none 0 0⟩ : DiskF)).length), (l.map fun x => (⟨x, n, .slice none 0 0⟩ : DiskF))[j] = ⟨l[j]'(by simpa using h), n, .slice none 0 0⟩ := fun j h => by simp
 unfold ShAt
 rw [seenF_fresh]
 refine ⟨hok, ?_, by simp [freshSh, hl], ?_, ?_, ?_, hm, ?_⟩
 ·rw [hg]
  simp [shelfR, freshSh]
 ·rw [newRow_all n d l hl] at hgd
  have hlen := newRow_len n d l (by omega)
  rw [newRow_all n d l hl] at hlen
  have e : (freshSh d n).disks.length = d := by simp [freshSh]
  rw [e]
  exact ⟨hlen, .inr ⟨gd, d, _, rfl, Nat.zero_le _, hgd, Nat.le_refl _, by simp only [maxLen]; omega, by simpa using hlen, by
   show List.take (d * 3) (disksV (List.replicate d (freshDisk n)) (l.map fun g => ⟨g, n, .slice none 0 0⟩)) = _
   rw [List.take_of_length_le (by rw [hlen]; exact Nat.le_refl _)]
   rfl⟩⟩
 ·intro j hj
  simp only [hdk]
  have hjl : j < l.length := by simpa [freshSh, hl] using hj
  have := hR.own j hjl
  simp only [hfs]
  simpa [freshDisk, sureV] using this
 ·intro j hj
  simp only [hdk]
  simp only [hfs]
  exact World.ownsRow_nil _ _ _ _
 ·refine ⟨by show g ≠ gd; omega, by show g ≠ gm; omega, by show gd ≠ gm; omega, ?_, ?_, ?_⟩
  ·intro j hj b hb
   simp only [hfs] at hb
   have hjl : j < l.length := by simpa using hj
   have := hR.low j hjl
   simp only [DiskF.blocks, Value.ownBlock, Option.toList_none, List.mem_singleton] at hb
   subst hb
   exact ⟨by show l[j] ≠ g; omega, by show l[j] ≠ gd; omega, by show l[j] ≠ gm; omega⟩
  ·intro j hj
   simp only [hfs]
   simp [Value.ownBlock]
  ·intro i j hi hj hij b hb hb2
   simp only [hfs] at hb hb2
   have hil : i < l.length := by simpa using hi
   have hjl : j < l.length := by simpa using hj
   simp only [DiskF.blocks, Value.ownBlock, Option.toList_none, List.mem_singleton] at hb hb2
   rcases Nat.lt_or_ge i j with h | h
   ·have := hR.inc i j hil hjl h
    omega
   ·have := hR.inc j i hjl hil (by omega)
    omega
theorem newRow_at (n d : Nat) (l : List Nat) (h : l.length < d) : (newRow n d l)[l.length * 3]? = some (.slice none 0 0) := by
 obtain ⟨m, hm⟩ : ∃ m, d - l.length = m + 1 := ⟨d - l.length - 1, by omega⟩
 rw [newRow, List.getElem?_append_right (by rw [flat_len (n := 3) (fun _ => rfl)]; omega), flat_len (n := 3) (fun _ => rfl), Nat.sub_self, hm]
 rfl
theorem four_blocks (w : World) (a b c e : Obj) : ((((w.alloc a).alloc b).alloc c).alloc e).heap[w.heap.size]? = some a ∧ ((((w.alloc a).alloc b).alloc c).alloc e).heap[w.heap.size + 1]? = some b ∧
  ((((w.alloc a).alloc b).alloc c).alloc e).heap[w.heap.size + 2]? = some c ∧ ((((w.alloc a).alloc b).alloc c).alloc e).heap.size = w.heap.size + 4 ∧ Below w.heap.size w ((((w.alloc a).alloc b).alloc c).alloc e) := by
 have s1 : (w.alloc a).heap.size = w.heap.size + 1 := by simp
 have s2 : ((w.alloc a).alloc b).heap.size = w.heap.size + 2 := by simp
 have s3 : (((w.alloc a).alloc b).alloc c).heap.size = w.heap.size + 3 := by simp
 have n1 := heap_alloc_new w a
 have n2 := heap_alloc_new (w.alloc a) b
 have n3 := heap_alloc_new ((w.alloc a).alloc b) c
 rw [s1] at n2
 rw [s2] at n3
 refine ⟨?_, ?_, ?_, by simp, ?_⟩
 ·exact (heap_alloc_old _ _ (by omega)).trans ((heap_alloc_old _ _ (by omega)).trans ((heap_alloc_old _ _ (by omega)).trans n1))
 ·exact (heap_alloc_old _ _ (by omega)).trans ((heap_alloc_old _ _ (by omega)).trans n2)
 ·exact (heap_alloc_old _ _ (by omega)).trans n3
 ·exact ((((Below.refl _ _).alloc (Nat.le_refl _) _).alloc (by omega) _).alloc (by omega) _).alloc (by omega) _
theorem Try.infoByte : (Try.prog.info? 5).map (fun i => (i.zero, i.size, i.bytes)) = some (some (.int .u8 0), 1, 1) := by kernel_rfl
set_option maxRecDepth 3000 in
theorem sh_new (w : World) (d n : Nat) (h1 : 1 ≤ d) (h17 : d ≤ 17) (n1 : 1 ≤ n) (n4 : n ≤ 4096) :
    Calls Try.prog 16 #[.int .i64 d, .int .i64 n] w fun e w' =>
      ∃ F, e = .returned (.tuple #[.pointer (some ⟨F.g, 0, none⟩), .int .i64 0]) ∧ ShAt w' F (freshSh d n) ∧ Below w.heap.size w w' ∧ ∀ b ∈ F.blocks, w.heap.size ≤ b := by
  obtain ⟨i0, hi0, hz0, hz1, hz2⟩ := info_parts Try.infoDisk
  have hmk : ∀ W : World, (Instr.makeSlice 75 (.int .i64 d) (.int .i64 d)).run Try.prog W = .ok (.slice (some ⟨W.heap.size, 0, none⟩) d d) (W.alloc (.cells (newRow n d []).toArray 104)) := by
    intro W
    have h := run_make (P := Try.prog) (w := W) 75 104 i0 (.agg #[.slice none 0 0, .slice none 0 0, .bool false]) Try.underlying75 hi0 hz0 .i64 .i64 (d : Int) (d : Int) (by omega) (Int.le_refl _) (by rw [hz2]; omega) (by omega)
    simp only [Int.toNat_natCast, hz1] at h
    rw [h]
    have e1 : madeCells (Value.agg #[.slice none 0 0, .slice none 0 0, .bool false]).cells (d * 3) = (newRow n d []).toArray := by
      apply Array.toList_inj.1
      have hall : ∀ m : Nat, (madeCells (Value.agg #[.slice none 0 0, .slice none 0 0, .bool false]).cells (m * 3)).toList = newRow n m [] := by
        intro m
        have e0 : (Value.agg #[.slice none 0 0, .slice none 0 0, .bool false]).cells = #[Value.slice none 0 0, .slice none 0 0, .bool false] := rfl
        rw [e0]
        induction m with
        | zero => simp [madeCells, newRow]
        | succ m ih =>
          have e1 : newRow n (m + 1) [] = newRow n m [] ++ [.slice none 0 0, .slice none 0 0, .bool false] := by
            simp only [newRow, List.flatMap_nil, List.nil_append, List.length_nil, Nat.sub_zero, List.replicate_succ', List.flatMap_append, List.flatMap_cons, List.append_nil]
          rw [e1, ← ih]
          simp only [madeCells, Array.toList_map, Array.toList_range]
          rw [show (m + 1) * 3 = m * 3 + 1 + 1 + 1 from by omega, List.range_succ, List.range_succ, List.range_succ]
          simp only [List.map_append, List.map_cons, List.map_nil, List.append_assoc, List.cons_append, List.nil_append]
          have h0 : m * 3 % 3 = 0 := by omega
          have h1 : (m * 3 + 1) % 3 = 1 := by omega
          have h2 : (m * 3 + 1 + 1) % 3 = 2 := by omega
          simp [h0, h1, h2]
      exact hall d
    rw [e1]
  have hmm := @run_makeMap Try.prog
  have hmb := run_make_rd (P := Try.prog) 32 5 Try.underlying32 Try.infoByte .i64 .i64 128 (by omega)
  rw [show ((128 : Nat) : Int) = 128 from rfl] at hmb
  obtain ⟨zs, hzs⟩ : ∃ zs : List UInt8, zs = zeroSec := ⟨_, rfl⟩
  have hzl : zs.length = 128 := by rw [hzs]; simp [zeroSec]
  rw [show List.replicate 128 (0 : UInt8) = zs from hzs.symm] at hmb
  have hms : ∀ W : World, (convert 32 9 (.slice (some ⟨W.heap.size, 0, none⟩) 128 128)).run Try.prog (W.alloc (.cells (bVs zs).toArray 5)) = .ok (.string ⟨zs.toArray⟩) (W.alloc (.cells (bVs zs).toArray 5)) := fun W =>
    run_string_rd (P := Try.prog) _ 32 9 5 Try.underlying32 Try.underlying5 Try.underlying9 _ 128 128 zs (Rd.lit W 5 zs (by rw [hzl]; omega)) hzl
  have hmsw := hms (((w.alloc (.cells (newRow n d []).toArray 104)).alloc (.map #[] 0)).alloc (.cells #[.int .i64 0, .bool false, .slice (some ⟨w.heap.size, 0, none⟩) d d, .int .i64 (n : Int), .int .i64 0, .map (some (w.heap.size + 1))] 78))
  simp only [World.size_alloc] at hmsw
  replace hzs := Lib.hid hzs
  replace hzl := Lib.hid hzl
  obtain ⟨dr, hdr⟩ : ∃ dr : List Value, dr = newRow n d [] := ⟨_, rfl⟩
  rw [← hdr] at hmk hmsw
  replace hdr := Lib.hid hdr
  go_enter Try.func16, Try.ntmps16
  go_wp2_with fail
  obtain ⟨hD0, hM0', hG0, hs0, hB0⟩ := four_blocks w (.cells dr.toArray 104) (.map #[] 0) (.cells #[.int .i64 0, .bool false, .slice (some ⟨w.heap.size, 0, none⟩) d d, .int .i64 (n : Int), .int .i64 0, .map (some (w.heap.size + 1))] 78) (.cells (bVs zs).toArray 5)
  rw [hdr.out] at hD0
  have hM0 : MapP ((((w.alloc (.cells dr.toArray 104)).alloc (.map #[] 0)).alloc (.cells #[.int .i64 0, .bool false, .slice (some ⟨w.heap.size, 0, none⟩) d d, .int .i64 (n : Int), .int .i64 0, .map (some (w.heap.size + 1))] 78)).alloc (.cells (bVs zs).toArray 5)) (w.heap.size + 1) (fun _ _ => 0) :=
    ⟨#[], 0, hM0', MapKept.stamped_empty 0, ⟨by simp, fun x y h => absurd rfl h⟩⟩
  rw [hdr.out] at hM0 hG0 hs0 hB0
  clear hM0'
  rw [hdr.out]
  generalize (((w.alloc (.cells (newRow n d []).toArray 104)).alloc (.map #[] 0)).alloc (.cells #[.int .i64 0, .bool false, .slice (some ⟨w.heap.size, 0, none⟩) d d, .int .i64 (n : Int), .int .i64 0, .map (some (w.heap.size + 1))] 78)).alloc (.cells (bVs zs).toArray 5) = W0 at *
  clear hmk hmm hmb hms hmsw
  rw [show w.heap.size + 1 + 1 = w.heap.size + 2 from rfl]
  generalize hBB : w.heap.size = B at *
  replace hBB := Lib.hid hBB
  go_loopw [36] (fun p wr => ∃ l : List Nat, l.length ≤ d ∧ p = .int .i64 (l.length : Int) ∧ Rows wr n (B + 3) l ∧ wr.heap[B]? = some (.cells (newRow n d l).toArray 104) ∧ wr.heap[B + 2]? = some (.cells #[.int .i64 0, .bool false, .slice (some ⟨B, 0, none⟩) d d, .int .i64 (n : Int), .int .i64 0, .map (some (B + 1))] 78) ∧ MapP wr (B + 1) (fun _ _ => 0) ∧ Below B w wr ∧ B + 4 ≤ wr.heap.size)
    (fun p _ => (d - intOf p).toNat)
  case atStart => exact ⟨[], by simp, by go_num, Rows.nil _ _ _, hD0, hG0, hM0, hB0, by omega⟩
  case round =>
    obtain ⟨l, hld, rfl, hR, hD, hG, hM, hB, hs⟩ := hrel
    by_cases hlt : l.length < d
    · have hc2 : wr.cell? ⟨B + 2, 2, none⟩ = some (.slice (some ⟨B, 0, none⟩) d d) := (cell_of_row wr (B + 2) 2 _ _ _ hG).trans rfl
      have hcd := cell_of_row wr B (l.length * 3) _ _ _ hD
      have hfd := frozen_of_row wr B (l.length * 3) _ _ hD
      have hldi : (l.length : Int) < (d : Int) := by omega
      have hkeep : ∀ W', Turns [B] wr W' → W'.cell? ⟨B + 2, 2, none⟩ = some (.slice (some ⟨B, 0, none⟩) d d) := fun W' hT => (World.cell?_of_block (hT.block (B + 2) (by omega) (by simp))).trans hc2
      have hnew := World.new_ne wr _ hc2
      rw [List.getElem?_toArray, newRow_at n d l hlt] at hcd
      have hBlt : B < wr.heap.size := by omega
      have hrd : RdV ((wr.alloc (.cells #[.string ⟨zs.toArray⟩] 9)).drew) (some ⟨wr.heap.size, 0, none⟩) [strV zs] := (RdV.lit wr 9 [strV zs] (by simp)).drew
      have hrep : Calls Try.prog 46 #[.slice (some ⟨wr.heap.size, 0, none⟩) 1 1, .int .i64 n] ((wr.alloc (.cells #[.string ⟨zs.toArray⟩] 9)).drew) fun e w' =>
          e = .returned (.slice (some ⟨wr.heap.size + 1, 0, none⟩) n n) ∧ w'.ownsRow 0 9 1 (.slice (some ⟨wr.heap.size + 1, 0, none⟩) n n) n (List.replicate n (strV zs)) ∧ Below wr.heap.size wr w' ∧ w'.heap.size = wr.heap.size + 2 := by
        have hsz : ((wr.alloc (.cells #[.string ⟨zs.toArray⟩] 9)).drew).heap.size = wr.heap.size + 1 := by simp
        have h := sl_repeat n ((wr.alloc (.cells #[.string ⟨zs.toArray⟩] 9)).drew) zs ⟨wr.heap.size, 0, none⟩ 1 hrd n1 n4
        rw [hsz] at h
        refine h.mono ?_
        rintro e w' ⟨r1, r2, r3, r4⟩
        refine ⟨r1, r2.mono (Nat.zero_le _), ?_, r4⟩
        have q : Below wr.heap.size wr ((wr.alloc (.cells #[.string ⟨zs.toArray⟩] 9)).drew) := ((Below.refl _ _).alloc (Nat.le_refl _) _).drew
        exact q.trans (r3.mono (Nat.le_succ _))
      replace hrep := Lib.hid hrep
      generalize hk : l.length = k at *
      replace hk := Lib.hid hk
      go_wp2_with fail
      go_region_held3 (fun w' => w'.cell? ⟨B + 2, 2, none⟩ = some (.slice (some ⟨B, 0, none⟩) d d))
        ((refine hkeep _ ?_; repeat (first | exact Turns.refl _ _ | assumption | refine Turns.drew ?_ | refine Turns.alloc ?_ _ | refine Turns.setCell ?_ (by simp) _)))
        ((go_at_call 46
          refine hrep.out.mono ?_
          rintro e w2 ⟨rfl, ho2, hb2, hs2⟩
          have hT2 : Turns [B] wr w2 := Turns.of_below hb2
          have hc9 := (World.cell?_of_block (hb2.block B hBlt) (a := ⟨B, k * 3, none⟩)).trans hcd
          have hf9 := (World.frozen?_of_block (hb2.block B hBlt) (a := ⟨B, k * 3, none⟩)).trans hfd))
      have hkB : ∀ j, j ≠ B → j < wr.heap.size → (w2.setCell ⟨B, k * 3, none⟩ (.slice (some ⟨wr.heap.size + 1, 0, none⟩) n n)).heap[j]? = wr.heap[j]? := fun j h1 h2 => (heap_setCell_other _ _ _ _ h1).trans (hb2.block j h2)
      have hR3 : Rows (w2.setCell ⟨B, k * 3, none⟩ (.slice (some ⟨wr.heap.size + 1, 0, none⟩) n n)) n (B + 3) (l ++ [wr.heap.size + 1]) := by
        refine (hR.below (fun j h1 h2 => hkB j (by omega) h2)).snoc _ ?_ (by omega) (fun j hj => Nat.lt_succ_of_lt (hR.lt j hj))
        rw [← hzs.out]
        refine ownsRow_same ho2 fun j e => heap_setCell_other _ _ _ _ ?_
        have e4 : wr.heap.size + 1 = j := by simpa [Value.ownBlock] using e
        intro e2
        have e3 : j = B := e2
        omega
      have hD3 : (w2.setCell ⟨B, k * 3, none⟩ (.slice (some ⟨wr.heap.size + 1, 0, none⟩) n n)).heap[B]? = some (.cells (newRow n d (l ++ [wr.heap.size + 1])).toArray 104) := by
        have h := heap_setCell_same w2 B (k * 3) _ _ (.slice (some ⟨wr.heap.size + 1, 0, none⟩) n n) ((hb2.block B hBlt).trans hD)
        rw [h, List.setIfInBounds_toArray, ← hk.out, newRow_set n d l _ (by rw [hk.out]; exact hlt)]
      have hG3 := (hkB (B + 2) (by omega) (by omega)).trans hG
      have hM3 := hM.of_block (hkB (B + 1) (by omega) (by omega))
      have hB3 : Below B w (w2.setCell ⟨B, k * 3, none⟩ (.slice (some ⟨wr.heap.size + 1, 0, none⟩) n n)) := (hB.trans (hb2.mono (by omega))).setCell (Nat.le_refl _) _
      have hs3 : B + 4 ≤ (w2.setCell ⟨B, k * 3, none⟩ (.slice (some ⟨wr.heap.size + 1, 0, none⟩) n n)).heap.size := by simp; omega
      have hlen3 : (l ++ [wr.heap.size + 1]).length = k + 1 := by rw [List.length_append, hk.out]; rfl
      generalize l ++ [wr.heap.size + 1] = l3 at *
      generalize w2.setCell ⟨B, k * 3, none⟩ (.slice (some ⟨wr.heap.size + 1, 0, none⟩) n n) = W3 at *
      clear hcd hfd hrd hrep hc9 hf9 hkB hkeep hc2 ho2
      replace hlen3 := Lib.hid hlen3
      go_wp2
      go_roundw
      case rel => exact ⟨l3, by rw [hlen3.out]; omega, by rw [hlen3.out]; go_num, hR3, hD3, hG3, hM3, hB3, hs3⟩
      case measure => simp [intOf]; omega
    · have hkd : l.length = d := by omega
      have hlt' : ¬ ((l.length : Int) < (d : Int)) := by omega
      have hfin := fresh_at h1 h17 n1 n4 hkd hR hG hD hM (by omega) (by omega)
      have hbl : ∀ b ∈ (⟨B + 2, B, d, B + 1, l.map fun x => ⟨x, n, .slice none 0 0⟩⟩ : ShF).blocks, B ≤ b := by
        intro b hb
        rcases ShF.mem_cases hb with rfl | rfl | rfl | ⟨e, he, hb⟩
        · show B ≤ B + 2; omega
        · exact Nat.le_refl _
        · show B ≤ B + 1; omega
        · have hel : e < l.length := by simpa using he
          simp only [List.getElem_map, DiskF.blocks, Value.ownBlock, Option.toList_none, List.mem_singleton] at hb
          have := hR.low e hel
          omega
      replace hkd := Lib.hid hkd
      go_wp2
      go_ret2
      rw [hBB.out]
      exact ⟨_, by simp, hfin, hB, hbl⟩
end
section
open Go.RowKit
section
variable {w : World} {F : ShF} {s : ShM}
theorem del_facts {X : World} {F : ShF} {s : ShM} {f : Nat → Nat → Nat} (hS : ShAtM X F s f) (d n : Nat) (hd : smallN d) (hn : smallN n) :
  ∃ Y : World, (Builtin.delete_ #[76, 133] 0 #[.map (some F.gm), .agg #[.int .i64 (d : Int), .int .i64 (n : Int)]]).run Try.prog X = .ok (.tuple #[]) Y ∧ ShAtM Y F s (updF f d n 0) ∧ Turns F.blocks X Y ∧ ∀ k, k ≠ F.gm → Y.heap[k]? = X.heap[k]? := by
 obtain ⟨o, hE, hM⟩ := hS.seen.del Try.pairMap d n hd hn 0
 exact ⟨_, hE, hS.map (fun k hk => setBlk_other _ _ _ k hk) hM, (Turns.refl _ _).setBlk F.mem_gm _, fun k hk => setBlk_other _ _ _ k hk⟩
set_option maxHeartbeats 1000000 in
theorem sh_settle1 (hS : ShAt w F s) (d : Nat) (hd : d < s.disks.length) (keeps : Nat → Bool)
  (hcall : ∀ W, Turns F.blocks w W → ∀ i, i < (s.disk d).waits.length → Calls Try.prog 88 #[.int .i64 (i : Int)] W fun e w' => e = .returned (.bool (keeps i)) ∧ W = w') :
  Calls Try.prog 87 #[.pointer (some ⟨F.g, 0, none⟩), .int .i64 d, (.func (.func 88) #[] #[])] w fun e w' =>
   ∃ F', e = .returned (.tuple #[]) ∧ ShAt w' F' (s.setDisk d ((s.disk d).settle keeps)) ∧ ShTo w F w' F' := by
 have hc2 := hS.c2
 have hlt := hS.lt _ F.mem_g
 have hle17 := hS.ok.disks17
 have hwv := hS.e1 hd
 have hrow := hS.ewaits hd
 obtain ⟨A, cw, hv, hcap, hg⟩ := ownsRow_form hrow
 have hdi : (d : Int) < s.disks.length := by omega
 generalize hws : (s.disk d).waits = ws at *
 rw [hv] at hwv
 replace hws := Lib.hid hws
 go_enter Try.func87, Try.ntmps87
 go_wp2_with fail
 obtain ⟨sk, hsk⟩ : ∃ sk : Nat → ShM, ∀ k, sk k = s.setDisk d { sure := settleL keeps 0 (ws.take k) (s.disk d).sure, waits := ws, dead := (s.disk d).dead } := ⟨_, fun _ => rfl⟩
 obtain ⟨fk', hfk⟩ : ∃ fk' : Nat → Nat → Nat → Nat, ∀ k, fk' k = delF (seenF s) d (ws.take k) := ⟨_, fun _ => rfl⟩
 have hlen : ∀ k, d < (sk k).disks.length := fun k => by rw [hsk, ShM.set_len]; exact hd
 have hdisk : ∀ k, (sk k).disk d = { sure := settleL keeps 0 (ws.take k) (s.disk d).sure, waits := ws, dead := (s.disk d).dead } := fun k => by rw [hsk, s.disk_set hd]
 have hsec : ∀ k, (sk k).sectors = s.sectors := fun k => by rw [hsk]; rfl
 have h0 : sk 0 = s := by
  rw [hsk, List.take_zero]
  have : ({ sure := settleL keeps 0 [] (s.disk d).sure, waits := ws, dead := (s.disk d).dead } : DiskM) = s.disk d := by rw [← hws.out]; rfl
  rw [this, s.set_self]
 have hf0 : fk' 0 = seenF s := by rw [hfk, List.take_zero, delF_nil]
 have hyes : ∀ k (hk : k < ws.length), keeps k = true → sk (k + 1) = (sk k).setDisk d { (sk k).disk d with sure := ((sk k).disk d).sure.set ws[k].1 ws[k].2 } := by
  intro k hk hy
  simp only [hdisk]
  rw [hsk, hsk, ShM.set_set, settleL_take _ _ _ hk, if_pos hy]
 have hno : ∀ k (hk : k < ws.length), keeps k = false → sk (k + 1) = sk k := by
  intro k hk hy
  rw [hsk, hsk, settleL_take _ _ _ hk, if_neg (by simp [hy])]
 have hfs : ∀ k (hk : k < ws.length), fk' (k + 1) = updF (fk' k) d ws[k].1 0 := by
  intro k hk
  rw [hfk, hfk, delF_snoc, List.take_succ_eq_append_getElem hk]
 have HL := Lib.hid hsk
 have HF := Lib.hid hfk
 have HD := Lib.hid hdisk
 have HS := Lib.hid hsec
 have HLE := Lib.hid hlen
 have HY := Lib.hid hyes
 have HN := Lib.hid hno
 have HFS := Lib.hid hfs
 have HC := Lib.hid hcall
 have HW := Lib.hid (hS.okd hd)
 clear hsk hfk hdisk hsec hlen hyes hno hfs hcall
 have hwsz : ws.length ≤ 9223372036854775807 := by
  have e := hrow.1
  rcases hrow.2 with ⟨_, h1⟩ | ⟨g, cap, cur, hv', _, _, h2, h3, _⟩
  ·omega
  ·simp only [maxLen] at h3
   omega
 go_loopw [17] (fun p wr => ∃ k : Nat, k ≤ ws.length ∧ p = .int .i64 k ∧ ShAtM wr F (sk k) (fk' k) ∧ Turns F.blocks w wr)
  (fun p _ => (ws.length - intOf p).toNat)
 case atStart => exact ⟨0, by omega, by go_num, by rw [h0, hf0]; exact hS, Turns.refl _ _⟩
 case round =>
  obtain ⟨k, hkn, rfl, hSk, hTk⟩ := hrel
  by_cases hlt2 : k < ws.length
  ·obtain ⟨ad, rfl⟩ : ∃ ad, A = some ad := by
    rcases hrow.2 with ⟨_, h1⟩ | ⟨g, cap, cur, hv', _⟩
    ·omega
    ·rw [hv] at hv'
     injection hv' with e1
     exact ⟨_, e1⟩
   obtain ⟨gw, rfl, _, _⟩ := hg ad rfl
   have hrow2 := hSk.ewaits (HLE.out k)
   rw [HD.out] at hrow2
   rw [hv] at hrow2
   have hx0 := World.ownsRow.cellAt hrow2 (k * 2) (by omega)
   have hx1 := World.ownsRow.cellAt hrow2 (k * 2 + 1) (by omega)
   have hy0 := waitsV_get ws k 0 hlt2 (by omega)
   have hy1 := waitsV_get ws k 1 hlt2 (by omega)
   rw [Nat.add_zero] at hy0
   rw [hy0] at hx0
   rw [hy1] at hx1
   simp only [waitV, List.getElem?_cons_zero, List.getElem?_cons_succ] at hx0 hx1
   have hgwlt : gw < wr.heap.size := World.block_lt_of_cell? wr _ hx0
   have hwk := HW.out.2.2 ws[k] (by rw [hws.out]; exact List.getElem_mem hlt2)
   have hyes1 := HY.out k hlt2
   have hno1 := HN.out k hlt2
   have hfs1 := HFS.out k hlt2
   clear hrow2 hy0 hy1
   simp only [strV] at hx1
   generalize ws[k].1 = n0 at *
   generalize ws[k].2 = b0 at *
   replace hyes1 := Lib.hid hyes1
   replace hno1 := Lib.hid hno1
   replace hfs1 := Lib.hid hfs1
   have hcl : ∀ W, Turns F.blocks w W → Calls Try.prog 88 #[.int .i64 (k : Int)] W fun e w' => e = .returned (.bool (keeps k)) ∧ W = w' := fun W hW => HC.out W hW k hlt2
   replace hcl := Lib.hid hcl
   clear hg hwv hc2
   replace hwk := Lib.hid hwk
   go_wp2_with fail
   have hS1 := hSk.alloc (.cells #[.int .i64 (n0 : Int), .string ⟨b0.toArray⟩] 132)
   have hT1 := hTk.alloc (.cells #[.int .i64 (n0 : Int), .string ⟨b0.toArray⟩] 132)
   have hb0 := cell_of_row _ wr.heap.size 0 _ _ _ (heap_alloc_new wr (.cells #[.int .i64 (n0 : Int), .string ⟨b0.toArray⟩] 132))
   have hb1 := cell_of_row _ wr.heap.size 1 _ _ _ (heap_alloc_new wr (.cells #[.int .i64 (n0 : Int), .string ⟨b0.toArray⟩] 132))
   have hbn : wr.heap.size ∉ F.blocks := fun hm => by
    have := hSk.lt _ hm
    omega
   simp only [List.getElem?_toArray, List.getElem?_cons_zero, List.getElem?_cons_succ] at hb0 hb1
   have hbl : wr.heap.size < (wr.alloc (.cells #[.int .i64 (n0 : Int), .string ⟨b0.toArray⟩] 132)).heap.size := by simp
   refine (hcl.out _ hT1).mono ?_
   rintro e w' ⟨rfl, rfl⟩
   generalize wr.alloc (.cells #[.int .i64 (n0 : Int), .string ⟨b0.toArray⟩] 132) = X at *
   generalize wr.heap.size = bx at *
   clear hx0 hx1 hSk hTk hcl hrow hcap hv hgwlt
   have hg2 := hS1.c2
   have hls : ∀ k, (sk k).disks.length = s.disks.length := fun k => by rw [HL.out, ShM.set_len]
   rw [hls] at hg2
   have hgs := hS1.e0 (HLE.out k)
   have hsl : ((sk k).disk d).sure.length = s.sectors := by rw [HD.out]; dsimp only; rw [settleL_len]; exact HW.out.1
   rw [hsl] at hgs
   have hsu := hS1.esure (n := n0) (HLE.out k) (by rw [hsl]; exact hwk.out.1)
   have hsz := hS1.efrozen (HLE.out k) n0
   have hgn := hS1.gs_ne (HLE.out k)
   have hgm := F.mem_gs (hS1.fd (HLE.out k))
   have hset := hS1.esetSure (n := n0) (HLE.out k) b0 hwk.out.2
   have h4096 := hS1.ok.sectors4096
   rw [HS.out] at h4096
   have hd7 : smallN d := by unfold smallN; omega
   have hn7 : smallN n0 := by have := hwk.out.1; unfold smallN; omega
   have hnlt := hwk.out.1
   replace hls := Lib.hid hls
   replace hsl := Lib.hid hsl
   generalize (F.at_ d).gs = gs at *
   generalize (F.at_ d).cs = cs at *
   cases hk : keeps k with
   | true =>
    have e1 := hyes1.out hk
    rw [← e1] at hset
    replace e1 := Lib.hid e1
    replace hk := Lib.hid hk
    have hkeep : ∀ W', Turns [gs] X W' → W'.cell? ⟨F.g, 2, none⟩ = some (.slice (some ⟨F.gd, 0, none⟩) s.disks.length F.cd) ∧ W'.cell? ⟨F.gd, d * 3, none⟩ = some (.slice (some ⟨gs, 0, none⟩) s.sectors cs) ∧ W'.cell? ⟨bx, 0, none⟩ = some (.int .i64 (n0 : Int)) ∧ W'.cell? ⟨bx, 1, none⟩ = some (.string ⟨b0.toArray⟩) := by
     intro W' hT
     have hb : ∀ c, c ≠ gs → c < X.heap.size → W'.heap[c]? = X.heap[c]? := fun c hc hl => hT.block c hl (by simpa using hc)
     have q1 := hb _ hgn.1.symm (hS1.lt _ F.mem_g)
     have q2 := hb _ hgn.2.1.symm (hS1.lt _ F.mem_gd)
     have q3 := hb bx (fun e => hbn (e ▸ hgm)) hbl
     exact ⟨(World.cell?_of_block q1).trans hg2, (World.cell?_of_block q2).trans hgs, (World.cell?_of_block q3).trans hb0, (World.cell?_of_block q3).trans hb1⟩
    go_wp2_with fail
    go_region_held3 (fun w' => w'.cell? ⟨F.g, 2, none⟩ = some (.slice (some ⟨F.gd, 0, none⟩) s.disks.length F.cd) ∧ w'.cell? ⟨F.gd, d * 3, none⟩ = some (.slice (some ⟨gs, 0, none⟩) s.sectors cs) ∧ w'.cell? ⟨bx, 0, none⟩ = some (.int .i64 (n0 : Int)) ∧ w'.cell? ⟨bx, 1, none⟩ = some (.string ⟨b0.toArray⟩))
     ((refine hkeep _ ?_; repeat (first | exact Turns.refl _ _ | assumption | refine Turns.drew ?_ | refine Turns.setCell ?_ (by simp) _)))
     (fail)
    obtain ⟨Y, hY⟩ : ∃ Y, Y = (X.setCell ⟨gs, n0, none⟩ (.string ⟨b0.toArray⟩)).drew := ⟨_, rfl⟩
    have hS5 : ShAtM Y F (sk (k + 1)) (fk' k) := by rw [hY]; exact hset.drew
    rw [← hY]
    have hT5 : Turns F.blocks w Y := by rw [hY]; exact (hT1.setCell hgm _).drew
    have hb5 : Y.cell? ⟨bx, 0, none⟩ = some (.int .i64 (n0 : Int)) := by rw [hY]; exact (hkeep _ ((Turns.refl _ _).setCell (by simp) _ |>.drew)).2.2.1
    have hbl5 : bx < Y.heap.size := World.block_lt_of_cell? Y _ hb5
    clear hY
    have hm5 := hS5.c5
    obtain ⟨Z, hdel, hSZ, hTZ, hoZ⟩ := del_facts hS5.drew d n0 hd7 hn7
    rw [← hfs1.out] at hSZ
    have hTZ' : Turns F.blocks w Z := hT5.trans (Turns.trans (Turns.drew (Turns.refl _ _)) hTZ)
    have hmZ := hSZ.c5
    have hbm : bx ≠ F.gm := fun e => hbn (e ▸ F.mem_gm)
    have hbZ : Z.cell? ⟨bx, 0, none⟩ = some (.int .i64 (n0 : Int)) := (World.cell?_of_block (hoZ bx hbm)).trans hb5
    have hm5d : Y.drew.cell? ⟨F.g, 5, none⟩ = some (.map (some F.gm)) := hm5
    have hb5d : Y.drew.cell? ⟨bx, 0, none⟩ = some (.int .i64 (n0 : Int)) := hb5
    clear hyes1 hno1 hset hsu hkeep
    go_wp2_with fail
    go_region_held3 (fun w' => w'.cell? ⟨F.g, 5, none⟩ = some (.map (some F.gm)) ∧ w'.cell? ⟨bx, 0, none⟩ = some (.int .i64 (n0 : Int))) ((refine ⟨?_, ?_⟩ <;> assumption)) (fail)
    go_wp2
    go_roundw
    case rel => exact ⟨k + 1, by omega, by go_num, hSZ, hTZ'⟩
    case measure => simp [intOf]; omega
   | false =>
    replace hno1 := hno1.out hk
    have hS5 : ShAtM X F (sk (k + 1)) (fk' k) := by rw [hno1]; exact hS1
    replace hno1 := Lib.hid hno1
    replace hk := Lib.hid hk
    have hkeep : True := trivial
    generalize hXY : X = Y at *
    have hT5 : Turns F.blocks w Y := hT1
    have hb5 : Y.cell? ⟨bx, 0, none⟩ = some (.int .i64 (n0 : Int)) := hb0
    have hbl5 : bx < Y.heap.size := World.block_lt_of_cell? Y _ hb5
    skip
    have hm5 := hS5.c5
    obtain ⟨Z, hdel, hSZ, hTZ, hoZ⟩ := del_facts hS5.drew d n0 hd7 hn7
    rw [← hfs1.out] at hSZ
    have hTZ' : Turns F.blocks w Z := hT5.trans (Turns.trans (Turns.drew (Turns.refl _ _)) hTZ)
    have hmZ := hSZ.c5
    have hbm : bx ≠ F.gm := fun e => hbn (e ▸ F.mem_gm)
    have hbZ : Z.cell? ⟨bx, 0, none⟩ = some (.int .i64 (n0 : Int)) := (World.cell?_of_block (hoZ bx hbm)).trans hb5
    have hm5d : Y.drew.cell? ⟨F.g, 5, none⟩ = some (.map (some F.gm)) := hm5
    have hb5d : Y.drew.cell? ⟨bx, 0, none⟩ = some (.int .i64 (n0 : Int)) := hb5
    clear hyes1 hno1 hset hsu hkeep
    go_wp2_with fail
    go_region_held3 (fun w' => w'.cell? ⟨F.g, 5, none⟩ = some (.map (some F.gm)) ∧ w'.cell? ⟨bx, 0, none⟩ = some (.int .i64 (n0 : Int))) ((refine ⟨?_, ?_⟩ <;> assumption)) (fail)
    go_wp2
    go_roundw
    case rel => exact ⟨k + 1, by omega, by go_num, hSZ, hTZ'⟩
    case measure => simp [intOf]; omega
  ·have hkn2 : k = ws.length := by omega
   subst hkn2
   have hg2 := hSk.c2
   have hgd1 := hSk.e1 (HLE.out _)
   have hgdf := hSk.dfrozen (d * 3 + 1)
   have hls : (sk ws.length).disks.length = s.disks.length := by rw [HL.out, ShM.set_len]
   rw [hls] at hg2
   replace hls := Lib.hid hls
   have hlt3 := hSk.lt _ F.mem_g
   have hlt4 := hSk.lt _ F.mem_gd
   clear hwv hc2 hg hrow
   go_wp2
   go_end0
   have hfin := hSk.eclear (HLE.out ws.length)
   have e1 : (sk ws.length).setDisk d { (sk ws.length).disk d with waits := [] } = s.setDisk d ((s.disk d).settle keeps) := by
    rw [HD.out, HL.out, ShM.set_set, List.take_length]
    simp only [DiskM.settle, hws.out]
   have e2 : fk' ws.length = seenF (s.setDisk d ((s.disk d).settle keeps)) := by
    rw [HF.out, List.take_length, ← hws.out]
    exact delF_all s hd _ rfl
   rw [e1, e2] at hfin
   exact ⟨rfl, _, hfin, ⟨hTk.setCell F.mem_gd _, rfl, fun b hb => .inl (F.clear_news d b hb)⟩⟩
end
end
section
open Go.RowKit
def intV (x : Int) : Value := .int .i64 x
def intsV (l : List Int) : List Value := l.map intV
theorem intsV_len (l : List Int) : (intsV l).length = l.length := by simp [intsV]
theorem flush1 (w : World) (i : Int) : Calls Try.prog 88 #[.int .i64 i] w fun e w' => e = .returned (.bool true) ∧ w = w' := by
 go_enter Try.func88, Try.ntmps88
 go_wp2
 go_ret
 exact ⟨by simp, rfl⟩
section
variable {w : World} {F : ShF} {s : ShM} {f : Nat → Nat → Nat}
set_option maxHeartbeats 1000000 in
theorem sh_flush (hS : ShAt w F s) (d : Int) :
  Calls Try.prog 59 #[.pointer (some ⟨F.g, 0, none⟩), .int .i64 d] w fun e w' =>
   ∃ F', e = .returned (.int .i64 (s.flushR d).1) ∧ ShAt w' F' (s.flushR d).2 ∧ ShTo w F w' F' ∧ ((s.flushR d).1 ≠ 0 → F' = F) := by
 have hhas := sh_has hS d 0
 have hlt := hS.lt _ F.mem_g
 by_cases hh : s.has d 0 = true
 ·obtain ⟨⟨hd0, hd1⟩, _⟩ := has_of hh
  obtain ⟨d, rfl⟩ := Int.eq_ofNat_of_zero_le hd0
  have hd' : d < s.disks.length := by omega
  have hready := sh_ready hS d hd' true
  have hres : s.flushR d = (if s.why d = 0 then (0, (s.spend.tick).setDisk d ((s.disk d).settle fun _ => true)) else (s.why d, s)) := by
   simp [ShM.flushR, hh]
  rw [hres]
  rw [hh] at hhas
  by_cases hw : s.why d = 0
  ·rw [if_pos hw]
   simp only [hw, true_and, if_true] at hready
   go_enter Try.func59, Try.ntmps59
   go_wp2_with fail
   refine hhas.mono ?_
   rintro e w' ⟨rfl, rfl⟩
   go_wp2_with fail
   refine hready.mono ?_
   rintro e w1 ⟨rfl, hS1, hT1⟩
   have hc4 := hS1.c4
   have hf4 := hS1.frozen 4
   go_wp2_with fail
   have hS2 := hS1.setCount (wrap64 (s.spend.count + 1))
   have hT2 := hT1.setCell (a := ⟨F.g, 4, none⟩) F.mem_g (.int .i64 (wrap64 (s.spend.count + 1)))
   have hs2 : { s.spend with count := wrap64 (s.spend.count + 1) } = s.spend.tick := rfl
   rw [hs2] at hS2
   have hdisks : s.spend.tick.disks = s.disks := by simp only [ShM.tick, ShM.spend]; split <;> rfl
   have hsn : seenF s = seenF s.spend.tick := by funext x y; simp only [seenF, ShM.disk, hdisks]
   have hdk : s.spend.tick.disk d = s.disk d := by simp only [ShM.disk, hdisks]
   rw [hsn] at hS2
   have hset := sh_settle1 hS2 d (by rw [hdisks]; exact hd') (fun _ => true) (fun W _ i _ => flush1 W i)
   rw [hdk] at hset
   refine hset.mono ?_
   rintro e w3 ⟨F', rfl, hS3, hT3⟩
   have hto : ShTo w F w3 F' := (ShTo.same hT2).trans hT3
   go_wp2
   go_ret
   exact ⟨F', by simp, hS3, hto, fun h => absurd rfl h⟩
  ·rw [if_neg hw]
   simp only [hw, false_and, if_false] at hready
   have hb : (s.why d != 0) = true := by simpa using hw
   clear hres
   generalize s.why d = y at *
   go_enter Try.func59, Try.ntmps59
   go_wp2_with fail
   refine hhas.mono ?_
   rintro e w' ⟨rfl, rfl⟩
   go_wp2_with fail
   refine hready.mono ?_
   rintro e w1 ⟨rfl, hS1, hT1⟩
   go_wp2
   go_ret
   exact ⟨F, by simp, hS1, ShTo.same hT1, fun _ => rfl⟩
 ·have hres : s.flushR d = (1, s) := by simp only [ShM.flushR, if_neg hh]
  rw [hres]
  have hs' : s.has d 0 = false := by simpa using hh
  rw [hs'] at hhas
  clear hh hres
  go_enter Try.func59, Try.ntmps59
  go_wp2_with fail
  refine hhas.mono ?_
  rintro e w' ⟨rfl, rfl⟩
  go_wp2
  go_ret
  exact ⟨F, by simp, hS, ShTo.refl _ _, fun _ => rfl⟩
end
end
section
open Go.RowKit
structure KeepAt (w : World) (B : List Nat) (A : Option Addr) (keep : List (List Int)) : Prop where
 rows : ∃ vs : List Value, RdV w A vs ∧ vs.length = keep.length ∧ ∀ i (h : i < keep.length), ∃ Ai ci, vs[i]? = some (.slice Ai (keep[i]).length ci) ∧ RdV w Ai (intsV keep[i]) ∧ ∀ ad, Ai = some ad → 0 < (intsV keep[i]).length → ad.block ∉ B
 out : ∀ vs : List Value, vs.length = keep.length → ∀ ad, A = some ad → 0 < vs.length → ad.block ∉ B
theorem RdV.turns {w W : World} {B : List Nat} {A : Option Addr} {vs : List Value} (h : RdV w A vs) (hT : Turns B w W) (hB : ∀ ad, A = some ad → 0 < vs.length → ad.block ∉ B) : RdV W A vs :=
 ⟨h.1, h.2.1, fun ad e i hi => (World.cell?_of_block (hT.block _ (World.block_lt_of_cell? w _ (h.2.2 ad e i hi)) (by rw [add_block]; exact hB ad e (Nat.lt_of_le_of_lt (Nat.zero_le _) hi)))).trans (h.2.2 ad e i hi)⟩
theorem KeepAt.turns {w W : World} {B : List Nat} {A : Option Addr} {keep : List (List Int)} (h : KeepAt w B A keep) (hT : Turns B w W) : KeepAt W B A keep := by
 obtain ⟨⟨vs, h1, h2, h3⟩, h4⟩ := h
 refine ⟨⟨vs, h1.turns hT (h4 vs h2), h2, fun i hi => ?_⟩, h4⟩
 obtain ⟨Ai, ci, g1, g2, g3⟩ := h3 i hi
 exact ⟨Ai, ci, g1, g2.turns hT g3, g3⟩
section
variable {w : World} {F : ShF} {s : ShM}
end
end
section
open Go.RowKit
theorem xor_byte8 (a b : UInt8) : bits .xor .u8 (a.toNat : Int) (b.toNat : Int) = ((a ^^^ b).toNat : Int) := by
 rw [u8_xor_nat _ _ a.toNat_lt b.toNat_lt, UInt8.toNat_xor]
theorem seenF_same {s : ShM} {d : Nat} (hd : d < s.disks.length) (k : DiskM) (hk : k.waits = (s.disk d).waits) : seenF (s.setDisk d k) = seenF s := by
 funext x y
 simp only [seenF, ShM.set_len]
 by_cases hx : x = d
 ·subst hx
  rw [s.disk_set hd, hk]
 ·rw [s.disk_set_ne hx]
section
variable {w : World} {F : ShF} {s : ShM}
end
end
end Go.Proofs.Ytajnlhalanhicaa

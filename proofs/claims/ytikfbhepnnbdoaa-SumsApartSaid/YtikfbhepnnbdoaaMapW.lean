/-
  A map keyed by pairs of numbers that a call owns: what it holds as a function, and the laws of its operations.
-/
import Derived.Test.YtikfbhepnnbdoaaMem
import Derived.Maps.OwnSet
import Derived.WideKeyPair
namespace Go.Proofs.Ytikfbhepnnbdoaa
set_option linter.all false
open Go.RowKit Go.Maps Go.MapKept

def pairV (x y : Nat) : Value := .agg #[.int .i64 x, .int .i64 y]
theorem pairV_inj {x y x' y' : Nat} (h : pairV x y = pairV x' y') : x = x' ∧ y = y' := by
  simp only [pairV, Value.agg.injEq, Array.mk.injEq, List.cons.injEq, Value.int.injEq, true_and, and_true] at h
  omega
def smallN (x : Nat) : Prop := x ≤ 9223372036854775807

/-- what a map's type must be -/
structure PairMap (P : Program) (mt k et : TypeId) : Prop where
  keyed : Keyed P k
  keys : ∀ x y, smallN x → smallN y → ∃ l, keyOf P k (pairV x y) = some l
  mu : P.underlying mt = some (.map k et)
  zero : ∀ w : World, (zeroValue et).run P w = .ok (.int .i64 0) w

/-- the entries hold f (nought where there is none) -/
structure Holds (es : Array MapEntry) (f : Nat → Nat → Nat) : Prop where
  entries : ∀ e ∈ es.toList, ∃ x y : Nat, smallN x ∧ smallN y ∧ e.key = pairV x y ∧ e.val = .int .i64 (f x y : Nat)
  all : ∀ x y, f x y ≠ 0 → ∃ e ∈ es.toList, e.key = pairV x y

/-- block b is such a map -/
def MapP (w : World) (b : Nat) (f : Nat → Nat → Nat) : Prop := ∃ es clock, w.heap[b]? = some (.map es clock) ∧ Stamped es clock ∧ Holds es f
/-- .. in which there is an entry at (x, y), of the stamp s -/
def MapE (w : World) (b : Nat) (f : Nat → Nat → Nat) (x y : Nat) (s : Int) : Prop := ∃ es clock, w.heap[b]? = some (.map es clock) ∧ Stamped es clock ∧ Holds es f ∧ ∃ e ∈ es.toList, e.key = pairV x y ∧ (e.born : Int) = s
def setBlk (w : World) (b : Nat) (o : Obj) : World := { w with heap := w.heap.setIfInBounds b o }
def updF (f : Nat → Nat → Nat) (x y c : Nat) : Nat → Nat → Nat := fun x' y' => if x' = x ∧ y' = y then c else f x' y'

theorem MapP.of_block {w w' : World} {b : Nat} {f : Nat → Nat → Nat} (h : MapP w b f) (hb : w'.heap[b]? = w.heap[b]?) : MapP w' b f := by
  obtain ⟨es, clock, h1, h2, h3⟩ := h
  exact ⟨es, clock, hb.trans h1, h2, h3⟩
theorem MapP.lt {w : World} {b : Nat} {f : Nat → Nat → Nat} (h : MapP w b f) : b < w.heap.size := by
  obtain ⟨es, clock, h1, _⟩ := h
  exact (Array.getElem?_eq_some_iff.1 h1).1
theorem MapP.made (w : World) : MapP (w.alloc (.map #[] 0)) w.heap.size (fun _ _ => 0) :=
  ⟨#[], 0, heap_alloc_new w _, stamped_empty 0, ⟨by simp, fun x y h => absurd rfl h⟩⟩
theorem MapE.toP {w : World} {b : Nat} {f : Nat → Nat → Nat} {x y : Nat} {s : Int} (h : MapE w b f x y s) : MapP w b f := by
  obtain ⟨es, clock, h1, h2, h3, _⟩ := h
  exact ⟨es, clock, h1, h2, h3⟩
theorem MapE.of_block {w w' : World} {b : Nat} {f : Nat → Nat → Nat} {x y : Nat} {s : Int} (h : MapE w b f x y s) (hb : w'.heap[b]? = w.heap[b]?) : MapE w' b f x y s := by
  obtain ⟨es, clock, h1, h⟩ := h
  exact ⟨es, clock, hb.trans h1, h⟩

section
variable {P : Program} {mt k et : TypeId} {w : World} {b : Nat} {f : Nat → Nat → Nat}

theorem Holds.keysOk {es : Array MapEntry} (K : PairMap P mt k et) (h : Holds es f) : ∀ e ∈ es.toList, ∃ l, keyOf P k e.key = some l := fun e he => by
  obtain ⟨x, y, hx, hy, hk, _⟩ := h.entries e he
  rw [hk]
  exact K.keys x y hx hy

theorem Holds.found {es : Array MapEntry} (h : Holds es f) {e : MapEntry} (he : e ∈ es.toList) {x y : Nat} (hk : e.key = pairV x y) : e.val = .int .i64 (f x y : Nat) := by
  obtain ⟨x', y', _, _, hk', hv⟩ := h.entries e he
  obtain ⟨rfl, rfl⟩ := pairV_inj (hk.symm.trans hk')
  exact hv
theorem Holds.none {es : Array MapEntry} (h : Holds es f) {x y : Nat} (hn : ∀ e ∈ es.toList, e.key ≠ pairV x y) : f x y = 0 := by
  by_cases h0 : f x y = 0
  · exact h0
  · obtain ⟨e, he, hk⟩ := h.all x y h0
    exact absurd hk (hn e he)

theorem MapP.look (K : PairMap P mt k et) (h : MapP w b f) (x y : Nat) (hx : smallN x) (hy : smallN y) :
    (Instr.lookup mt (.map (some b)) (pairV x y) false).run P w = .ok (.int .i64 (f x y : Nat)) w := by
  obtain ⟨es, clock, hb, hs, hh⟩ := h
  obtain ⟨l, hl⟩ := K.keys x y hx hy
  have hc := fun em => K.keyed.check w em hl
  rcases K.keyed.find w hl es.toList (hh.keysOk K) with ⟨h1, h2⟩ | ⟨j, e, h1, h2, h3⟩
  · rw [hh.none h2]
    simp [Instr.lookup, run_underlying K.mu, MapKept.run_getObj_map hb, hc, h1, K.zero, Result.andThen]
  · have he : e ∈ es.toList := List.mem_of_getElem? h2
    have hv := hh.found he h3
    simp [Instr.lookup, run_underlying K.mu, MapKept.run_getObj_map hb, hc, h1, hv, Result.andThen]

theorem modify_same {es : Array MapEntry} {j : Nat} {e : MapEntry} (h : es[j]? = some e) (g : MapEntry → MapEntry) (hg : g e = e) : es.modify j g = es := by
  apply Array.ext
  · simp
  · intro i h1 h2
    simp only [Array.getElem_modify]
    split
    · rename_i hji
      subst hji
      have : es[j] = e := by
        have := Array.getElem?_eq_getElem h2
        rw [h] at this
        injection this with this
        exact this.symm
      rw [this, hg]
    · rfl

theorem MapP.entry (K : PairMap P mt k et) (h : MapP w b f) (x y : Nat) (hx : smallN x) (hy : smallN y) :
    ∃ (s : Nat) (o : Obj), (Instr.mapEntry mt (.map (some b)) (pairV x y)).run P w = .ok (.tuple #[.int .i64 (f x y : Nat), .int .i64 s]) (setBlk w b o) ∧ MapE (setBlk w b o) b f x y s := by
  obtain ⟨es, clock, hb, hs, hh⟩ := h
  obtain ⟨l, hl⟩ := K.keys x y hx hy
  have hc := fun em => K.keyed.check w em hl
  rcases K.keyed.find w hl es.toList (hh.keysOk K) with ⟨h1, h2⟩ | ⟨j, e, h1, h2, h3⟩
  · have h0 := hh.none h2
    refine ⟨clock, .map (es.push { key := pairV x y, val := .int .i64 0, born := clock }) (clock + 1), ?_, ?_⟩
    · rw [h0]
      simp [Instr.mapEntry, run_underlying K.mu, MapKept.run_getObj_map hb, hc, h1, K.zero, MapKept.run_setObj_map _ hb, Result.andThen, goInt, setBlk]
    · refine ⟨_, _, (heap_set hb).1, stamped_push hs h2, ⟨?_, ?_⟩, ⟨{ key := pairV x y, val := .int .i64 0, born := clock }, by simp, rfl, rfl⟩⟩
      · intro e he
        simp only [Array.toList_push, List.mem_append, List.mem_singleton] at he
        rcases he with he | rfl
        · exact hh.entries e he
        · exact ⟨x, y, hx, hy, rfl, by rw [h0]; rfl⟩
      · intro x' y' hne
        obtain ⟨e, he, hk⟩ := hh.all x' y' hne
        exact ⟨e, by simp only [Array.toList_push, List.mem_append]; exact .inl he, hk⟩
  · have he : e ∈ es.toList := List.mem_of_getElem? h2
    have hv := hh.found he h3
    have hj : es[j]? = some e := by simpa using h2
    have hst := K.keyed.stays w hl
    have hm : es.modify j (fun e => { e with key := pairV x y }) = es := modify_same hj _ (by rw [← h3])
    refine ⟨e.born, .map es clock, ?_, ?_⟩
    · simp [Instr.mapEntry, run_underlying K.mu, MapKept.run_getObj_map hb, hc, h1, hj, h3, hst, MapKept.run_setObj_map _ hb, Result.andThen, goInt, setBlk, hv, hm]
    · exact ⟨es, clock, (heap_set hb).1, hs, hh, e, he, h3, rfl⟩

theorem MapE.store {x y : Nat} {s : Int} (h : MapE w b f x y s) (hx : smallN x) (hy : smallN y) (c : Nat) :
    ∃ o, (Instr.entryStore mt (.map (some b)) (.int .i64 s) (.int .i64 c)).run P w = .ok () (setBlk w b o) ∧ MapP (setBlk w b o) b (updF f x y c) := by
  obtain ⟨es, clock, hb, hs, hh, e, he, hk, hbo⟩ := h
  obtain ⟨j, hj, rfl⟩ := List.getElem_of_mem he
  have hj' : j < es.size := by simpa using hj
  have hfi : es.findIdx? (fun e => (e.born : Int) == s) = some j := by
    rw [Array.findIdx?_eq_some_iff_getElem]
    refine ⟨hj', by simp at hbo ⊢; exact hbo, ?_⟩
    intro i hij hb2
    have hnd := hs.2.1
    simp only [beq_iff_eq] at hb2
    rw [← hbo] at hb2
    have e1 : (es.toList.map (·.born))[i]'(by simp; omega) = (es.toList.map (·.born))[j]'(by simp; omega) := by
      simp at hb2 ⊢
      omega
    have := (List.getElem_inj hnd).1 e1
    omega
  refine ⟨.map (es.modify j fun e => { e with val := .int .i64 c }) clock, ?_, ?_⟩
  · simp [Instr.entryStore, MapKept.run_getObj_map hb, asInt, asIntOf, hfi, MapKept.run_setObj_map _ hb, Result.andThen, setBlk]
  · refine ⟨_, _, (heap_set hb).1, stamped_modify hs _ _ (fun _ _ => rfl) (fun _ _ _ => rfl), ⟨?_, ?_⟩⟩
    · intro e he2
      obtain ⟨i, hi, rfl⟩ := List.getElem_of_mem he2
      have hi' : i < es.size := by simpa using hi
      simp only [Array.getElem_toList, Array.getElem_modify]
      by_cases hji : j = i
      · subst hji
        obtain ⟨x', y', hx', hy', hk', _⟩ := hh.entries _ he
        obtain ⟨rfl, rfl⟩ := pairV_inj (hk.symm.trans hk')
        refine ⟨x, y, hx, hy, ?_, ?_⟩
        · simp; simpa using hk
        · simp [updF]
      · obtain ⟨x', y', hx', hy', hk', hv'⟩ := hh.entries es[i] (by simp)
        refine ⟨x', y', hx', hy', ?_, ?_⟩
        · rw [if_neg hji]; exact hk'
        · rw [if_neg hji, hv']
          have hne : ¬ (x' = x ∧ y' = y) := by
            rintro ⟨rfl, rfl⟩
            have e1 : (es.toList.map (·.key))[i]'(by simp; omega) = (es.toList.map (·.key))[j]'(by simp; omega) := by
              simp at hk ⊢
              rw [hk', hk]
            have := (List.getElem_inj hs.2.2).1 e1
            omega
          simp [updF, hne]
    · intro x' y' hne
      have hkeys : ∀ e ∈ es.toList, ∃ e' ∈ (es.modify j fun e => { e with val := .int .i64 c }).toList, e'.key = e.key := by
        intro e he2
        obtain ⟨i, hi, rfl⟩ := List.getElem_of_mem he2
        have hi' : i < es.size := by simpa using hi
        refine ⟨(es.modify j fun e => { e with val := .int .i64 c })[i]'(by simpa using hi'), by rw [Array.mem_toList_iff]; exact Array.getElem_mem _, ?_⟩
        simp only [Array.getElem_modify]
        split <;> simp
      by_cases hxy : x' = x ∧ y' = y
      · obtain ⟨rfl, rfl⟩ := hxy
        obtain ⟨e', h1, h2⟩ := hkeys _ he
        exact ⟨e', h1, h2.trans hk⟩
      · rw [updF, if_neg hxy] at hne
        obtain ⟨e, he2, hk2⟩ := hh.all x' y' hne
        obtain ⟨e', h1, h2⟩ := hkeys e he2
        exact ⟨e', h1, h2.trans hk2⟩

theorem MapP.del (K : PairMap P mt k et) (h : MapP w b f) (x y : Nat) (hx : smallN x) (hy : smallN y) (ty : TypeId) :
    ∃ o, (Builtin.delete_ #[mt, k] ty #[.map (some b), pairV x y]).run P w = .ok (.tuple #[]) (setBlk w b o) ∧ MapP (setBlk w b o) b (updF f x y 0) := by
  obtain ⟨es, clock, hb, hs, hh⟩ := h
  obtain ⟨l, hl⟩ := K.keys x y hx hy
  have hc := fun em => K.keyed.check w em hl
  rcases K.keyed.find w hl es.toList (hh.keysOk K) with ⟨h1, h2⟩ | ⟨j, e, h1, h2, h3⟩
  · refine ⟨.map es clock, ?_, es, clock, (heap_set hb).1, hs, ⟨?_, ?_⟩⟩
    · simp [Builtin.delete_, run_underlying K.mu, MapKept.run_getObj_map hb, hc, h1, MapKept.run_setObj_map _ hb, Result.andThen, setBlk]
    · intro e he
      obtain ⟨x', y', hx', hy', hk', hv'⟩ := hh.entries e he
      have hne : ¬ (x' = x ∧ y' = y) := by
        rintro ⟨rfl, rfl⟩
        exact h2 e he hk'
      exact ⟨x', y', hx', hy', hk', by rw [updF, if_neg hne]; exact hv'⟩
    · intro x' y' hne
      by_cases hxy : x' = x ∧ y' = y
      · rw [updF, if_pos hxy] at hne
        exact absurd rfl hne
      · rw [updF, if_neg hxy] at hne
        exact hh.all x' y' hne
  · have he : e ∈ es.toList := List.mem_of_getElem? h2
    have hj : j < es.size := by
      have := (List.getElem?_eq_some_iff.1 h2).1
      simpa using this
    refine ⟨.map (es.eraseIdxIfInBounds j) clock, ?_, _, _, (heap_set hb).1, stamped_erase hs j, ⟨?_, ?_⟩⟩
    · simp [Builtin.delete_, run_underlying K.mu, MapKept.run_getObj_map hb, hc, h1, MapKept.run_setObj_map _ hb, Result.andThen, setBlk]
    all_goals
      have hel : (es.eraseIdxIfInBounds j).toList = es.toList.eraseIdx j := by
        unfold Array.eraseIdxIfInBounds
        rw [dif_pos hj]
        simp
      rw [hel]
    · intro e' he'
      obtain ⟨i, hi, hij, rfl⟩ := List.mem_eraseIdx_iff_getElem.1 he'
      obtain ⟨x', y', hx', hy', hk', hv'⟩ := hh.entries _ (List.getElem_mem hi)
      have hne : ¬ (x' = x ∧ y' = y) := by
        rintro ⟨rfl, rfl⟩
        have hj2 : j < es.toList.length := by simpa using hj
        have h2' : es.toList[j] = e := by
          have := List.getElem?_eq_getElem hj2
          rw [h2] at this
          injection this with this
          exact this.symm
        have e1 : (es.toList.map (·.key))[i]'(by simpa using hi) = (es.toList.map (·.key))[j]'(by simpa using hj) := by
          rw [List.getElem_map, List.getElem_map, hk', h2', h3]
        have := (List.getElem_inj hs.2.2).1 e1
        omega
      exact ⟨x', y', hx', hy', hk', by rw [updF, if_neg hne]; exact hv'⟩
    · intro x' y' hne
      by_cases hxy : x' = x ∧ y' = y
      · rw [updF, if_pos hxy] at hne
        exact absurd rfl hne
      · rw [updF, if_neg hxy] at hne
        obtain ⟨e2, he2, hk2⟩ := hh.all x' y' hne
        obtain ⟨i, hi, rfl⟩ := List.getElem_of_mem he2
        refine ⟨_, List.mem_eraseIdx_iff_getElem.2 ⟨i, hi, ?_, rfl⟩, hk2⟩
        rintro rfl
        have : es.toList[i] = e := by
          have := List.getElem?_eq_getElem hi
          rw [h2] at this
          injection this with this
          exact this.symm
        rw [this, h3] at hk2
        exact hxy (by obtain ⟨a, b⟩ := pairV_inj hk2; exact ⟨a.symm, b.symm⟩)
end
end Go.Proofs.Ytikfbhepnnbdoaa

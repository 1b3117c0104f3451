/-
 A map that is a set (its values are struct{}): which keys it has, in the order in which they came; the laws of its operations.
-/
import Derived.Test.YtajnlhalanhicaaBase
import Derived.Test.YtajnlhalanhicaaShI
namespace Go.Proofs.Ytajnlhalanhicaa
set_option linter.all false
set_option maxRecDepth 20000
open Go.RowKit Go.Maps Go.MapKept
structure SetMap (P : Program) (mt k et : TypeId) {α : Type} (kv : α → Value) (sm : α → Prop) (uv : Value) : Prop where
 keyed : Keyed P k
 keys : ∀ x, sm x → ∃ l, keyOf P k (kv x) = some l
 inj : ∀ x y, kv x = kv y → x = y
 mu : P.underlying mt = some (.map k et)
 zero : ∀ w : World, (zeroValue et).run P w = .ok uv w
def MapSet {α : Type} (kv : α → Value) (sm : α → Prop) (uv : Value) (w : World) (b : Nat) (xs : List α) : Prop :=
 ∃ es clock, w.heap[b]? = some (.map es clock) ∧ Stamped es clock ∧ es.toList.map (·.key) = xs.map kv ∧ (∀ e ∈ es.toList, e.val = uv) ∧ ∀ x ∈ xs, sm x
section
variable {α : Type} [BEq α] [LawfulBEq α] {kv : α → Value} {sm : α → Prop} {uv : Value} {P : Program} {mt k et : TypeId} {w w' : World} {b : Nat} {xs : List α}
theorem MapSet.of_block (h : MapSet kv sm uv w b xs) (hb : w'.heap[b]? = w.heap[b]?) : MapSet kv sm uv w' b xs := by
 obtain ⟨es, clock, h1, h2⟩ := h
 exact ⟨es, clock, hb.trans h1, h2⟩
theorem MapSet.lt (h : MapSet kv sm uv w b xs) : b < w.heap.size := by
 obtain ⟨es, clock, h1, _⟩ := h
 exact (Array.getElem?_eq_some_iff.1 h1).1
theorem MapSet.made (w : World) : MapSet kv sm uv (w.alloc (.map #[] 0)) w.heap.size [] :=
 ⟨#[], 0, heap_alloc_new w _, stamped_empty 0, rfl, by simp, by simp⟩
theorem MapSet.keysOk {es : Array MapEntry} (K : SetMap P mt k et kv sm uv) (h : es.toList.map (·.key) = xs.map kv) (hs : ∀ x ∈ xs, sm x) : ∀ e ∈ es.toList, ∃ l, keyOf P k e.key = some l := fun e he => by
 have : e.key ∈ es.toList.map (·.key) := List.mem_map_of_mem he
 rw [h] at this
 obtain ⟨x, hx, e1⟩ := List.mem_map.1 this
 rw [← e1]
 exact K.keys x (hs x hx)
theorem MapSet.notIn {es : Array MapEntry} (h : es.toList.map (·.key) = xs.map kv) {x : α} (hn : ∀ e ∈ es.toList, e.key ≠ kv x) : xs.contains x = false := by
 cases hc : xs.contains x with
 | false => rfl
 | true =>
  have : kv x ∈ es.toList.map (·.key) := by rw [h]; exact List.mem_map_of_mem (by simpa using hc)
  obtain ⟨e, he, e1⟩ := List.mem_map.1 this
  exact absurd e1 (hn e he)
theorem MapSet.isIn {es : Array MapEntry} (K : SetMap P mt k et kv sm uv) (h : es.toList.map (·.key) = xs.map kv) {x : α} {e : MapEntry} (he : e ∈ es.toList) (hk : e.key = kv x) : xs.contains x = true := by
 have : e.key ∈ xs.map kv := by rw [← h]; exact List.mem_map_of_mem he
 obtain ⟨y, hy, e1⟩ := List.mem_map.1 this
 have := K.inj _ _ (e1.trans hk)
 subst this
 simpa using hy
theorem MapSet.look (K : SetMap P mt k et kv sm uv) (h : MapSet kv sm uv w b xs) (x : α) (hx : sm x) :
  (Instr.lookup mt (.map (some b)) (kv x) true).run P w = .ok (.tuple #[uv, .bool (xs.contains x)]) w := by
 obtain ⟨es, clock, hb, hs, hk, hv, hm⟩ := h
 obtain ⟨l, hl⟩ := K.keys x hx
 have hc := fun em => K.keyed.check w em hl
 rcases K.keyed.find w hl es.toList (MapSet.keysOk K hk hm) with ⟨h1, h2⟩ | ⟨j, e, h1, h2, h3⟩
 ·rw [MapSet.notIn hk h2]
  simp [Instr.lookup, run_underlying K.mu, MapKept.run_getObj_map hb, hc, h1, K.zero, Result.andThen]
 ·have he : e ∈ es.toList := List.mem_of_getElem? h2
  rw [MapSet.isIn K hk he h3]
  simp [Instr.lookup, run_underlying K.mu, MapKept.run_getObj_map hb, hc, h1, hv e he, Result.andThen]
def insL (xs : List α) (x : α) : List α := if xs.contains x then xs else xs ++ [x]
theorem MapSet.put (K : SetMap P mt k et kv sm uv) (h : MapSet kv sm uv w b xs) (x : α) (hx : sm x) :
  ∃ o, (Instr.mapUpdate mt (.map (some b)) (kv x) uv).run P w = .ok () (setBlk w b o) ∧ MapSet kv sm uv (setBlk w b o) b (insL xs x) := by
 obtain ⟨es, clock, hb, hs, hk, hv, hm⟩ := h
 obtain ⟨l, hl⟩ := K.keys x hx
 have hc := fun em => K.keyed.check w em hl
 have hst := K.keyed.stays w hl
 rcases K.keyed.find w hl es.toList (MapSet.keysOk K hk hm) with ⟨h1, h2⟩ | ⟨j, e, h1, h2, h3⟩
 ·refine ⟨.map (es.push { key := kv x, val := uv, born := clock }) (clock + 1), ?_, ?_⟩
  ·simp [Instr.mapUpdate, run_underlying K.mu, MapKept.run_getObj_map hb, hc, h1, MapKept.run_setObj_map _ hb, Result.andThen, setBlk]
  ·rw [insL, if_neg (by rw [MapSet.notIn hk h2]; simp)]
   refine ⟨_, _, (heap_set hb).1, stamped_push hs h2, by simp [hk], fun e he => ?_, fun y hy => ?_⟩
   ·simp only [Array.toList_push, List.mem_append, List.mem_singleton] at he
    rcases he with he | rfl
    ·exact hv e he
    ·rfl
   ·rcases List.mem_append.1 hy with hy | hy
    ·exact hm y hy
    ·simp only [List.mem_singleton] at hy
     subst hy
     exact hx
 ·have he : e ∈ es.toList := List.mem_of_getElem? h2
  have hj : es[j]? = some e := by simpa using h2
  have hmd : es.modify j (fun e => { e with key := kv x, val := uv }) = es := modify_same hj _ (by rw [← h3, ← hv e he])
  refine ⟨.map es clock, ?_, ?_⟩
  ·simp [Instr.mapUpdate, run_underlying K.mu, MapKept.run_getObj_map hb, hc, h1, hj, h3, hst, MapKept.run_setObj_map _ hb, Result.andThen, setBlk, hmd]
  ·rw [insL, if_pos (MapSet.isIn K hk he h3)]
   exact ⟨_, _, (heap_set hb).1, hs, hk, hv, hm⟩
theorem MapSet.len_eq (h : MapSet kv sm uv w b xs) (ty : TypeId) (K : SetMap P mt k et kv sm uv) :
  (Builtin.len_ #[mt] ty #[.map (some b)]).run P w = .ok (.int .i64 (xs.length : Nat)) w := by
 obtain ⟨es, clock, hb, hs, hk, hv, hm⟩ := h
 have hl : es.size = xs.length := by
  have := congrArg List.length hk
  simpa using this
 simp [Builtin.len_, run_underlying K.mu, MapKept.run_getObj_map hb, Result.andThen, hl, goInt]
theorem MapSet.clear (h : MapSet kv sm uv w b xs) (ty : TypeId) (K : SetMap P mt k et kv sm uv) :
  ∃ o, (Builtin.clear_ #[mt] ty #[.map (some b)]).run P w = .ok (.tuple #[]) (setBlk w b o) ∧ MapSet kv sm uv (setBlk w b o) b [] := by
 obtain ⟨es, clock, hb, hs, hk, hv, hm⟩ := h
 refine ⟨.map #[] clock, ?_, _, _, (heap_set hb).1, stamped_empty clock, rfl, by simp, by simp⟩
 simp [Builtin.clear_, run_underlying K.mu, MapKept.run_getObj_map hb, MapKept.run_setObj_map _ hb, Result.andThen, setBlk]
end
end Go.Proofs.Ytajnlhalanhicaa

/-
  A shelf in memory: which blocks it takes, what they hold, and what leaves it as it is.
-/
import Derived.Test.YtikfbhepnnbdoaaShM
import Derived.Test.YtikfbhepnnbdoaaMapW
import Derived.Test.YtikfbhepnnbdoaaMemK
namespace Go.Proofs.Ytikfbhepnnbdoaa
set_option linter.all false
open Go.RowKit

/-! flat rows of elements of n cells -/
theorem flat_len {α : Type} {f : α → List Value} {n : Nat} (hf : ∀ a, (f a).length = n) : ∀ l : List α, (l.flatMap f).length = l.length * n
  | [] => by simp
  | a :: l => by rw [List.flatMap_cons, List.length_append, hf, flat_len hf l, List.length_cons, Nat.succ_mul]; omega
theorem flat_get {α : Type} {f : α → List Value} {n : Nat} (hf : ∀ a, (f a).length = n) : ∀ (l : List α) (k j : Nat) (hk : k < l.length), j < n → (l.flatMap f)[k * n + j]? = (f l[k])[j]?
  | [], _, _, hk, _ => absurd hk (by simp)
  | a :: l, 0, j, _, hj => by
    rw [List.flatMap_cons, Nat.zero_mul, Nat.zero_add, List.getElem?_append_left (by rw [hf]; exact hj)]
    rfl
  | a :: l, k + 1, j, hk, hj => by
    have hk' : k < l.length := by simpa using hk
    rw [List.flatMap_cons, List.getElem?_append_right (by rw [hf, Nat.succ_mul]; omega), hf, show (k + 1) * n + j - n = k * n + j from by rw [Nat.succ_mul]; omega, flat_get hf l k j hk' hj]
    rfl
theorem flat_set {α : Type} {f : α → List Value} {n : Nat} (hf : ∀ a, (f a).length = n) : ∀ (l : List α) (k j : Nat) (hk : k < l.length) (a : α) (v : Value), j < n → f a = (f l[k]).set j v → (l.flatMap f).set (k * n + j) v = (l.set k a).flatMap f
  | [], _, _, hk, _, _, _, _ => absurd hk (by simp)
  | b :: l, 0, j, _, a, v, hj, h => by
    rw [List.flatMap_cons, Nat.zero_mul, Nat.zero_add, List.set_append_left _ _ (by rw [hf]; exact hj), List.set_cons_zero, List.flatMap_cons, h]
    rfl
  | b :: l, k + 1, j, hk, a, v, hj, h => by
    have hk' : k < l.length := by simpa using hk
    rw [List.flatMap_cons, List.set_append_right _ _ (by rw [hf, Nat.succ_mul]; omega), hf, show (k + 1) * n + j - n = k * n + j from by rw [Nat.succ_mul]; omega, flat_set hf l k j hk' a v hj h, List.set_cons_succ, List.flatMap_cons]

def strV (b : Bytes) : Value := .string ⟨b.toArray⟩
def sureV (l : List Bytes) : List Value := l.map strV
def waitV (w : Nat × Bytes) : List Value := [.int .i64 (w.1 : Int), strV w.2]
def waitsV (l : List (Nat × Bytes)) : List Value := l.flatMap waitV
/-- where a disk's rows lie: the block and the room of what is sure, the slice of what waits -/
structure DiskF where
  gs : Nat
  cs : Nat
  wv : Value
def diskV (p : DiskM × DiskF) : List Value := [.slice (some ⟨p.2.gs, 0, none⟩) p.1.sure.length p.2.cs, p.2.wv, .bool p.1.dead]
def disksV (l : List DiskM) (fs : List DiskF) : List Value := (l.zip fs).flatMap diskV
theorem waitV_len (w : Nat × Bytes) : (waitV w).length = 2 := rfl
theorem diskV_len (p : DiskM × DiskF) : (diskV p).length = 3 := rfl
theorem waitsV_len (l : List (Nat × Bytes)) : (waitsV l).length = l.length * 2 := flat_len waitV_len l
theorem waitsV_get (l : List (Nat × Bytes)) (k j : Nat) (hk : k < l.length) (hj : j < 2) : (waitsV l)[k * 2 + j]? = (waitV l[k])[j]? := flat_get waitV_len l k j hk hj
theorem waitsV_app (l m : List (Nat × Bytes)) : waitsV (l ++ m) = waitsV l ++ waitsV m := by simp [waitsV]
theorem disksV_len (l : List DiskM) (fs : List DiskF) (h : fs.length = l.length) : (disksV l fs).length = l.length * 3 := by
  rw [disksV, flat_len diskV_len, List.length_zip, h, Nat.min_self]
theorem disksV_get (l : List DiskM) (fs : List DiskF) (h : fs.length = l.length) (d j : Nat) (hd : d < l.length) (hj : j < 3) : (disksV l fs)[d * 3 + j]? = (diskV (l[d], fs[d]))[j]? := by
  have := flat_get diskV_len (l.zip fs) d j (by rw [List.length_zip, h, Nat.min_self]; exact hd) hj
  rw [List.getElem_zip] at this
  exact this
theorem zip_set {α β : Type} : ∀ (l : List α) (m : List β) (d : Nat) (a : α) (b : β), (l.set d a).zip (m.set d b) = (l.zip m).set d (a, b)
  | [], _, _, _, _ => by simp
  | _ :: _, [], _, _, _ => by simp
  | _ :: _, _ :: _, 0, _, _ => rfl
  | x :: l, y :: m, d + 1, a, b => by simp [zip_set l m d a b]
theorem disksV_set (l : List DiskM) (fs : List DiskF) (h : fs.length = l.length) (d j : Nat) (hd : d < l.length) (hj : j < 3) (k : DiskM) (f : DiskF) (v : Value) (he : diskV (k, f) = (diskV (l[d], fs[d])).set j v) :
    (disksV l fs).set (d * 3 + j) v = disksV (l.set d k) (fs.set d f) := by
  rw [disksV, disksV, zip_set]
  refine flat_set diskV_len (l.zip fs) d j (by rw [List.length_zip, h, Nat.min_self]; exact hd) (k, f) v hj ?_
  rw [List.getElem_zip]
  exact he
theorem ownsRow_same {w w' : World} {base e size n : Nat} {v : Value} {vs : List Value} (h : w.ownsRow base e size v n vs) (hb : ∀ k, v.ownBlock = some k → w'.heap[k]? = w.heap[k]?) : w'.ownsRow base e size v n vs := by
  refine ⟨h.1, ?_⟩
  rcases h.2 with hn | ⟨g, cap, cur, rfl, hg, hgg, rest⟩
  · exact .inl hn
  · exact .inr ⟨g, cap, cur, rfl, hg, by rw [hb g (by simp [Value.ownBlock])]; exact hgg, rest⟩
theorem lt_of_blk {w : World} {k : Nat} {o : Obj} (h : w.heap[k]? = some o) : k < w.heap.size := (Array.getElem?_eq_some_iff.1 h).1

def DiskF.blocks (f : DiskF) : List Nat := f.gs :: f.wv.ownBlock.toList
/-- where a shelf lies -/
structure ShF where
  g : Nat
  gd : Nat
  cd : Nat
  gm : Nat
  fs : List DiskF
def ShF.blocks (F : ShF) : List Nat := [F.g, F.gd, F.gm] ++ F.fs.flatMap DiskF.blocks
def ShF.setF (F : ShF) (d : Nat) (f : DiskF) : ShF := { F with fs := F.fs.set d f }
def shelfR (s : ShM) (F : ShF) : Array Value :=
  #[.int .i64 s.left, .bool s.stops, .slice (some ⟨F.gd, 0, none⟩) s.disks.length F.cd, .int .i64 (s.sectors : Int), .int .i64 s.count, .map (some F.gm)]
/-- how many writes of a disk's sector wait, as the map says -/
def seenF (s : ShM) (d n : Nat) : Nat := if d < s.disks.length then waitsOf (s.disk d).waits n else 0

theorem ShF.mem_g (F : ShF) : F.g ∈ F.blocks := by simp [ShF.blocks]
theorem ShF.mem_gd (F : ShF) : F.gd ∈ F.blocks := by simp [ShF.blocks]
theorem ShF.mem_gm (F : ShF) : F.gm ∈ F.blocks := by simp [ShF.blocks]
theorem ShF.mem_f (F : ShF) {d : Nat} (h : d < F.fs.length) {b : Nat} (hb : b ∈ (F.fs[d]).blocks) : b ∈ F.blocks := by
  simp only [ShF.blocks, List.mem_append, List.mem_flatMap]
  exact .inr ⟨_, List.getElem_mem h, hb⟩
theorem ShF.mem_cases {F : ShF} {b : Nat} (h : b ∈ F.blocks) : b = F.g ∨ b = F.gd ∨ b = F.gm ∨ ∃ (d : Nat) (h : d < F.fs.length), b ∈ (F.fs[d]).blocks := by
  simp only [ShF.blocks, List.mem_append, List.mem_flatMap, List.mem_cons, List.not_mem_nil, or_false] at h
  rcases h with (h | h | h) | ⟨f, hf, h⟩
  · exact .inl h
  · exact .inr (.inl h)
  · exact .inr (.inr (.inl h))
  · obtain ⟨d, hd, rfl⟩ := List.getElem_of_mem hf
    exact .inr (.inr (.inr ⟨d, hd, h⟩))

/-- no two of its blocks are one -/
structure Sep (F : ShF) : Prop where
  g_gd : F.g ≠ F.gd
  g_gm : F.g ≠ F.gm
  gd_gm : F.gd ≠ F.gm
  out : ∀ d (h : d < F.fs.length), ∀ b ∈ (F.fs[d]).blocks, b ≠ F.g ∧ b ≠ F.gd ∧ b ≠ F.gm
  one : ∀ d (h : d < F.fs.length), (F.fs[d]).wv.ownBlock ≠ some (F.fs[d]).gs
  apart : ∀ d e (h : d < F.fs.length) (h' : e < F.fs.length), d ≠ e → ∀ b ∈ (F.fs[d]).blocks, b ∉ (F.fs[e]).blocks
theorem Sep.setF {F : ShF} (h : Sep F) (d : Nat) (hd : d < F.fs.length) (f : DiskF) (N : Nat) (hN : ∀ b ∈ F.blocks, b < N) (h1 : ∀ b ∈ f.blocks, b ∈ (F.fs[d]).blocks ∨ N ≤ b) (h2 : f.wv.ownBlock ≠ some f.gs) : Sep (F.setF d f) := by
  have hne : ∀ b ∈ f.blocks, ∀ c ∈ F.blocks, c ∉ (F.fs[d]).blocks → b ≠ c := by
    rintro b hb c hc hcd rfl
    rcases h1 b hb with hm | hm
    · exact hcd hm
    · have := hN b hc
      omega
  refine ⟨h.g_gd, h.g_gm, h.gd_gm, ?_, ?_, ?_⟩
  · intro e he b hb
    have he' : e < F.fs.length := by simpa [ShF.setF] using he
    simp only [ShF.setF, List.getElem_set] at hb
    split at hb
    · subst e
      exact ⟨hne b hb _ F.mem_g fun hx => (h.out _ hd _ hx).1 rfl, hne b hb _ F.mem_gd fun hx => (h.out _ hd _ hx).2.1 rfl, hne b hb _ F.mem_gm fun hx => (h.out _ hd _ hx).2.2 rfl⟩
    · exact h.out e he' b hb
  · intro e he
    have he' : e < F.fs.length := by simpa [ShF.setF] using he
    simp only [ShF.setF, List.getElem_set]
    split
    · exact h2
    · exact h.one e he'
  · intro a e ha he hae b hb hb2
    have ha' : a < F.fs.length := by simpa [ShF.setF] using ha
    have he' : e < F.fs.length := by simpa [ShF.setF] using he
    simp only [ShF.setF, List.getElem_set] at hb hb2
    split at hb <;> split at hb2
    · omega
    · subst a
      exact hne b hb b (F.mem_f he' hb2) (fun hx => h.apart _ _ hd he' hae _ hx hb2) rfl
    · subst e
      exact hne b hb2 b (F.mem_f ha' hb) (fun hx => h.apart _ _ ha' hd hae _ hb hx) rfl
    · exact h.apart a e ha' he' hae b hb hb2

/-- the shelf F holds s; its map holds f -/
structure ShAtM (w : World) (F : ShF) (s : ShM) (f : Nat → Nat → Nat) : Prop where
  ok : s.Ok
  st : w.heap[F.g]? = some (.cells (shelfR s F) 70)
  fs : F.fs.length = s.disks.length
  ds : w.ownsRow 0 74 3 (.slice (some ⟨F.gd, 0, none⟩) s.disks.length F.cd) s.disks.length (disksV s.disks F.fs)
  sure : ∀ d (h : d < s.disks.length), w.ownsRow 0 9 1 (.slice (some ⟨(F.fs[d]'(by omega)).gs, 0, none⟩) (s.disks[d]).sure.length (F.fs[d]'(by omega)).cs) (s.disks[d]).sure.length (sureV (s.disks[d]).sure)
  waits : ∀ d (h : d < s.disks.length), w.ownsRow 0 92 2 (F.fs[d]'(by omega)).wv (s.disks[d]).waits.length (waitsV (s.disks[d]).waits)
  seen : MapP w F.gm f
  sep : Sep F
abbrev ShAt (w : World) (F : ShF) (s : ShM) : Prop := ShAtM w F s (seenF s)

section
variable {w w' : World} {F : ShF} {s : ShM} {f : Nat → Nat → Nat}
theorem ShAtM.lt (h : ShAtM w F s f) : ∀ b ∈ F.blocks, b < w.heap.size := by
  intro b hb
  rcases ShF.mem_cases hb with rfl | rfl | rfl | ⟨d, hd, hb⟩
  · exact lt_of_blk h.st
  · exact (World.ownsRow.lt h.ds _ rfl).2
  · exact h.seen.lt
  · simp only [DiskF.blocks, List.mem_cons, Option.mem_toList] at hb
    rcases hb with rfl | hb
    · exact (World.ownsRow.lt (h.sure d (by rw [← h.fs]; exact hd)) _ rfl).2
    · exact (World.ownsRow.lt (h.waits d (by rw [← h.fs]; exact hd)) _ hb).2
theorem ShAtM.of_blocks (h : ShAtM w F s f) (hb : ∀ b ∈ F.blocks, w'.heap[b]? = w.heap[b]?) : ShAtM w' F s f := by
  refine ⟨h.ok, (hb _ F.mem_g).trans h.st, h.fs, ownsRow_same h.ds ?_, fun d hd => ownsRow_same (h.sure d hd) ?_, fun d hd => ownsRow_same (h.waits d hd) ?_, h.seen.of_block (hb _ F.mem_gm), h.sep⟩
  · rintro k e
    injection e with e
    subst e
    exact hb _ F.mem_gd
  · rintro k e
    injection e with e
    subst e
    exact hb _ (F.mem_f (by rw [h.fs]; exact hd) (by simp [DiskF.blocks]))
  · intro k e
    exact hb _ (F.mem_f (by rw [h.fs]; exact hd) (by simp [DiskF.blocks, e]))
theorem ShAtM.below (h : ShAtM w F s f) (hb : Below w.heap.size w w') : ShAtM w' F s f := h.of_blocks fun b hm => hb.block b (h.lt b hm)
theorem ShAtM.alloc (h : ShAtM w F s f) (o : Obj) : ShAtM (w.alloc o) F s f := h.below ((Below.refl _ _).alloc (Nat.le_refl _) _)
theorem ShAtM.drew (h : ShAtM w F s f) : ShAtM w.drew F s f := h.of_blocks fun _ _ => rfl
theorem ShAtM.drewN (h : ShAtM w F s f) (n : Nat) : ShAtM (w.drewN n) F s f := h.of_blocks fun _ _ => rfl
theorem ShAtM.far (h : ShAtM w F s f) {a : Addr} (ha : a.block ∉ F.blocks) (u : Value) : ShAtM (w.setCell a u) F s f :=
  h.of_blocks fun b hb => heap_setCell_other _ _ _ _ (fun e => ha (e ▸ hb))

/-! its cells -/
theorem ShAtM.c0 (h : ShAtM w F s f) : w.cell? ⟨F.g, 0, none⟩ = some (.int .i64 s.left) := (cell_of_row w F.g 0 _ _ _ h.st).trans rfl
theorem ShAtM.c1 (h : ShAtM w F s f) : w.cell? ⟨F.g, 1, none⟩ = some (.bool s.stops) := (cell_of_row w F.g 1 _ _ _ h.st).trans rfl
theorem ShAtM.c2 (h : ShAtM w F s f) : w.cell? ⟨F.g, 2, none⟩ = some (.slice (some ⟨F.gd, 0, none⟩) s.disks.length F.cd) := (cell_of_row w F.g 2 _ _ _ h.st).trans rfl
theorem ShAtM.c3 (h : ShAtM w F s f) : w.cell? ⟨F.g, 3, none⟩ = some (.int .i64 (s.sectors : Int)) := (cell_of_row w F.g 3 _ _ _ h.st).trans rfl
theorem ShAtM.c4 (h : ShAtM w F s f) : w.cell? ⟨F.g, 4, none⟩ = some (.int .i64 s.count) := (cell_of_row w F.g 4 _ _ _ h.st).trans rfl
theorem ShAtM.c5 (h : ShAtM w F s f) : w.cell? ⟨F.g, 5, none⟩ = some (.map (some F.gm)) := (cell_of_row w F.g 5 _ _ _ h.st).trans rfl
theorem ShAtM.frozen (h : ShAtM w F s f) (i : Nat) : w.frozen? ⟨F.g, i, none⟩ = false := frozen_of_row w F.g i _ _ h.st
theorem ShAtM.dcell (h : ShAtM w F s f) {d : Nat} (hd : d < s.disks.length) {j : Nat} (hj : j < 3) : w.cell? ⟨F.gd, d * 3 + j, none⟩ = (diskV (s.disks[d], F.fs[d]'(by rw [h.fs]; exact hd)))[j]? := by
  rw [World.ownsRow.cellAt h.ds (d * 3 + j) (by omega), disksV_get _ _ h.fs d j hd hj]
theorem ShAtM.d0 (h : ShAtM w F s f) {d : Nat} (hd : d < s.disks.length) : w.cell? ⟨F.gd, d * 3, none⟩ = some (.slice (some ⟨(F.fs[d]'(by rw [h.fs]; exact hd)).gs, 0, none⟩) (s.disks[d]).sure.length (F.fs[d]'(by rw [h.fs]; exact hd)).cs) :=
  (h.dcell hd (j := 0) (by omega)).trans rfl
theorem ShAtM.d1 (h : ShAtM w F s f) {d : Nat} (hd : d < s.disks.length) : w.cell? ⟨F.gd, d * 3 + 1, none⟩ = some (F.fs[d]'(by rw [h.fs]; exact hd)).wv := (h.dcell hd (by omega)).trans rfl
theorem ShAtM.d2 (h : ShAtM w F s f) {d : Nat} (hd : d < s.disks.length) : w.cell? ⟨F.gd, d * 3 + 2, none⟩ = some (.bool (s.disks[d]).dead) := (h.dcell hd (by omega)).trans rfl
theorem ShAtM.dfrozen (h : ShAtM w F s f) (i : Nat) : w.frozen? ⟨F.gd, i, none⟩ = false := World.ownsRow.frozenAt h.ds i
theorem ShAtM.sureC (h : ShAtM w F s f) {d n : Nat} (hd : d < s.disks.length) (hn : n < (s.disks[d]).sure.length) : w.cell? ⟨(F.fs[d]'(by rw [h.fs]; exact hd)).gs, n, none⟩ = some (strV (s.disks[d]).sure[n]) := by
  rw [World.ownsRow.cellAt (h.sure d hd) n (by omega)]
  simp [sureV, hn]
theorem ShAtM.sfrozen (h : ShAtM w F s f) {d : Nat} (hd : d < s.disks.length) (i : Nat) : w.frozen? ⟨(F.fs[d]'(by rw [h.fs]; exact hd)).gs, i, none⟩ = false := World.ownsRow.frozenAt (h.sure d hd) i

/-! what turns it -/
theorem ShAtM.setSt (h : ShAtM w F s f) (i : Nat) (u : Value) (s' : ShM) (hr : shelfR s' F = (shelfR s F).setIfInBounds i u) (hd : s'.disks = s.disks) (hs : s'.sectors = s.sectors) : ShAtM (w.setCell ⟨F.g, i, none⟩ u) F s' f := by
  have hk : ∀ b ∈ F.blocks, b ≠ F.g → (w.setCell ⟨F.g, i, none⟩ u).heap[b]? = w.heap[b]? := fun b _ hne => heap_setCell_other _ _ _ _ hne
  have hds : ∀ d (hd : d < F.fs.length), ∀ b ∈ (F.fs[d]).blocks, (w.setCell ⟨F.g, i, none⟩ u).heap[b]? = w.heap[b]? := fun d hd b hb => hk b (F.mem_f hd hb) (h.sep.out d hd b hb).1
  have hok := h.ok
  obtain ⟨l', st', ds', se', co'⟩ := s'
  obtain ⟨l, st, ds, se, co⟩ := s
  subst hd hs
  refine ⟨⟨hok.disks1, hok.disks17, hok.sectors1, hok.sectors4096, hok.sure, hok.sec, hok.waits⟩, ?_, h.fs, ownsRow_same h.ds ?_, fun d hd => ownsRow_same (h.sure d hd) ?_, fun d hd => ownsRow_same (h.waits d hd) ?_, h.seen.of_block (hk _ F.mem_gm h.sep.g_gm.symm), h.sep⟩
  · rw [hr]
    exact heap_setCell_same w F.g i _ _ u h.st
  · rintro k e
    injection e with e
    subst e
    exact hk _ F.mem_gd h.sep.g_gd.symm
  · rintro k e
    injection e with e
    subst e
    exact hds d (by rw [h.fs]; exact hd) _ (by simp [DiskF.blocks])
  · intro k e
    exact hds d (by rw [h.fs]; exact hd) _ (by simp [DiskF.blocks, e])
theorem ShAtM.setLeft (h : ShAtM w F s f) (x : Int) : ShAtM (w.setCell ⟨F.g, 0, none⟩ (.int .i64 x)) F { s with left := x } f := h.setSt 0 _ _ rfl rfl rfl
theorem ShAtM.setStops (h : ShAtM w F s f) (x : Bool) : ShAtM (w.setCell ⟨F.g, 1, none⟩ (.bool x)) F { s with stops := x } f := h.setSt 1 _ _ rfl rfl rfl
theorem ShAtM.setCount (h : ShAtM w F s f) (x : Int) : ShAtM (w.setCell ⟨F.g, 4, none⟩ (.int .i64 x)) F { s with count := x } f := h.setSt 4 _ _ rfl rfl rfl

theorem ShM.Ok.setDisk (h : s.Ok) (d : Nat) (k : DiskM) (h1 : k.sure.length = s.sectors) (h2 : ∀ b ∈ k.sure, b.length = 128) (h3 : ∀ x ∈ k.waits, x.1 < s.sectors ∧ x.2.length = 128) : (s.setDisk d k).Ok := by
  refine ⟨by simpa [ShM.setDisk] using h.disks1, by simpa [ShM.setDisk] using h.disks17, h.sectors1, h.sectors4096, ?_, ?_, ?_⟩
  all_goals
    intro q hq
    simp only [ShM.setDisk] at hq ⊢
    rcases List.mem_or_eq_of_mem_set hq with hq | rfl
  · exact h.sure q hq
  · exact h1
  · exact h.sec q hq
  · exact h2
  · exact h.waits q hq
  · exact h3

theorem ShAtM.upd (h : ShAtM w F s f) (d : Nat) (hd : d < s.disks.length) (k : DiskM) (fd : DiskF) (hok : (s.setDisk d k).Ok)
    (hk : ∀ b ∈ F.blocks, b ≠ F.gd → b ∉ (F.fs[d]'(by rw [h.fs]; exact hd)).blocks → w'.heap[b]? = w.heap[b]?)
    (hds : w'.ownsRow 0 74 3 (.slice (some ⟨F.gd, 0, none⟩) s.disks.length F.cd) s.disks.length (disksV (s.disks.set d k) (F.fs.set d fd)))
    (hsu : w'.ownsRow 0 9 1 (.slice (some ⟨fd.gs, 0, none⟩) k.sure.length fd.cs) k.sure.length (sureV k.sure))
    (hwa : w'.ownsRow 0 92 2 fd.wv k.waits.length (waitsV k.waits))
    (hsep : Sep (F.setF d fd)) : ShAtM w' (F.setF d fd) (s.setDisk d k) f := by
  have hd' : d < F.fs.length := by rw [h.fs]; exact hd
  have hlen : (s.setDisk d k).disks.length = s.disks.length := by simp [ShM.setDisk]
  refine ⟨hok, ?_, by simp [ShF.setF, ShM.setDisk, h.fs], ?_, ?_, ?_, ?_, hsep⟩
  · have e : shelfR (s.setDisk d k) (F.setF d fd) = shelfR s F := by simp [shelfR, ShM.setDisk, ShF.setF]
    rw [e]
    exact (hk _ F.mem_g h.sep.g_gd fun hx => (h.sep.out d hd' _ hx).1 rfl).trans h.st
  · rw [hlen]
    exact hds
  · intro e he
    have he' : e < s.disks.length := by rw [← hlen]; exact he
    simp only [ShM.setDisk, ShF.setF, List.getElem_set]
    split
    · subst e
      exact hsu
    · rename_i hne
      refine ownsRow_same (h.sure e he') ?_
      intro b hb
      injection hb with hb
      subst hb
      exact hk _ (F.mem_f (by rw [h.fs]; exact he') (by simp [DiskF.blocks])) (h.sep.out e (by rw [h.fs]; exact he') _ (by simp [DiskF.blocks])).2.1 (h.sep.apart e d (by rw [h.fs]; exact he') hd' (fun x => hne x.symm) _ (by simp [DiskF.blocks]))
  · intro e he
    have he' : e < s.disks.length := by rw [← hlen]; exact he
    simp only [ShM.setDisk, ShF.setF, List.getElem_set]
    split
    · subst e
      exact hwa
    · rename_i hne
      refine ownsRow_same (h.waits e he') ?_
      intro b hb
      have hm : b ∈ (F.fs[e]'(by rw [h.fs]; exact he')).blocks := by simp [DiskF.blocks, hb]
      exact hk _ (F.mem_f (by rw [h.fs]; exact he') hm) (h.sep.out e (by rw [h.fs]; exact he') _ hm).2.1 (h.sep.apart e d (by rw [h.fs]; exact he') hd' (fun x => hne x.symm) _ hm)
  · exact h.seen.of_block (hk _ F.mem_gm h.sep.gd_gm.symm fun hx => (h.sep.out d hd' _ hx).2.2 rfl)

theorem ShF.setF_self (F : ShF) (d : Nat) (hd : d < F.fs.length) : F.setF d F.fs[d] = F := by simp [ShF.setF]

theorem ShAtM.setDead (h : ShAtM w F s f) {d : Nat} (hd : d < s.disks.length) (x : Bool) :
    ShAtM (w.setCell ⟨F.gd, d * 3 + 2, none⟩ (.bool x)) F (s.setDisk d { s.disks[d] with dead := x }) f := by
  have hd' : d < F.fs.length := by rw [h.fs]; exact hd
  have hmem := List.getElem_mem hd
  have := h.upd (w' := w.setCell ⟨F.gd, d * 3 + 2, none⟩ (.bool x)) d hd { s.disks[d] with dead := x } F.fs[d] (h.ok.setDisk d _ (h.ok.sure s.disks[d] hmem) (h.ok.sec s.disks[d] hmem) (h.ok.waits s.disks[d] hmem))
    (fun b _ h1 _ => heap_setCell_other _ _ _ _ h1)
    (by rw [← disksV_set _ _ h.fs d 2 hd (by omega) _ _ (.bool x) rfl]; exact (World.ownsRow.stored h.ds _ _).1)
    (ownsRow_same (h.sure d hd) fun k e => heap_setCell_other _ _ _ _ (by injection e with e; subst e; exact (h.sep.out d hd' _ (by simp [DiskF.blocks])).2.1))
    (ownsRow_same (h.waits d hd) fun k e => heap_setCell_other _ _ _ _ (h.sep.out d hd' _ (by simp [DiskF.blocks, e])).2.1)
    (by rw [ShF.setF_self]; exact h.sep)
  rw [ShF.setF_self] at this
  exact this

theorem ShAtM.setSure (h : ShAtM w F s f) {d n : Nat} (hd : d < s.disks.length) (b : Bytes) (hb : b.length = 128) :
    ShAtM (w.setCell ⟨(F.fs[d]'(by rw [h.fs]; exact hd)).gs, n, none⟩ (strV b)) F (s.setDisk d { s.disks[d] with sure := (s.disks[d]).sure.set n b }) f := by
  have hd' : d < F.fs.length := by rw [h.fs]; exact hd
  have hmem := List.getElem_mem hd
  have hgs : (F.fs[d]).gs ∈ (F.fs[d]).blocks := by simp [DiskF.blocks]
  have hsame := (World.ownsRow.stored (h.sure d hd) n (strV b)).1
  have hok : (s.setDisk d { s.disks[d] with sure := (s.disks[d]).sure.set n b }).Ok := h.ok.setDisk d _ (by simpa using h.ok.sure s.disks[d] hmem) (by
      intro x hx
      rcases List.mem_or_eq_of_mem_set hx with hx | rfl
      · exact h.ok.sec s.disks[d] hmem x hx
      · exact hb) (h.ok.waits s.disks[d] hmem)
  have hds : disksV (s.disks.set d { s.disks[d] with sure := (s.disks[d]).sure.set n b }) (F.fs.set d F.fs[d]) = disksV s.disks F.fs := by
    rw [← disksV_set _ _ h.fs d 2 hd (by omega) _ _ (.bool (s.disks[d]).dead) (by simp [diskV])]
    have e := disksV_get _ _ h.fs d 2 hd (by omega)
    exact List.ext_getElem? fun i => by
      rw [List.getElem?_set]
      split
      · subst i
        rw [e]
        split
        · rfl
        · rename_i hlt
          rw [disksV_len _ _ h.fs] at hlt
          omega
      · rfl
  have := h.upd (w' := w.setCell ⟨(F.fs[d]).gs, n, none⟩ (strV b)) d hd { s.disks[d] with sure := (s.disks[d]).sure.set n b } F.fs[d] hok
    (fun b _ _ h2 => heap_setCell_other _ _ _ _ fun e => h2 (e ▸ hgs))
    (by rw [hds]; exact ownsRow_same h.ds fun k e => heap_setCell_other _ _ _ _ (by injection e with e; subst e; exact (h.sep.out d hd' _ hgs).2.1.symm))
    (by simpa [sureV, List.map_set] using hsame)
    (ownsRow_same (h.waits d hd) fun k e => heap_setCell_other _ _ _ _ (fun e2 => h.sep.one d hd' (by rw [e, e2])))
    (by rw [ShF.setF_self]; exact h.sep)
  rw [ShF.setF_self] at this
  exact this

/-- the slice of what waits is stored; the row itself may have turned just before -/
theorem ShAtM.storeW (h : ShAtM w F s f) {d : Nat} (hd : d < s.disks.length) (v : Value) (ws : List (Nat × Bytes)) (hws : ∀ x ∈ ws, x.1 < s.sectors ∧ x.2.length = 128)
    (hrow : w'.ownsRow 0 92 2 v ws.length (waitsV ws)) (hsz : w.heap.size ≤ w'.heap.size)
    (hk : ∀ b, b < w.heap.size → (F.fs[d]'(by rw [h.fs]; exact hd)).wv.ownBlock ≠ some b → w'.heap[b]? = w.heap[b]?)
    (hv : ∀ b, v.ownBlock = some b → (F.fs[d]'(by rw [h.fs]; exact hd)).wv.ownBlock = some b ∨ w.heap.size ≤ b) :
    ShAtM (w'.setCell ⟨F.gd, d * 3 + 1, none⟩ v) (F.setF d { F.fs[d]'(by rw [h.fs]; exact hd) with wv := v }) (s.setDisk d { s.disks[d] with waits := ws }) f := by
  have hd' : d < F.fs.length := by rw [h.fs]; exact hd
  have hmem := List.getElem_mem hd
  have hgs : (F.fs[d]).gs ∈ (F.fs[d]).blocks := by simp [DiskF.blocks]
  have hgd : w'.heap[F.gd]? = w.heap[F.gd]? := hk _ (h.lt _ F.mem_gd) fun e => (h.sep.out d hd' F.gd (by simp [DiskF.blocks, e])).2.1 rfl
  have hds' : w'.ownsRow 0 74 3 (.slice (some ⟨F.gd, 0, none⟩) s.disks.length F.cd) s.disks.length (disksV s.disks F.fs) := ownsRow_same h.ds fun k e => by injection e with e; subst e; exact hgd
  have hsu : (w'.setCell ⟨F.gd, d * 3 + 1, none⟩ v).heap[(F.fs[d]).gs]? = w.heap[(F.fs[d]).gs]? := (heap_setCell_other _ _ _ _ (h.sep.out d hd' _ hgs).2.1).trans (hk _ (h.lt _ (F.mem_f hd' hgs)) (h.sep.one d hd'))
  refine h.upd d hd { s.disks[d] with waits := ws } { F.fs[d] with wv := v } (h.ok.setDisk d _ (h.ok.sure s.disks[d] hmem) (h.ok.sec s.disks[d] hmem) hws) ?_ ?_ ?_ ?_ ?_
  · intro b hb h1 h2
    exact (heap_setCell_other _ _ _ _ h1).trans (hk b (h.lt b hb) fun e => h2 (by simp [DiskF.blocks, e]))
  · rw [← disksV_set _ _ h.fs d 1 hd (by omega) _ _ v rfl]
    exact (World.ownsRow.stored hds' _ _).1
  · exact ownsRow_same (h.sure d hd) fun k e => by injection e with e; subst e; exact hsu
  · refine ownsRow_same hrow fun k e => heap_setCell_other _ _ _ _ ?_
    rcases hv k e with h1 | h1
    · exact (h.sep.out d hd' k (by simp [DiskF.blocks, h1])).2.1
    · have := h.lt _ F.mem_gd
      intro e2
      have e3 : k = F.gd := e2
      omega
  · refine h.sep.setF d hd' _ w.heap.size h.lt ?_ ?_
    · intro b hb
      simp only [DiskF.blocks, List.mem_cons, Option.mem_toList] at hb ⊢
      rcases hb with rfl | hb
      · exact .inl (.inl rfl)
      · rcases hv b hb with h1 | h1
        · exact .inl (.inr h1)
        · exact .inr h1
    · intro e
      rcases hv _ e with h1 | h1
      · exact h.sep.one d hd' h1
      · have := h.lt _ (F.mem_f hd' hgs)
        simp at h1
        omega

theorem ShAtM.map (h : ShAtM w F s f) {f' : Nat → Nat → Nat} (hk : ∀ b, b ≠ F.gm → w'.heap[b]? = w.heap[b]?) (hm : MapP w' F.gm f') : ShAtM w' F s f' := by
  have hds : ∀ d (hd : d < F.fs.length), ∀ b ∈ (F.fs[d]).blocks, w'.heap[b]? = w.heap[b]? := fun d hd b hb => hk b (h.sep.out d hd b hb).2.2
  refine ⟨h.ok, (hk _ h.sep.g_gm).trans h.st, h.fs, ownsRow_same h.ds ?_, fun d hd => ownsRow_same (h.sure d hd) ?_, fun d hd => ownsRow_same (h.waits d hd) ?_, hm, h.sep⟩
  · rintro k e
    injection e with e
    subst e
    exact hk _ h.sep.gd_gm
  · rintro k e
    injection e with e
    subst e
    exact hds d (by rw [h.fs]; exact hd) _ (by simp [DiskF.blocks])
  · intro k e
    exact hds d (by rw [h.fs]; exact hd) _ (by simp [DiskF.blocks, e])
end

/-- only these blocks, and new ones, have turned -/
structure Turns (B : List Nat) (w w' : World) : Prop where
  os : w'.os = w.os
  tape : w'.tape = w.tape
  output : w'.output = w.output
  size : w.heap.size ≤ w'.heap.size
  block : ∀ k, k < w.heap.size → k ∉ B → w'.heap[k]? = w.heap[k]?
theorem Turns.refl (B : List Nat) (w : World) : Turns B w w := ⟨rfl, rfl, rfl, Nat.le_refl _, fun _ _ _ => rfl⟩
theorem Turns.below {B : List Nat} {w w' : World} {b : Nat} (h : Turns B w w') (hB : ∀ k ∈ B, b ≤ k) (hb : b ≤ w.heap.size) : Below b w w' :=
  ⟨h.os, h.tape, h.output, h.size, fun k hk => h.block k (by omega) fun hm => by have := hB k hm; omega⟩
theorem Turns.of_below {B : List Nat} {w w' : World} (h : Below w.heap.size w w') : Turns B w w' :=
  ⟨h.os, h.tape, h.output, h.size, fun k hk _ => h.block k hk⟩
theorem Turns.trans {B : List Nat} {a b c : World} (h : Turns B a b) (k : Turns B b c) : Turns B a c :=
  ⟨k.os.trans h.os, k.tape.trans h.tape, k.output.trans h.output, Nat.le_trans h.size k.size, fun i hi hn => (k.block i (Nat.lt_of_lt_of_le hi h.size) hn).trans (h.block i hi hn)⟩
theorem Turns.setCell {B : List Nat} {w w' : World} (h : Turns B w w') {a : Addr} (ha : a.block ∈ B) (u : Value) : Turns B w (w'.setCell a u) :=
  ⟨h.os, h.tape, h.output, by simpa using h.size, fun k hk hn => (heap_setCell_other _ _ _ _ fun e => hn (by rw [e]; exact ha)).trans (h.block k hk hn)⟩
theorem Turns.alloc {B : List Nat} {w w' : World} (h : Turns B w w') (o : Obj) : Turns B w (w'.alloc o) :=
  ⟨h.os, h.tape, h.output, by simpa using Nat.le_succ_of_le h.size, fun k hk hn => (heap_alloc_old w' o (Nat.lt_of_lt_of_le hk h.size)).trans (h.block k hk hn)⟩
theorem Turns.drew {B : List Nat} {w w' : World} (h : Turns B w w') : Turns B w w'.drew := ⟨h.os, h.tape, h.output, h.size, h.block⟩
theorem Turns.drewN {B : List Nat} {w w' : World} (h : Turns B w w') (n : Nat) : Turns B w (w'.drewN n) := ⟨h.os, h.tape, h.output, h.size, h.block⟩
theorem Turns.mono {B B' : List Nat} {w w' : World} (h : Turns B w w') (hs : ∀ b ∈ B, b ∈ B') : Turns B' w w' :=
  ⟨h.os, h.tape, h.output, h.size, fun k hk hn => h.block k hk fun hm => hn (hs k hm)⟩
theorem Turns.setBlk {B : List Nat} {w w' : World} (h : Turns B w w') {b : Nat} (hb : b ∈ B) (o : Obj) : Turns B w (setBlk w' b o) :=
  ⟨h.os, h.tape, h.output, by simpa [Go.Proofs.Ytikfbhepnnbdoaa.setBlk] using h.size, fun k hk hn => by
    rw [← h.block k hk hn]
    have hne : b ≠ k := fun e => hn (e ▸ hb)
    simp only [Go.Proofs.Ytikfbhepnnbdoaa.setBlk, Array.getElem?_setIfInBounds_ne hne]⟩
theorem Turns.grown {B : List Nat} {w w1 w2 : World} {v : Value} (h : Turns B w w1) (hg : w1.grownBy w2 v.ownBlock) (hv : ∀ k, v.ownBlock = some k → k ∈ B ∨ w.heap.size ≤ k) : Turns B w w2 :=
  ⟨hg.os.trans h.os, hg.tape.trans h.tape, hg.output.trans h.output, Nat.le_trans h.size hg.size, fun k hk hn => (hg.block k (Nat.lt_of_lt_of_le hk h.size) (fun e => by
    rcases hv k e.symm with h1 | h1
    · exact hn h1
    · omega)).trans (h.block k hk hn)⟩

/-- a call of the shelf has gone from w to w': the shelf lies in F' now -/
structure ShTo (w : World) (F : ShF) (w' : World) (F' : ShF) : Prop where
  turns : Turns F.blocks w w'
  g : F'.g = F.g
  news : ∀ b ∈ F'.blocks, b ∈ F.blocks ∨ w.heap.size ≤ b
theorem ShTo.refl (w : World) (F : ShF) : ShTo w F w F := ⟨Turns.refl _ _, rfl, fun _ h => .inl h⟩
theorem ShTo.same {w w' : World} {F : ShF} (h : Turns F.blocks w w') : ShTo w F w' F := ⟨h, rfl, fun _ h => .inl h⟩
theorem ShTo.trans {a b c : World} {F G H : ShF} (h : ShTo a F b G) (k : ShTo b G c H) : ShTo a F c H :=
  ⟨⟨k.turns.os.trans h.turns.os, k.turns.tape.trans h.turns.tape, k.turns.output.trans h.turns.output, Nat.le_trans h.turns.size k.turns.size, fun i hi hn => (k.turns.block i (Nat.lt_of_lt_of_le hi h.turns.size) (fun hm => by
      rcases h.news i hm with h1 | h1
      · exact hn h1
      · omega)).trans (h.turns.block i hi hn)⟩, k.g.trans h.g, fun b hb => by
      rcases k.news b hb with h1 | h1
      · exact h.news b h1
      · exact .inr (Nat.le_trans h.turns.size h1)⟩
theorem ShTo.then_ {a b c : World} {F G : ShF} (h : ShTo a F b G) (k : Turns G.blocks b c) : ShTo a F c G := h.trans (ShTo.same k)
/-- .. and whoever's blocks all lie at base or beyond -/
theorem ShTo.base {w w' : World} {F F' : ShF} (h : ShTo w F w' F') {base : Nat} (hB : ∀ b ∈ F.blocks, base ≤ b) (hb : base ≤ w.heap.size) : Below base w w' ∧ ∀ b ∈ F'.blocks, base ≤ b :=
  ⟨h.turns.below hB hb, fun b hm => by
    rcases h.news b hm with h1 | h1
    · exact hB b h1
    · omega⟩
/-- another shelf stays -/
theorem ShTo.other {w w' : World} {F F' G : ShF} {s : ShM} {f : Nat → Nat → Nat} (h : ShTo w F w' F') (hG : ShAtM w G s f) (hd : ∀ b ∈ G.blocks, b ∉ F.blocks) : ShAtM w' G s f ∧ ∀ b ∈ G.blocks, b ∉ F'.blocks :=
  ⟨hG.of_blocks fun b hb => h.turns.block b (hG.lt b hb) (hd b hb), fun b hb hm => by
    rcases h.news b hm with h1 | h1
    · exact hd b hb h1
    · have := hG.lt b hb
      omega⟩
end Go.Proofs.Ytikfbhepnnbdoaa

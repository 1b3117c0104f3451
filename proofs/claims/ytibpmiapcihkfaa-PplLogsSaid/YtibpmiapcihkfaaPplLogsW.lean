/-
  THE WALK of PplLogs.
-/
import Derived.Test.YtibpmiapcihkfaaPpTab
import Derived.Test.YtibpmiapcihkfaaPpV
import Derived.Test.YtibpmiapcihkfaaPpQ
import Derived.Test.YtibpmiapcihkfaaHeldTail
namespace Go.Proofs.Ytibpmiapcihkfaa
set_option linter.all false
open Go.RowKit

theorem made_recs (n : Nat) (h8 : n ≤ 8) : ∃ cur : Array Value, cur.size = n * 3 ∧ ∀ W : World, (Instr.makeSlice 45 (.int .i64 (n : Int)) (.int .i64 (n : Int))).run Try.prog W = .ok (.slice (some ⟨W.heap.size, 0, none⟩) n n) (W.alloc (.cells cur 24)) := by
  obtain ⟨i0, hi0, hz0, hz1, hz2⟩ := info_parts Try.infoRec
  refine ⟨madeCells (Value.agg #[.int .i64 0, .int .i64 0, .slice none 0 0]).cells (n * 3), by simp [madeCells], fun W => ?_⟩
  have h := run_make (P := Try.prog) (w := W) 45 24 i0 _ Try.underlying45 hi0 hz0 .i64 .i64 (n : Int) (n : Int) (by omega) (Int.le_refl _) (by rw [hz2]; omega) (by omega)
  simp only [hz1, Int.toNat_natCast] at h
  exact h
theorem Try.infoBoolL : (Try.prog.info? 4).map (fun i => (i.zero, i.size, i.bytes)) = some (some (.bool false), 1, 1) := by kernel_rfl
theorem made_bools (n : Nat) (h8 : n ≤ 8) : ∀ W : World, (Instr.makeSlice 46 (.int .i64 (n : Int)) (.int .i64 (n : Int))).run Try.prog W = .ok (.slice (some ⟨W.heap.size, 0, none⟩) n n) (W.alloc (.cells (boolsH n fun _ => none).toArray 4)) := by
  obtain ⟨i0, hi0, hz0, hz1, hz2⟩ := info_parts Try.infoBoolL
  intro W
  have h := run_make (P := Try.prog) (w := W) 46 4 i0 (.bool false) Try.underlying46 hi0 hz0 .i64 .i64 (n : Int) (n : Int) (by omega) (Int.le_refl _) (by rw [hz2]; omega) (by omega)
  simp only [hz1, Int.toNat_natCast, Nat.mul_one] at h
  rw [h]
  have e1 : madeCells (Value.bool false).cells n = (boolsH n fun _ => none).toArray := by
    apply Array.toList_inj.1
    show (madeCells #[Value.bool false] n).toList = _
    rw [toList_madeCells_one]
    simp [boolsH]
    rw [List.map_const']
    simp
  rw [e1]
theorem same_below {W W' : World} {ib k q o : Nat} {hb : Nat} {v u0 u1 u2 x0 x1 x2 : Value} {A B : Option Addr} {xs ys : List UInt8}
    (h : W.cell? ⟨ib, k, none⟩ = some v ∧ (W.cell? ⟨q, 0, none⟩ = some u0 ∧ W.cell? ⟨q, 1, none⟩ = some u1 ∧ W.cell? ⟨q, 2, none⟩ = some u2) ∧ (W.cell? ⟨hb, o, none⟩ = some x0 ∧ W.cell? ⟨hb, o + 1, none⟩ = some x1 ∧ W.cell? ⟨hb, o + 2, none⟩ = some x2) ∧ Rd W A xs ∧ Rd W B ys)
    (hb_ : Below W.heap.size W W') :
    W'.cell? ⟨ib, k, none⟩ = some v ∧ (W'.cell? ⟨q, 0, none⟩ = some u0 ∧ W'.cell? ⟨q, 1, none⟩ = some u1 ∧ W'.cell? ⟨q, 2, none⟩ = some u2) ∧ (W'.cell? ⟨hb, o, none⟩ = some x0 ∧ W'.cell? ⟨hb, o + 1, none⟩ = some x1 ∧ W'.cell? ⟨hb, o + 2, none⟩ = some x2) ∧ Rd W' A xs ∧ Rd W' B ys := by
  have key : ∀ {p : Addr} {y : Value}, W.cell? p = some y → W'.cell? p = some y := fun hp => (hb_.cell (World.block_lt_of_cell? _ _ hp)).trans hp
  exact ⟨key h.1, ⟨key h.2.1.1, key h.2.1.2.1, key h.2.1.2.2⟩, ⟨key h.2.2.1.1, key h.2.2.1.2.1, key h.2.2.1.2.2⟩, h.2.2.2.1.below hb_, h.2.2.2.2.below hb_⟩
theorem flat_recs (xs : List (Rec × Option Addr × Nat)) : ∀ (k j : Nat) (h : k < xs.length), j < 3 → (xs.flatMap recCells)[k * 3 + j]? = (recCells xs[k])[j]? := by
  induction xs with
  | nil => intro k j h; simp at h
  | cons x xs ih =>
    intro k j h hj
    rw [List.flatMap_cons]
    cases k with
    | zero =>
      rw [List.getElem?_append_left (by simp [recCells]; omega)]
      simp
    | succ k =>
      rw [List.getElem?_append_right (by simp [recCells]; omega)]
      have e : (k + 1) * 3 + j - (recCells x).length = k * 3 + j := by simp [recCells]; omega
      rw [e, ih k j (by simpa using h) hj]
      simp
theorem recsat_cells {w : World} {base n c : Nat} {Z : Nat → Prop} {A : Option Addr} {xs : List (Rec × Option Addr × Nat)} (h : RecsAt w base Z (.slice A n c) xs) (hl : xs.length ≤ 1000) {k : Nat} (hk : k < xs.length) :
    ∃ g, A = some ⟨g, 0, none⟩ ∧ w.cell? ⟨g, k * 3, none⟩ = some (.int .i64 xs[k].1.stripe) ∧ w.cell? ⟨g, k * 3 + 1, none⟩ = some (.int .i64 xs[k].1.place) ∧ w.cell? ⟨g, k * 3 + 2, none⟩ = some (.slice xs[k].2.1 xs[k].1.part.length xs[k].2.2) := by
  have hrd := ownsRow_rd h.row (by rw [recCells_len]; omega)
  have hlen := recCells_len xs
  obtain ⟨A', c', hv, _, hg⟩ := ownsRow_form h.row
  injection hv with e1
  subst e1
  obtain ⟨ad, rfl⟩ := hrd.some_ (i := 0) (by omega)
  obtain ⟨g, rfl, _, _⟩ := hg ad rfl
  have key : ∀ j, j < 3 → w.cell? ⟨g, k * 3 + j, none⟩ = (recCells xs[k])[j]? := fun j hj => by
    have h1 := hrd.cell (k * 3 + j) (by omega)
    rw [← flat_recs xs k j hk hj, List.getElem?_eq_getElem (by omega)]
    rw [← h1]
    congr 1
    simp [Addr.add]
  exact ⟨g, rfl, (key 0 (by omega)).trans rfl, (key 1 (by omega)).trans rfl, (key 2 (by omega)).trans rfl⟩
theorem fm_none (L : Nat → Option Rec) {k : Nat} (h : L k = none) : ((List.range (k + 1)).filterMap L).length = ((List.range k).filterMap L).length := by
  rw [List.range_succ, List.filterMap_append]
  simp [h]
theorem fm_some (L : Nat → Option Rec) {k : Nat} {r : Rec} (h : L k = some r) : ((List.range (k + 1)).filterMap L).length = ((List.range k).filterMap L).length + 1 := by
  rw [List.range_succ, List.filterMap_append]
  simp [h]
theorem fm_at (L : Nat → Option Rec) {n k : Nat} (xs : List RecX) (hq : xs.map (·.1) = (List.range n).filterMap L) (hk : k < n) {r : Rec} (h : L k = some r) {jj : Nat} (hjj : jj = ((List.range k).filterMap L).length) :
    ∃ hj : jj < xs.length, (xs[jj]).1 = r := by
  subst hjj
  have e : List.range n = List.range k ++ k :: (List.range (n - k - 1)).map (k + 1 + ·) := by
    apply List.ext_getElem?
    intro i
    by_cases h1 : i < k
    · rw [List.getElem?_append_left (by simpa using h1)]
      simp [h1, Nat.lt_trans h1 hk]
    · rw [List.getElem?_append_right (by simp; omega)]
      simp only [List.length_range]
      by_cases h2 : i = k
      · subst h2; simp [hk]
      · obtain ⟨j, hj⟩ : ∃ j, i - k = j + 1 := ⟨i - k - 1, by omega⟩
        rw [hj, List.getElem?_cons_succ, List.getElem?_map]
        by_cases h3 : i < n
        · simp [List.getElem?_range, h3, show j < n - k - 1 by omega]; omega
        · rw [List.getElem?_eq_none (by simpa using h3), List.getElem?_eq_none (by simp; omega)]; rfl
  have e2 : (xs.map (·.1))[((List.range k).filterMap L).length]? = some r := by
    rw [hq, e, List.filterMap_append, List.getElem?_append_right (Nat.le_refl _)]
    simp [h]
  rw [List.getElem?_map] at e2
  cases hx : xs[((List.range k).filterMap L).length]? with
  | none => rw [hx] at e2; cases e2
  | some y =>
    obtain ⟨h1, h2⟩ := List.getElem?_eq_some_iff.1 hx
    rw [hx] at e2
    refine ⟨h1, ?_⟩
    rw [h2]
    simpa using e2
theorem same_below2 {W W' : World} {ib k q u o : Nat} {hb : Nat} {v u0 u1 u2 x0 x1 x2 : Value} {A B : Option Addr} {xs ys : List UInt8}
    (h : W.cell? ⟨ib, k, none⟩ = some v ∧ (W.cell? ⟨q, u, none⟩ = some u0 ∧ W.cell? ⟨q, u + 1, none⟩ = some u1 ∧ W.cell? ⟨q, u + 2, none⟩ = some u2) ∧ (W.cell? ⟨hb, o, none⟩ = some x0 ∧ W.cell? ⟨hb, o + 1, none⟩ = some x1 ∧ W.cell? ⟨hb, o + 2, none⟩ = some x2) ∧ Rd W A xs ∧ Rd W B ys)
    (hb_ : Below W.heap.size W W') :
    W'.cell? ⟨ib, k, none⟩ = some v ∧ (W'.cell? ⟨q, u, none⟩ = some u0 ∧ W'.cell? ⟨q, u + 1, none⟩ = some u1 ∧ W'.cell? ⟨q, u + 2, none⟩ = some u2) ∧ (W'.cell? ⟨hb, o, none⟩ = some x0 ∧ W'.cell? ⟨hb, o + 1, none⟩ = some x1 ∧ W'.cell? ⟨hb, o + 2, none⟩ = some x2) ∧ Rd W' A xs ∧ Rd W' B ys := by
  have key : ∀ {p : Addr} {y : Value}, W.cell? p = some y → W'.cell? p = some y := fun hp => (hb_.cell (World.block_lt_of_cell? _ _ hp)).trans hp
  exact ⟨key h.1, ⟨key h.2.1.1, key h.2.1.2.1, key h.2.1.2.2⟩, ⟨key h.2.2.1.1, key h.2.2.1.2.1, key h.2.2.1.2.2⟩, h.2.2.2.1.below hb_, h.2.2.2.2.below hb_⟩
theorem upd_some (H : Nat → Option RecX) (k : Nat) (x : RecX) : (fun j => (updH H k (some x) j).map (·.1)) = fun j => if j = k then some x.1 else (H j).map (·.1) := by
  funext j; unfold updH; split <;> rfl
theorem upd_none (H : Nat → Option RecX) (k : Nat) : (fun j => (updH H k none j).map (·.1)) = fun j => if j = k then none else (H j).map (·.1) := by
  funext j; unfold updH; split <;> rfl
def OpC (w : World) (b o : Nat) (kind slot : Int) (r : Rec) (ra : Option Addr) (rc : Nat) : Prop :=
  w.cell? ⟨b, o, none⟩ = some (.int .i64 kind) ∧ w.cell? ⟨b, o + 1, none⟩ = some (.int .i64 slot) ∧ w.cell? ⟨b, o + 2, none⟩ = some (.int .i64 r.stripe) ∧ w.cell? ⟨b, o + 3, none⟩ = some (.int .i64 r.place) ∧ w.cell? ⟨b, o + 4, none⟩ = some (.slice ra r.part.length rc)
theorem OpC.below {w w' : World} {b o base : Nat} {kind slot : Int} {r : Rec} {ra : Option Addr} {rc : Nat} (h : OpC w b o kind slot r ra rc) (hB : Below base w w') (hb : b < base) : OpC w' b o kind slot r ra rc :=
  ⟨(hB.cell hb).trans h.1, (hB.cell hb).trans h.2.1, (hB.cell hb).trans h.2.2.1, (hB.cell hb).trans h.2.2.2.1, (hB.cell hb).trans h.2.2.2.2⟩
theorem TabR.drew {w : World} {hb ib n base : Nat} {H : Nat → Option RecX} (h : TabR w hb ib n base H) : TabR w.drew hb ib n base H := h.kept (Below.refl _ _).drew rfl rfl
theorem TabR.room' {w : World} {hb ib n base : Nat} {H : Nat → Option RecX} (h : TabR w hb ib n base H) {i : Nat} (hi : i < n * 3) : ∃ v, w.cell? ⟨hb, i, none⟩ = some v ∧ w.frozen? ⟨hb, i, none⟩ = false := by
  obtain ⟨h1, h2⟩ := h.room hi
  obtain ⟨v, hv⟩ := Option.isSome_iff_exists.1 h1
  exact ⟨v, hv, h2⟩
section
variable {w w' W : World} {hb ib n base l a g : Nat} {H : Nat → Option RecX} {s : ShM} {D : DevM}
theorem DvX.other (hD : DvX (fun b => (b < base ∨ b = l) ∨ b = hb ∨ b = ib) a g w s D) (hs : w'.heap.size = w.heap.size) (h : ∀ b, b ≠ hb → b ≠ ib → w'.heap[b]? = w.heap[b]?) : DvX (fun b => (b < base ∨ b = l) ∨ b = hb ∨ b = ib) a g w' s D :=
  hD.turn (Nat.le_of_eq hs.symm) (fun b _ hnx => h b (fun e => hnx (.inr (.inl e))) (fun e => hnx (.inr (.inr e)))) fun b hx => ⟨by rw [hs]; exact hD.lt b hx, .inl hx⟩
theorem TabR.putAll (h : TabR w hb ib n base H) {k : Nat} (hk : k < n) (x : RecX) (hx : Rd w x.2.1 x.1.part) (hxl : ∀ ad, x.2.1 = some ad → 0 < x.1.part.length → ad.block < base)
    (hD : DvX (fun b => (b < base ∨ b = l) ∨ b = hb ∨ b = ib) a g w s D) (hl : LogRow w l a n) (hB : Below base W w) (h1 : hb ≠ l) (h2 : ib ≠ l) (w' : World)
    (hw : w' = (((w.setCell ⟨hb, k * 3, none⟩ (.int .i64 x.1.stripe)).setCell ⟨hb, k * 3 + 1, none⟩ (.int .i64 x.1.place)).setCell ⟨hb, k * 3 + 2, none⟩ (.slice x.2.1 x.1.part.length x.2.2)).setCell ⟨ib, k, none⟩ (.bool true)) :
    Hid (TabR w' hb ib n base (updH H k (some x))) ∧ Hid (LogRow w' l a n) ∧ DvX (fun b => (b < base ∨ b = l) ∨ b = hb ∨ b = ib) a g w' s D ∧ Below base W w' := by
  obtain ⟨p1, p2⟩ := h.put hk x hx hxl
  rw [← hw] at p1 p2
  refine ⟨Lib.hid p1, Lib.hid ((p2 l (fun e => h1 e.symm) (fun e => h2 e.symm)).trans hl), hD.other (by rw [hw]; simp) p2, ?_⟩
  rw [hw]
  exact (((hB.setCell (p := ⟨hb, k * 3, none⟩) h.low.1 _).setCell (p := ⟨hb, k * 3 + 1, none⟩) h.low.1 _).setCell (p := ⟨hb, k * 3 + 2, none⟩) h.low.1 _).setCell (p := ⟨ib, k, none⟩) h.low.2 _
theorem TabR.offAll (h : TabR w hb ib n base H) (k : Nat)
    (hD : DvX (fun b => (b < base ∨ b = l) ∨ b = hb ∨ b = ib) a g w s D) (hl : LogRow w l a n) (hB : Below base W w) (h2 : ib ≠ l) (w' : World)
    (hw : w' = w.setCell ⟨ib, k, none⟩ (.bool false)) :
    Hid (TabR w' hb ib n base (updH H k none)) ∧ Hid (LogRow w' l a n) ∧ DvX (fun b => (b < base ∨ b = l) ∨ b = hb ∨ b = ib) a g w' s D ∧ Below base W w' := by
  have p1 := h.off k
  have p2 : ∀ b, b ≠ ib → w'.heap[b]? = w.heap[b]? := fun b hne => by rw [hw]; exact heap_setCell_other w ⟨ib, k, none⟩ b _ hne
  rw [← hw] at p1
  refine ⟨Lib.hid p1, Lib.hid ((p2 l (fun e => h2 e.symm)).trans hl), hD.other (by rw [hw]; simp) (fun b _ hne => p2 b hne), ?_⟩
  rw [hw]
  exact hB.setCell (p := ⟨ib, k, none⟩) h.low.2 _
end
theorem tab_fresh (w : World) (base n : Nat) (cur0 : Array Value) (hcz : cur0.size = n * 3) (hb : base ≤ w.heap.size) :
    TabR ((w.alloc (.cells cur0 24)).alloc (.cells (boolsH n fun _ => none).toArray 4)) w.heap.size (w.heap.size + 1) n base (fun _ => none) := by
  refine ⟨⟨cur0, ?_, hcz, fun k _ x hx => by cases hx⟩, ?_, by omega, fun k _ x hx => (by cases hx), hb, by omega⟩
  · rw [heap_alloc_old _ _ (by simp)]
    exact heap_alloc_new _ _
  · have h := heap_alloc_new (w.alloc (.cells cur0 24)) (.cells (boolsH n fun _ => none).toArray 4)
    simpa using h
set_option maxRecDepth 100000 in
set_option maxHeartbeats 16000000 in
theorem logs_bad (slots : Int) (B : Option Addr) (m d : Nat) (w : World) (hs0 : -9223372036854775808 ≤ slots) (hs1 : slots ≤ 9223372036854775807) (hx : slots < 1 ∨ (1 ≤ slots ∧ 8 < slots)) :
    Calls Try.prog 6 #[.int .i64 slots, .slice B m d] w fun e w' => e = .returned (.bool true) ∧ Below w.heap.size w w' := by
  have hnew := lx_new (X := fun b => b < w.heap.size) (w := w) (fun _ h => h) 1 40 (by omega) (by omega) (by omega) (by omega)
  rw [show ((1 : Nat) : Int) = 1 from rfl, show ((40 : Nat) : Int) = 40 from rfl] at hnew
  have hrf := run_fresh 1 40 0 (by omega) (by omega) (by omega) (by omega) (by omega)
  have hrm : Room 100 (freshSh 1 40) := (room_fresh 1 40).mono (by omega)
  have hfd : freshDev (freshSh 1 40) 0 = ⟨0, 37, -1⟩ := rfl
  generalize freshSh 1 40 = s0 at *
  rcases hx with hx | ⟨hx, hx2⟩
  all_goals
    go_enter Try.func6, Try.ntmps6
    go_wp2_with fail
    refine hnew.mono ?_
    rintro e w1 ⟨g, rfl, hS1, hB1⟩
    have hct := ls_open hS1 0 hrf hrm
    rw [show ((0 : Nat) : Int) = 0 from rfl, hfd] at hct
    clear hnew hrf hrm hfd
    go_wp2_with fail
    with_reducible refine hct.mono ?_
    rintro e w2 ⟨a, rfl, _, h2, hb2⟩
    have hB2 := below_to hB1 hb2
    have hop := lg_open_bad h2.dv slots hs0 hs1 (by omega)
    clear hct hS1 hB1 hb2
    go_wp2_with fail
    with_reducible refine hop.mono ?_
    rintro e w3 ⟨rfl, rfl⟩
    clear hop h2
    go_wp2_with fail
    refine (lives07 w2).mono ?_
    rintro e w4 ⟨rfl, hb4⟩
    have hB4 := below_to hB2 hb4
    go_wp2
    go_ret
    exact ⟨by simp, hB4⟩
set_option maxRecDepth 100000 in
set_option maxHeartbeats 16000000 in
theorem logs_ok (n : Nat) (h1 : 1 ≤ n) (h8 : n ≤ 8) (B : Option Addr) (m d : Nat) (ops : List OpP) (w : World) (hops : OpsP w w.heap.size B ops) (hm : ops.length = m) :
    Calls Try.prog 6 #[.int .i64 (n : Int), .slice B m d] w fun e w' => e = .returned (.bool true) ∧ Below w.heap.size w w' := by
  have hnew := lx_new (X := fun b => b < w.heap.size) (w := w) (fun _ h => h) 1 40 (by omega) (by omega) (by omega) (by omega)
  rw [show ((1 : Nat) : Int) = 1 from rfl, show ((40 : Nat) : Int) = 40 from rfl] at hnew
  have hrf := run_fresh 1 40 0 (by omega) (by omega) (by omega) (by omega) (by omega)
  have hrm : Room 100 (freshSh 1 40) := (room_fresh 1 40).mono (by omega)
  have hfd : freshDev (freshSh 1 40) 0 = ⟨0, 37, -1⟩ := rfl
  have hI0 := Lib.hid (lgi_fresh n h8)
  generalize freshSh 1 40 = s0 at *
  obtain ⟨cur0, hcz, hmr⟩ := made_recs n h8
  have hmb := made_bools n h8
  replace hops := Lib.hid hops
  replace hm := Lib.hid hm
  go_enter Try.func6, Try.ntmps6
  go_wp2_with fail
  refine hnew.mono ?_
  rintro e w1 ⟨g, rfl, hS1, hB1⟩
  have hct := ls_open hS1 0 hrf hrm
  rw [show ((0 : Nat) : Int) = 0 from rfl, hfd] at hct
  clear hnew hrf hrm hfd
  go_wp2_with fail
  with_reducible refine hct.mono ?_
  rintro e w2 ⟨a, rfl, _, h2, hb2⟩
  have hB2 := below_to hB1 hb2
  have hop := lg_open h2.dv n h1 h8 (by show 2 + 2 * n ≤ 37; omega)
  clear hct hS1 hB1 hb2
  go_wp2_with fail
  with_reducible refine hop.mono ?_
  rintro e w3 ⟨l, rfl, hll, hl3, hb3⟩
  have hB3 := below_to hB2 hb3
  have hD3 := h2.dv.more hb3 (Y := fun b => b < w.heap.size ∨ b = l) fun b hb => by
    rcases hb with hb | rfl
    · exact ⟨by have := hB3.size; omega, .inl hb⟩
    · exact ⟨hl3.lt, .inr hll⟩
  have hll' := Nat.le_trans hB2.size hll
  clear hop h2 hB2 hb3
  go_wp2_with fail
  refine (lives07 w3).mono ?_
  rintro e w4 ⟨rfl, hb4⟩
  have hB4 := below_to hB3 hb4
  have hl4 := hl3.below hb4
  have hD4 := hD3.below hb4
  clear hl3 hD3 hB3 hb4
  go_wp2_with fail
  obtain ⟨W, hb, ib, hWe, hhb, hib⟩ : ∃ W hb ib, W = (w4.alloc (.cells cur0 24)).alloc (.cells (boolsH n fun _ => none).toArray 4) ∧ hb = w4.heap.size ∧ ib = w4.heap.size + 1 := ⟨_, _, _, rfl, rfl, rfl⟩
  have hT0 := tab_fresh w4 w.heap.size n cur0 hcz hB4.size
  have hb46 := (below_made' w4 (.cells cur0 24)).trans ((below_made' (w4.alloc (.cells cur0 24)) (.cells (boolsH n fun _ => none).toArray 4)).mono (by simp))
  have hs46 : ((w4.alloc (.cells cur0 24)).alloc (.cells (boolsH n fun _ => none).toArray 4)).heap.size = w4.heap.size + 2 := by simp
  rw [← hWe] at hT0 hb46 hs46 ⊢
  have hl6 := hl4.below hb46
  have hl4' := hl4.lt
  have hD6 := hD4.more hb46 (Y := fun b => (b < w.heap.size ∨ b = l) ∨ b = hb ∨ b = ib) fun b hx => by
    rcases hx with hx | hx
    · exact ⟨Nat.lt_of_lt_of_le (hD4.lt b hx) hb46.size, .inl hx⟩
    · exact ⟨by omega, .inr (by omega)⟩
  have hB6 := below_to hB4 hb46
  have hn1 : hb ≠ l := by omega
  have hn2 : ib ≠ l := by omega
  clear hWe hcz hmr hmb hs46 hl4 hl4' hD4 hB4 hb46
  rw [← hib, ← hhb] at hT0 ⊢
  clear hhb hib
  replace hT0 := Lib.hid hT0
  replace hl6 := Lib.hid hl6
  replace hn1 := Lib.hid hn1
  replace hn2 := Lib.hid hn2
  go_loopw [13] (fun y wr => ∃ (i : Nat) (s : ShM) (D : DevM) (H : Nat → Option RecX), y = .int .i64 i ∧ i ≤ m ∧ i ≤ 300 ∧ Hid (LgI s D n (fun k => (H k).map (·.1))) ∧ Hid (TabR wr hb ib n w.heap.size H) ∧ Hid (LogRow wr l a n) ∧ DvX (fun b => (b < w.heap.size ∨ b = l) ∨ b = hb ∨ b = ib) a g wr s D ∧ Below w.heap.size w wr)
    (fun y _ => (m - intOf y).toNat)
  case atStart => exact ⟨0, s0, ⟨0, 37, -1⟩, fun _ => none, by go_num, by omega, by omega, hI0, hT0, hl6, hD6, hB6⟩
  case round =>
    clear hI0 hT0 hl6 hD6 hB6
    obtain ⟨i, s, D, H, rfl, him, hi3, hI, hT, hl, hD, hB⟩ := hrel
    by_cases hlt : i < m ∧ i < 300
    · obtain ⟨hlt1, hlt2⟩ := hlt
      have hkl : i < ops.length := by rw [hm.out]; exact hlt1
      obtain ⟨b0, o0, rfl, hbl, e0, e1, e2, e3, e4, eR, eA⟩ := (hops.out.below hB).get hkl
      have hblt := World.block_lt_of_cell? wr _ e0
      generalize ops[i] = op at *
      obtain ⟨kind, slot, r, ra, rc⟩ := op
      dsimp only at e0 e1 e2 e3 e4 eR eA
      have hc : OpC wr b0 (o0 + i * 5) kind slot r ra rc := ⟨e0, e1, e2, e3, e4⟩
      clear e2 e3 e4
      replace hc := Lib.hid hc
      replace eR := Lib.hid eR
      by_cases hr : 0 ≤ slot ∧ slot < n
      · obtain ⟨k, rfl⟩ := Int.eq_ofNat_of_zero_le hr.1
        have hkn : k < n := by omega
        clear hr
        by_cases hk1 : kind = 1
        · as_aux_lemma =>
            subst hk1
            have hct := lg_put hD hl.out (.inl (.inr rfl)) h8 (hI.out.one.room.mono (by omega)) (k : Int) r ra r.part.length rc rfl eR.out (fun ad e h0 => .inl (.inl (eA ad e h0)))
            have hmay : Hid (∀ W, _) := Lib.hid fun W => rpp_may r.stripe r.place r.part ra r.part.length rc W rfl
            rw [show mayB ⟨r.stripe, r.place, r.part⟩ = mayB r from rfl] at hmay
            obtain ⟨f0, f1, f2, f3, f4⟩ := hc.out
            cases hmy : mayB r with
            | true =>
              obtain ⟨q1, q2⟩ := hI.out.put h8 hkn hmy
              rw [hmy] at hmay
              rw [← upd_some H k (r, ra, rc)] at q2
              replace q2 := Lib.hid q2
              clear hD f0 f1 hmy
              go_wp2_with fail
              with_reducible refine hct.mono ?_
              rintro e w6 ⟨rfl, hD6, hK6⟩
              rw [q1]
              have hB06 := hK6.below (base := w.heap.size) fun b hb => .inl (.inl hb)
              have hT6 := Lib.hid (hT.out.kept hB06 (hK6.block hb (.inr (.inl rfl))) (hK6.block ib (.inr (.inr rfl))))
              have hl6 := (hK6.block l (.inl (.inr rfl))).trans hl.out
              have hB6 := hB.trans hB06
              obtain ⟨f0, f1, f2, f3, f4⟩ := hc.out.below hB06 hbl
              have hc6 := Lib.hid (hc.out.below hB06 hbl)
              replace eR := Lib.hid (rd_base eR.out eA hB06)
              have hblt := World.block_lt_of_cell? w6 _ f0
              generalize (logPut s D n (k : Int) r).2.1 = s6 at *
              generalize (logPut s D n (k : Int) r).2.2 = D6 at *
              clear hct hK6 hB hT hl hc hB06 e0 e1 hI
              go_wp2_with fail
              refine (hmay.out w6).mono ?_
              rintro e w7 ⟨rfl, hb7⟩
              have hB67 := hb7.mono hB6.size
              have hT7 := hT6.out.kept hB67 (hb7.block hb hT6.out.hlt) (hb7.block ib hT6.out.ilt)
              have hl7 : w7.heap[l]? = _ := (hb7.block l (lt_of_row hl6)).trans hl6
              have hB7 := hB6.trans hB67
              have hD7 := hD6.below hb7
              obtain ⟨g0, g1, g2, g3, g4⟩ := hc6.out.below hB67 hbl
              replace eR := rd_base eR.out eA hB67
              obtain ⟨v0, hv0, hf0⟩ := hT7.room' (i := k * 3) (by omega)
              obtain ⟨v1, hv1, hf1⟩ := hT7.room' (i := k * 3 + 1) (by omega)
              obtain ⟨v2, hv2, hf2⟩ := hT7.room' (i := k * 3 + 2) (by omega)
              have hic := hT7.isc hkn
              have hblt := World.block_lt_of_cell? w7 _ g0
              obtain ⟨w8, hw8⟩ : ∃ w8, w8 = (((w7.setCell ⟨hb, k * 3, none⟩ (.int .i64 r.stripe)).setCell ⟨hb, k * 3 + 1, none⟩ (.int .i64 r.place)).setCell ⟨hb, k * 3 + 2, none⟩ (.slice ra r.part.length rc)).setCell ⟨ib, k, none⟩ (.bool true) := ⟨_, rfl⟩
              obtain ⟨t1, t2, t3, t4⟩ := hT7.putAll hkn (r, ra, rc) eR eA hD7 hl7 hB7 hn1.out hn2.out w8 hw8
              have hne := hT7.ne
              have hhl := hT7.hlt
              have hil := hT7.ilt
              clear hT6 hl6 hB6 hB67 hc6 hmay f0 f1 f2 f3 f4 hT7 hl7 eR hB7
              replace t3 := Lib.hid t3
              replace t4 := Lib.hid t4
              go_wp2_with fail
              rw [← hw8]
              go_roundw
              case rel => exact ⟨i + 1, s6, D6, _, by go_num, by omega, by omega, q2, t1, t2, t3.out, t4.out⟩
              case measure => simp [intOf]; omega
            | false =>
              have hp : logPut s D n (k : Int) r = (1, s, D) := put_bad' (decide_eq_true ⟨by omega, by omega⟩) hmy
              rw [hp] at hct
              rw [hmy] at hmay
              clear hD f0 f1 hmy hp
              go_wp2_with fail
              with_reducible refine hct.mono ?_
              rintro e w6 ⟨rfl, hD6, hK6⟩
              dsimp only at hD6
              have hB06 := hK6.below (base := w.heap.size) fun b hb => .inl (.inl hb)
              have hT6 := hT.out.kept hB06 (hK6.block hb (.inr (.inl rfl))) (hK6.block ib (.inr (.inr rfl)))
              have hl6 := (hK6.block l (.inl (.inr rfl))).trans hl.out
              have hB6 := hB.trans hB06
              obtain ⟨f0, f1, f2, f3, f4⟩ := hc.out.below hB06 hbl
              have hblt := World.block_lt_of_cell? w6 _ f0
              clear hct hK6 hB hT hl hc hB06 e0 e1
              replace hT6 := Lib.hid hT6
              go_wp2_with fail
              refine (hmay.out w6).mono ?_
              rintro e w7 ⟨rfl, hb7⟩
              have hB67 := hb7.mono hB6.size
              have hT7 := Lib.hid (hT6.out.kept hB67 (hb7.block hb hT6.out.hlt) (hb7.block ib hT6.out.ilt))
              have hl7 : Hid (LogRow w7 l a n) := Lib.hid ((hb7.block l (lt_of_row hl6)).trans hl6)
              have hB7 := hB6.trans hB67
              have hD7 := hD6.below hb7
              clear hT6 hl6 hB6 hB67 hmay f0 f1 f2 f3 f4
              go_wp2
              go_roundw
              case rel => exact ⟨i + 1, s, D, H, by go_num, by omega, by omega, hI, hT7, hl7, hD7, hB7⟩
              case measure => simp [intOf]; omega
        · have hk1b : (kind == 1) = false := by simp [hk1]
          by_cases hk2 : kind = 2
          · as_aux_lemma =>
              subst hk2
              have hct := lg_clear hD hl.out (.inl (.inr rfl)) h8 (hI.out.one.room.mono (by omega)) (k : Int)
              obtain ⟨q1, q2⟩ := hI.out.clear h8 hkn
              rw [← upd_none H k] at q2
              replace q2 := Lib.hid q2
              clear hD
              go_wp2_with fail
              with_reducible refine hct.mono ?_
              rintro e w6 ⟨rfl, hD6, hK6⟩
              rw [q1]
              have hB06 := hK6.below (base := w.heap.size) fun b hb => .inl (.inl hb)
              have hT6 := hT.out.kept hB06 (hK6.block hb (.inr (.inl rfl))) (hK6.block ib (.inr (.inr rfl)))
              have hl6 := (hK6.block l (.inl (.inr rfl))).trans hl.out
              have hB6 := hB.trans hB06
              obtain ⟨hic, hif⟩ := hT6.isc hkn
              have hil := hT6.ilt
              generalize (logClear s D n (k : Int)).2.1 = s6 at *
              generalize (logClear s D n (k : Int)).2.2 = D6 at *
              obtain ⟨w8, hw8⟩ : ∃ w8, w8 = w6.setCell ⟨ib, k, none⟩ (.bool false) := ⟨_, rfl⟩
              obtain ⟨t1, t2, t3, t4⟩ := hT6.offAll k hD6 hl6 hB6 hn2.out w8 hw8
              replace t3 := Lib.hid t3
              replace t4 := Lib.hid t4
              clear hct hK6 hB hT hl hc hB06 e0 e1 hI hT6 hl6 hD6 hB6
              go_wp2_with fail
              rw [← hw8]
              go_roundw
              case rel => exact ⟨i + 1, s6, D6, _, by go_num, by omega, by omega, q2, t1, t2, t3.out, t4.out⟩
              case measure => simp [intOf]; omega
          · have hk2b : (kind == 2) = false := by simp [hk2]
            by_cases hk3 : kind = 3
            · as_aux_lemma =>
                subst hk3
                have hct := lg_get hD hl.out (.inl (.inr rfl)) h8 (hI.out.one.room.mono (by omega)) (k : Int)
                obtain ⟨q1, q2, q3⟩ := hI.out.get h8 hkn
                obtain ⟨r6, er, s6, hlg⟩ : ∃ r6 er s6, logGet s D n (k : Int) = (r6, er, s6) := ⟨_, _, _, rfl⟩
                rw [hlg] at hct q1 q2 q3
                dsimp only at q1 q2 q3
                replace q3 := Lib.hid q3
                clear hD hlg
                have hTk := hT.out
                cases hx : H k with
                | none =>
                  rw [hx] at q1 q2
                  have q2' : er = 7 := q2
                  subst q2'
                  clear q1 q2
                  go_wp2_with fail
                  with_reducible refine hct.mono ?_
                  rintro e w6 ⟨A6, c6, rfl, ho6, hD6, hK6⟩
                  dsimp only at ho6 hD6 ⊢
                  have hB06 := hK6.below (base := w.heap.size) fun b hb => .inl (.inl hb)
                  have hT6 := hT.out.kept hB06 (hK6.block hb (.inr (.inl rfl))) (hK6.block ib (.inr (.inr rfl)))
                  have hl6 := (hK6.block l (.inl (.inr rfl))).trans hl.out
                  have hB6 := hB.trans hB06
                  obtain ⟨W7, hW7⟩ : ∃ W7, W7 = w6.alloc (.cells #[.int .i64 r6.stripe, .int .i64 r6.place, .slice A6 r6.part.length c6] 24) := ⟨_, rfl⟩
                  have hb7 : Below w6.heap.size w6 W7 := by rw [hW7]; exact below_made' _ _
                  have hT7 := hT6.kept (hb7.mono hB6.size) (hb7.block hb hT6.hlt) (hb7.block ib hT6.ilt)
                  have hl7 : Hid (LogRow W7 l a n) := Lib.hid ((hb7.block l (lt_of_row hl6)).trans hl6)
                  have hD7 := (hD6.mono (Y := fun b => (b < w.heap.size ∨ b = l) ∨ b = hb ∨ b = ib) fun b hb => .inl hb).below hb7
                  have hB7 := below_to hB6 hb7
                  obtain ⟨hic, hif⟩ := hT7.isc hkn
                  rw [hx] at hic
                  replace hic : W7.cell? ⟨ib, k, none⟩ = some (.bool false) := hic
                  have hic' := hic
                  replace hT7 := Lib.hid hT7
                  replace hB7 := Lib.hid hB7
                  replace hD7 := Lib.hid hD7
                  clear hct hK6 hB hT hl hc hB06 e0 e1 hI hT6 hl6 hD6 hB6 hb7 hTk
                  go_wp2_with fail
                  rw [← hW7]
                  generalize w6.heap.size = q at *
                  clear hW7
                  refine wp_region_held_drew (S := (fun W => W.cell? ⟨ib, k, none⟩ = some (.bool false))) (by kernel_rfl) ?_ (fun hHeld => ?_)
                  · (try dsimp only)
                    exact hic'
                  refine wpAnyH_take (i := 0) (oi := ⟨_, _, _, _, _, _⟩) (v := ?v1) rfl (by kernel_rfl) (by kernel_rfl) (by kernel_rfl) (fun _ _ _ h => h) (Or.inl ⟨by rfl, ?hy1⟩) (by assumption) ?rest1
                  case hy1 => (intro w hSw; (try dsimp only at hSw); go_simp; try with_reducible rfl)
                  (try simp only [Act.put, List.setIfInBounds_toArray, List.set_cons_zero, List.set_cons_succ])
                  refine wpAnyH_take (i := 1) (oi := ⟨_, _, _, _, _, _⟩) (v := ?v2) rfl (by kernel_rfl) (by kernel_rfl) (by kernel_rfl) (fun _ _ _ h => h) (Or.inl ⟨by rfl, ?hy2⟩) (by assumption) ?rest2
                  case hy2 => (intro w hSw; (try dsimp only at hSw); go_simp; try with_reducible rfl)
                  (try simp only [Act.put, List.setIfInBounds_toArray, List.set_cons_zero, List.set_cons_succ])
                  refine wpAnyH_take (i := 2) (oi := ⟨_, _, _, _, _, _⟩) (v := ?v3) rfl (by kernel_rfl) (by kernel_rfl) (by kernel_rfl) (fun _ _ _ h => h) (Or.inl ⟨by rfl, ?hy3⟩) (by assumption) ?rest3
                  case hy3 => (intro w hSw; (try dsimp only at hSw); go_simp; try with_reducible rfl)
                  (try simp only [Act.put, List.setIfInBounds_toArray, List.set_cons_zero, List.set_cons_succ])
                  refine wpAnyH_take (i := 3) (oi := ⟨_, _, _, _, _, _⟩) (v := ?v4) rfl (by kernel_rfl) (by kernel_rfl) (by kernel_rfl) (fun _ _ _ h => h) (Or.inl ⟨by rfl, ?hy4⟩) (by assumption) ?rest4
                  case hy4 => (intro w hSw; (try dsimp only at hSw); go_simp; try with_reducible rfl)
                  (try simp only [Act.put, List.setIfInBounds_toArray, List.set_cons_zero, List.set_cons_succ])
                  refine wpAnyH_take (i := 4) (oi := ⟨_, _, _, _, _, _⟩) (v := ?v5) rfl (by kernel_rfl) (by kernel_rfl) (by kernel_rfl) (fun _ _ _ h => h) (Or.inl ⟨by rfl, ?hy5⟩) (by assumption) ?rest5
                  case hy5 => (intro w hSw; (try dsimp only at hSw); go_simp; try with_reducible rfl)
                  (try simp only [Act.put, List.setIfInBounds_toArray, List.set_cons_zero, List.set_cons_succ])
                  refine wpAnyH_take (i := 5) (oi := ⟨_, _, _, _, _, _⟩) (v := undef) rfl (by kernel_rfl) (by kernel_rfl) (by kernel_rfl) (fun _ _ _ h => h) (Or.inr ⟨by rfl, rfl⟩) (by assumption) ?_
                  (try simp only [Act.put, List.setIfInBounds_toArray, List.set_cons_zero, List.set_cons_succ])
                  refine wpAnyH_take (i := 6) (oi := ⟨_, _, _, _, _, _⟩) (v := undef) rfl (by kernel_rfl) (by kernel_rfl) (by kernel_rfl) (fun _ _ _ h => h) (Or.inr ⟨by rfl, rfl⟩) (by assumption) ?_
                  (try simp only [Act.put, List.setIfInBounds_toArray, List.set_cons_zero, List.set_cons_succ])
                  refine wpAnyH_take (i := 7) (oi := ⟨_, _, _, _, _, _⟩) (v := undef) rfl (by kernel_rfl) (by kernel_rfl) (by kernel_rfl) (fun _ _ _ h => h) (Or.inr ⟨by rfl, rfl⟩) (by assumption) ?_
                  (try simp only [Act.put, List.setIfInBounds_toArray, List.set_cons_zero, List.set_cons_succ])
                  refine wpAnyH_take (i := 8) (oi := ⟨_, _, _, _, _, _⟩) (v := undef) rfl (by kernel_rfl) (by kernel_rfl) (by kernel_rfl) (fun _ _ _ h => h) (Or.inr ⟨by rfl, rfl⟩) (by assumption) ?_
                  (try simp only [Act.put, List.setIfInBounds_toArray, List.set_cons_zero, List.set_cons_succ])
                  refine wpAnyH_take (i := 9) (oi := ⟨_, _, _, _, _, _⟩) (v := undef) rfl (by kernel_rfl) (by kernel_rfl) (by kernel_rfl) (fun _ _ _ h => h) (Or.inr ⟨by rfl, rfl⟩) (by assumption) ?_
                  (try simp only [Act.put, List.setIfInBounds_toArray, List.set_cons_zero, List.set_cons_succ])
                  refine wpAnyH_take (i := 10) (oi := ⟨_, _, _, _, _, _⟩) (v := undef) rfl (by kernel_rfl) (by kernel_rfl) (by kernel_rfl) (fun _ _ _ h => h) (Or.inr ⟨by rfl, rfl⟩) (by assumption) ?_
                  (try simp only [Act.put, List.setIfInBounds_toArray, List.set_cons_zero, List.set_cons_succ])
                  refine wpAnyH_take (i := 11) (oi := ⟨_, _, _, _, _, _⟩) (v := undef) rfl (by kernel_rfl) (by kernel_rfl) (by kernel_rfl) (fun _ _ _ h => h) (Or.inr ⟨by rfl, rfl⟩) (by assumption) ?_
                  (try simp only [Act.put, List.setIfInBounds_toArray, List.set_cons_zero, List.set_cons_succ])
                  refine wpAnyH_take (i := 12) (oi := ⟨_, _, _, _, _, _⟩) (v := undef) rfl (by kernel_rfl) (by kernel_rfl) (by kernel_rfl) (fun _ _ _ h => h) (Or.inr ⟨by rfl, rfl⟩) (by assumption) ?_
                  (try simp only [Act.put, List.setIfInBounds_toArray, List.set_cons_zero, List.set_cons_succ])
                  refine wpAnyH_take (i := 13) (oi := ⟨_, _, _, _, _, _⟩) (v := undef) rfl (by kernel_rfl) (by kernel_rfl) (by kernel_rfl) (fun _ _ _ h => h) (Or.inr ⟨by rfl, rfl⟩) (by assumption) ?_
                  (try simp only [Act.put, List.setIfInBounds_toArray, List.set_cons_zero, List.set_cons_succ])
                  refine wpAnyH_take (i := 14) (oi := ⟨_, _, _, _, _, _⟩) (v := undef) rfl (by kernel_rfl) (by kernel_rfl) (by kernel_rfl) (fun _ _ _ h => h) (Or.inr ⟨by rfl, rfl⟩) (by assumption) ?_
                  (try simp only [Act.put, List.setIfInBounds_toArray, List.set_cons_zero, List.set_cons_succ])
                  refine wpAnyH_take (i := 15) (oi := ⟨_, _, _, _, _, _⟩) (v := undef) rfl (by kernel_rfl) (by kernel_rfl) (by kernel_rfl) (fun _ _ _ h => h) (Or.inr ⟨by rfl, rfl⟩) (by assumption) ?_
                  (try simp only [Act.put, List.setIfInBounds_toArray, List.set_cons_zero, List.set_cons_succ])
                  refine wpAnyH_take (i := 16) (oi := ⟨_, _, _, _, _, _⟩) (v := ?v17) rfl (by kernel_rfl) (by kernel_rfl) (by kernel_rfl) (fun _ _ _ h => h) (Or.inl ⟨by rfl, ?hy17⟩) (by assumption) ?rest17
                  case hy17 => (intro w hSw; (try dsimp only at hSw); go_simp; try with_reducible rfl)
                  (try simp only [Act.put, List.setIfInBounds_toArray, List.set_cons_zero, List.set_cons_succ])
                  refine wpAnyH_take (i := 17) (oi := ⟨_, _, _, _, _, _⟩) (v := ?v18) rfl (by kernel_rfl) (by kernel_rfl) (by kernel_rfl) (fun _ _ _ h => h) (Or.inl ⟨by rfl, ?hy18⟩) (by assumption) ?rest18
                  case hy18 => (intro w hSw; (try dsimp only at hSw); go_simp; try with_reducible rfl)
                  (try simp only [Act.put, List.setIfInBounds_toArray, List.set_cons_zero, List.set_cons_succ])
                  refine wpAnyH_take (i := 18) (oi := ⟨_, _, _, _, _, _⟩) (v := ?v19) rfl (by kernel_rfl) (by kernel_rfl) (by kernel_rfl) (fun _ _ _ h => h) (Or.inl ⟨by rfl, ?hy19⟩) (by assumption) ?rest19
                  case hy19 => (intro w hSw; (try dsimp only at hSw); go_simp; try with_reducible rfl)
                  (try simp only [Act.put, List.setIfInBounds_toArray, List.set_cons_zero, List.set_cons_succ])
                  refine wpAnyH_take (i := 19) (oi := ⟨_, _, _, _, _, _⟩) (v := ?v20) rfl (by kernel_rfl) (by kernel_rfl) (by kernel_rfl) (fun _ _ _ h => h) (Or.inl ⟨by rfl, ?hy20⟩) (by assumption) ?rest20
                  case hy20 => (intro w hSw; (try dsimp only at hSw); go_simp; try with_reducible rfl)
                  (try simp only [Act.put, List.setIfInBounds_toArray, List.set_cons_zero, List.set_cons_succ])
                  refine wpAnyH_take (i := 20) (oi := ⟨_, _, _, _, _, _⟩) (v := ?v21) rfl (by kernel_rfl) (by kernel_rfl) (by kernel_rfl) (fun _ _ _ h => h) (Or.inl ⟨by rfl, ?hy21⟩) (by assumption) ?rest21
                  case hy21 => (intro w hSw; (try dsimp only at hSw); go_simp; try with_reducible rfl)
                  (try simp only [Act.put, List.setIfInBounds_toArray, List.set_cons_zero, List.set_cons_succ])
                  refine wpAnyH_take (i := 21) (oi := ⟨_, _, _, _, _, _⟩) (v := ?v22) rfl (by kernel_rfl) (by kernel_rfl) (by kernel_rfl) (fun _ _ _ h => h) (Or.inl ⟨by rfl, ?hy22⟩) (by assumption) ?rest22
                  case hy22 => (intro w hSw; (try dsimp only at hSw); go_simp; try with_reducible rfl)
                  (try simp only [Act.put, List.setIfInBounds_toArray, List.set_cons_zero, List.set_cons_succ])
                  refine wpAnyH_take (i := 22) (oi := ⟨_, _, _, _, _, _⟩) (v := ?v23) rfl (by kernel_rfl) (by kernel_rfl) (by kernel_rfl) (fun _ _ _ h => h) (Or.inl ⟨by rfl, ?hy23⟩) (by assumption) ?rest23
                  case hy23 => (intro w hSw; (try dsimp only at hSw); go_simp; try with_reducible rfl)
                  (try simp only [Act.put, List.setIfInBounds_toArray, List.set_cons_zero, List.set_cons_succ])
                  refine wpAnyH_take (i := 23) (oi := ⟨_, _, _, _, _, _⟩) (v := ?v24) rfl (by kernel_rfl) (by kernel_rfl) (by kernel_rfl) (fun _ _ _ h => h) (Or.inl ⟨by rfl, ?hy24⟩) (by assumption) ?rest24
                  case hy24 => (intro w hSw; (try dsimp only at hSw); go_simp; try with_reducible rfl)
                  (try simp only [Act.put, List.setIfInBounds_toArray, List.set_cons_zero, List.set_cons_succ])
                  refine wpAnyH_take (i := 24) (oi := ⟨_, _, _, _, _, _⟩) (v := ?v25) rfl (by kernel_rfl) (by kernel_rfl) (by kernel_rfl) (fun _ _ _ h => h) (Or.inl ⟨by rfl, ?hy25⟩) (by assumption) ?rest25
                  case hy25 => (intro w hSw; (try dsimp only at hSw); go_simp; try with_reducible rfl)
                  (try simp only [Act.put, List.setIfInBounds_toArray, List.set_cons_zero, List.set_cons_succ])
                  refine wpAnyH_take (i := 25) (oi := ⟨_, _, _, _, _, _⟩) (v := ?v26) rfl (by kernel_rfl) (by kernel_rfl) (by kernel_rfl) (fun _ _ _ h => h) (Or.inl ⟨by rfl, ?hy26⟩) (by assumption) ?rest26
                  case hy26 => (intro w hSw; (try dsimp only at hSw); go_simp; try with_reducible rfl)
                  (try simp only [Act.put, List.setIfInBounds_toArray, List.set_cons_zero, List.set_cons_succ])
                  refine wpAnyH_take (i := 26) (oi := ⟨_, _, _, _, _, _⟩) (v := ?v27) rfl (by kernel_rfl) (by kernel_rfl) (by kernel_rfl) (fun _ _ _ h => h) (Or.inl ⟨by rfl, ?hy27⟩) (by assumption) ?rest27
                  case hy27 => (intro w hSw; (try dsimp only at hSw); go_simp; try with_reducible rfl)
                  (try simp only [Act.put, List.setIfInBounds_toArray, List.set_cons_zero, List.set_cons_succ])
                  refine wpAnyH_take (i := 27) (oi := ⟨_, _, _, _, _, _⟩) (v := ?v28) rfl (by kernel_rfl) (by kernel_rfl) (by kernel_rfl) (fun _ _ _ h => h) (Or.inl ⟨by rfl, ?hy28⟩) (by assumption) ?rest28
                  case hy28 => (intro w hSw; (try dsimp only at hSw); go_simp; try with_reducible rfl)
                  (try simp only [Act.put, List.setIfInBounds_toArray, List.set_cons_zero, List.set_cons_succ])
                  refine wpAnyH_done (by kernel_rfl) ?_ _
                  clear hHeld
                  go_wp2
                  go_roundw
                  case rel => exact ⟨i + 1, s6, D, H, by go_num, by omega, by omega, q3, Lib.hid hT7.out.drew, hl7, hD7.out.drew, hB7.out.drew⟩
                  case measure => simp [intOf]; omega
                | some x =>
                  obtain ⟨xr, xa, xc⟩ := x
                  rw [hx] at q1 q2
                  have q2' : er = 0 := q2
                  have q1' : r6 = xr := q1
                  subst q2'
                  subst q1'
                  clear q1 q2
                  go_wp2_with fail
                  with_reducible refine hct.mono ?_
                  rintro e w6 ⟨A6, c6, rfl, ho6, hD6, hK6⟩
                  dsimp only at ho6 hD6 ⊢
                  have hB06 := hK6.below (base := w.heap.size) fun b hb => .inl (.inl hb)
                  have hT6 := hT.out.kept hB06 (hK6.block hb (.inr (.inl rfl))) (hK6.block ib (.inr (.inr rfl)))
                  have hl6 := (hK6.block l (.inl (.inr rfl))).trans hl.out
                  have hB6 := hB.trans hB06
                  obtain ⟨W7, hW7⟩ : ∃ W7, W7 = w6.alloc (.cells #[.int .i64 r6.stripe, .int .i64 r6.place, .slice A6 r6.part.length c6] 24) := ⟨_, rfl⟩
                  have hb7 : Below w6.heap.size w6 W7 := by rw [hW7]; exact below_made' _ _
                  have hbox : Box3 W7 w6.heap.size r6 A6 r6.part.length c6 := by rw [hW7]; exact heap_alloc_new _ _
                  have hT7 := hT6.kept (hb7.mono hB6.size) (hb7.block hb hT6.hlt) (hb7.block ib hT6.ilt)
                  have hl7 : Hid (LogRow W7 l a n) := Lib.hid ((hb7.block l (lt_of_row hl6)).trans hl6)
                  have hD7 := (hD6.mono (Y := fun b => (b < w.heap.size ∨ b = l) ∨ b = hb ∨ b = ib) fun b hb => .inl hb).below hb7
                  have hB7 := below_to hB6 hb7
                  obtain ⟨hic, hif⟩ := hT7.isc hkn
                  rw [hx] at hic
                  replace hic : W7.cell? ⟨ib, k, none⟩ = some (.bool true) := hic
                  obtain ⟨m0, m1, m2⟩ := hT7.rec_ hkn hx
                  dsimp only at m0 m1 m2
                  have hrx := (hT7.el k hkn _ hx).1
                  dsimp only at hrx
                  have hr6 := ho6.rd.below hb7
                  obtain ⟨z0, z1, z2, zlt⟩ := hbox.cells
                  have hsb : sameB r6 r6 = true := by simp [sameB]
                  replace hT7 := Lib.hid hT7
                  replace hB7 := Lib.hid hB7
                  replace hD7 := Lib.hid hD7
                  clear hct hK6 hB hT hl hc hB06 e0 e1 hI hT6 hl6 hD6 hB6 hb7 hTk hbox ho6
                  go_wp2_with fail
                  rw [← hW7]
                  generalize w6.heap.size = q at *
                  clear hW7
                  have hic' : (fun W => W.cell? ⟨ib, k, none⟩ = some (.bool true) ∧ (W.cell? ⟨q, 0, none⟩ = some (.int .i64 r6.stripe) ∧ W.cell? ⟨q, 1, none⟩ = some (.int .i64 r6.place) ∧ W.cell? ⟨q, 2, none⟩ = some (.slice A6 r6.part.length c6)) ∧ (W.cell? ⟨hb, k * 3, none⟩ = some (.int .i64 r6.stripe) ∧ W.cell? ⟨hb, k * 3 + 1, none⟩ = some (.int .i64 r6.place) ∧ W.cell? ⟨hb, k * 3 + 2, none⟩ = some (.slice xa r6.part.length xc)) ∧ Rd W A6 r6.part ∧ Rd W xa r6.part) W7 := ⟨hic, ⟨z0, z1, z2⟩, ⟨m0, m1, m2⟩, hr6, hrx⟩
                  have hsame : ∀ W : World, (fun W => W.cell? ⟨ib, k, none⟩ = some (.bool true) ∧ (W.cell? ⟨q, 0, none⟩ = some (.int .i64 r6.stripe) ∧ W.cell? ⟨q, 1, none⟩ = some (.int .i64 r6.place) ∧ W.cell? ⟨q, 2, none⟩ = some (.slice A6 r6.part.length c6)) ∧ (W.cell? ⟨hb, k * 3, none⟩ = some (.int .i64 r6.stripe) ∧ W.cell? ⟨hb, k * 3 + 1, none⟩ = some (.int .i64 r6.place) ∧ W.cell? ⟨hb, k * 3 + 2, none⟩ = some (.slice xa r6.part.length xc)) ∧ Rd W A6 r6.part ∧ Rd W xa r6.part) W → Calls Try.prog 15 #[.agg #[.int .i64 r6.stripe, .int .i64 r6.place, .slice A6 r6.part.length c6], .agg #[.int .i64 r6.stripe, .int .i64 r6.place, .slice xa r6.part.length xc]] W fun e W' => e = .returned (.bool true) ∧ Below W.heap.size W W' ∧ (fun W => W.cell? ⟨ib, k, none⟩ = some (.bool true) ∧ (W.cell? ⟨q, 0, none⟩ = some (.int .i64 r6.stripe) ∧ W.cell? ⟨q, 1, none⟩ = some (.int .i64 r6.place) ∧ W.cell? ⟨q, 2, none⟩ = some (.slice A6 r6.part.length c6)) ∧ (W.cell? ⟨hb, k * 3, none⟩ = some (.int .i64 r6.stripe) ∧ W.cell? ⟨hb, k * 3 + 1, none⟩ = some (.int .i64 r6.place) ∧ W.cell? ⟨hb, k * 3 + 2, none⟩ = some (.slice xa r6.part.length xc)) ∧ Rd W A6 r6.part ∧ Rd W xa r6.part) W' := by
                    intro W hW
                    have h := rpp_same r6 r6 A6 xa r6.part.length c6 r6.part.length xc W rfl hW.2.2.2.1 rfl hW.2.2.2.2
                    rw [hsb] at h
                    refine h.mono ?_
                    rintro e W' ⟨rfl, hbx⟩
                    exact ⟨rfl, hbx, same_below hW hbx⟩
                  replace hsame := Lib.hid hsame
                  clear hsb hrx hr6
                  refine wp_region_held_drew (S := (fun W => W.cell? ⟨ib, k, none⟩ = some (.bool true) ∧ (W.cell? ⟨q, 0, none⟩ = some (.int .i64 r6.stripe) ∧ W.cell? ⟨q, 1, none⟩ = some (.int .i64 r6.place) ∧ W.cell? ⟨q, 2, none⟩ = some (.slice A6 r6.part.length c6)) ∧ (W.cell? ⟨hb, k * 3, none⟩ = some (.int .i64 r6.stripe) ∧ W.cell? ⟨hb, k * 3 + 1, none⟩ = some (.int .i64 r6.place) ∧ W.cell? ⟨hb, k * 3 + 2, none⟩ = some (.slice xa r6.part.length xc)) ∧ Rd W A6 r6.part ∧ Rd W xa r6.part)) (by kernel_rfl) ?_ (fun hHeld => ?_)
                  · (try dsimp only)
                    exact hic'
                  refine wpAnyH_take (i := 0) (oi := ⟨_, _, _, _, _, _⟩) (v := ?v29) rfl (by kernel_rfl) (by kernel_rfl) (by kernel_rfl) (fun _ _ _ h => h) (Or.inl ⟨by rfl, ?hy29⟩) (by assumption) ?rest29
                  case hy29 => (intro w hSw; (try dsimp only at hSw); go_simp; try with_reducible rfl)
                  (try simp only [Act.put, List.setIfInBounds_toArray, List.set_cons_zero, List.set_cons_succ])
                  refine wpAnyH_take (i := 1) (oi := ⟨_, _, _, _, _, _⟩) (v := ?v30) rfl (by kernel_rfl) (by kernel_rfl) (by kernel_rfl) (fun _ _ _ h => h) (Or.inl ⟨by rfl, ?hy30⟩) (by assumption) ?rest30
                  case hy30 => (intro w hSw; (try dsimp only at hSw); go_simp; try with_reducible rfl)
                  (try simp only [Act.put, List.setIfInBounds_toArray, List.set_cons_zero, List.set_cons_succ])
                  refine wpAnyH_take (i := 2) (oi := ⟨_, _, _, _, _, _⟩) (v := ?v31) rfl (by kernel_rfl) (by kernel_rfl) (by kernel_rfl) (fun _ _ _ h => h) (Or.inl ⟨by rfl, ?hy31⟩) (by assumption) ?rest31
                  case hy31 => (intro w hSw; (try dsimp only at hSw); go_simp; try with_reducible rfl)
                  (try simp only [Act.put, List.setIfInBounds_toArray, List.set_cons_zero, List.set_cons_succ])
                  refine wpAnyH_take (i := 3) (oi := ⟨_, _, _, _, _, _⟩) (v := ?v32) rfl (by kernel_rfl) (by kernel_rfl) (by kernel_rfl) (fun _ _ _ h => h) (Or.inl ⟨by rfl, ?hy32⟩) (by assumption) ?rest32
                  case hy32 => (intro w hSw; (try dsimp only at hSw); go_simp; try with_reducible rfl)
                  (try simp only [Act.put, List.setIfInBounds_toArray, List.set_cons_zero, List.set_cons_succ])
                  refine wpAnyH_take (i := 4) (oi := ⟨_, _, _, _, _, _⟩) (v := ?v33) rfl (by kernel_rfl) (by kernel_rfl) (by kernel_rfl) (fun _ _ _ h => h) (Or.inl ⟨by rfl, ?hy33⟩) (by assumption) ?rest33
                  case hy33 => (intro w hSw; (try dsimp only at hSw); go_simp; try with_reducible rfl)
                  (try simp only [Act.put, List.setIfInBounds_toArray, List.set_cons_zero, List.set_cons_succ])
                  refine wpAnyH_take (i := 5) (oi := ⟨_, _, _, _, _, _⟩) (v := ?v34) rfl (by kernel_rfl) (by kernel_rfl) (by kernel_rfl) (fun _ _ _ h => h) (Or.inl ⟨by rfl, ?hy34⟩) (by assumption) ?rest34
                  case hy34 => (intro w hSw; (try dsimp only at hSw); go_simp; try with_reducible rfl)
                  (try simp only [Act.put, List.setIfInBounds_toArray, List.set_cons_zero, List.set_cons_succ])
                  refine wpAnyH_take (i := 6) (oi := ⟨_, _, _, _, _, _⟩) (v := ?v35) rfl (by kernel_rfl) (by kernel_rfl) (by kernel_rfl) (fun _ _ _ h => h) (Or.inl ⟨by rfl, ?hy35⟩) (by assumption) ?rest35
                  case hy35 => (intro w hSw; (try dsimp only at hSw); go_simp; try with_reducible rfl)
                  (try simp only [Act.put, List.setIfInBounds_toArray, List.set_cons_zero, List.set_cons_succ])
                  refine wpAnyH_take (i := 7) (oi := ⟨_, _, _, _, _, _⟩) (v := ?v36) rfl (by kernel_rfl) (by kernel_rfl) (by kernel_rfl) (fun _ _ _ h => h) (Or.inl ⟨by rfl, ?hy36⟩) (by assumption) ?rest36
                  case hy36 => (intro w hSw; (try dsimp only at hSw); go_simp; try with_reducible rfl)
                  (try simp only [Act.put, List.setIfInBounds_toArray, List.set_cons_zero, List.set_cons_succ])
                  refine wpAnyH_take (i := 8) (oi := ⟨_, _, _, _, _, _⟩) (v := ?v37) rfl (by kernel_rfl) (by kernel_rfl) (by kernel_rfl) (fun _ _ _ h => h) (Or.inl ⟨by rfl, ?hy37⟩) (by assumption) ?rest37
                  case hy37 => (intro w hSw; (try dsimp only at hSw); go_simp; try with_reducible rfl)
                  (try simp only [Act.put, List.setIfInBounds_toArray, List.set_cons_zero, List.set_cons_succ])
                  refine wpAnyH_take (i := 9) (oi := ⟨_, _, _, _, _, _⟩) (v := ?v38) rfl (by kernel_rfl) (by kernel_rfl) (by kernel_rfl) (fun _ _ _ h => h) (Or.inl ⟨by rfl, ?hy38⟩) (by assumption) ?rest38
                  case hy38 => (intro w hSw; (try dsimp only at hSw); go_simp; try with_reducible rfl)
                  (try simp only [Act.put, List.setIfInBounds_toArray, List.set_cons_zero, List.set_cons_succ])
                  refine wpAnyH_take (i := 10) (oi := ⟨_, _, _, _, _, _⟩) (v := ?v39) rfl (by kernel_rfl) (by kernel_rfl) (by kernel_rfl) (fun _ _ _ h => h) (Or.inl ⟨by rfl, ?hy39⟩) (by assumption) ?rest39
                  case hy39 => (intro w hSw; (try dsimp only at hSw); go_simp; try with_reducible rfl)
                  (try simp only [Act.put, List.setIfInBounds_toArray, List.set_cons_zero, List.set_cons_succ])
                  refine wpAnyH_take (i := 11) (oi := ⟨_, _, _, _, _, _⟩) (v := ?v40) rfl (by kernel_rfl) (by kernel_rfl) (by kernel_rfl) (fun _ _ _ h => h) (Or.inl ⟨by rfl, ?hy40⟩) (by assumption) ?rest40
                  case hy40 => (intro w hSw; (try dsimp only at hSw); go_simp; try with_reducible rfl)
                  (try simp only [Act.put, List.setIfInBounds_toArray, List.set_cons_zero, List.set_cons_succ])
                  refine wpAnyH_take (i := 12) (oi := ⟨_, _, _, _, _, _⟩) (v := ?v41) rfl (by kernel_rfl) (by kernel_rfl) (by kernel_rfl) (fun _ _ _ h => h) (Or.inl ⟨by rfl, ?hy41⟩) (by assumption) ?rest41
                  case hy41 => (intro w hSw; (try dsimp only at hSw); go_simp; try with_reducible rfl)
                  (try simp only [Act.put, List.setIfInBounds_toArray, List.set_cons_zero, List.set_cons_succ])
                  refine wpAnyH_ready (rs := [13]) (by kernel_rfl) (by simp) ?_
                  refine AllReadyH.cons (o := ⟨_, _, _, _, _, _⟩) rfl (fun K hK => ?_) AllReadyH.nil
                  go_simp
                  refine (hsame.out _ hHeld).mono ?_
                  rintro e w9 ⟨rfl, hb9, hS9⟩
                  (try go_wp2_with fail)
                  refine hK.out _ _ ?_ (fun hHeld2 => ?_)
                  · (try dsimp only)
                    first | exact hHeld | exact hS9
                  clear hK K
                  replace hHeld := hHeld2
                  clear hHeld2
                  (try simp only [Act.put, List.setIfInBounds_toArray, List.set_cons_zero, List.set_cons_succ])
                  refine wpAnyH_take (i := 14) (oi := ⟨_, _, _, _, _, _⟩) (v := ?v42) rfl (by kernel_rfl) (by kernel_rfl) (by kernel_rfl) (fun _ _ _ h => h) (Or.inl ⟨by rfl, ?hy42⟩) (by assumption) ?rest42
                  case hy42 => (intro w hSw; (try dsimp only at hSw); go_simp; try with_reducible rfl)
                  (try simp only [Act.put, List.setIfInBounds_toArray, List.set_cons_zero, List.set_cons_succ])
                  refine wpAnyH_take (i := 15) (oi := ⟨_, _, _, _, _, _⟩) (v := ?v43) rfl (by kernel_rfl) (by kernel_rfl) (by kernel_rfl) (fun _ _ _ h => h) (Or.inl ⟨by rfl, ?hy43⟩) (by assumption) ?rest43
                  case hy43 => (intro w hSw; (try dsimp only at hSw); go_simp; try with_reducible rfl)
                  (try simp only [Act.put, List.setIfInBounds_toArray, List.set_cons_zero, List.set_cons_succ])
                  refine wpAnyH_take (i := 16) (oi := ⟨_, _, _, _, _, _⟩) (v := ?v44) rfl (by kernel_rfl) (by kernel_rfl) (by kernel_rfl) (fun _ _ _ h => h) (Or.inl ⟨by rfl, ?hy44⟩) (by assumption) ?rest44
                  case hy44 => (intro w hSw; (try dsimp only at hSw); go_simp; try with_reducible rfl)
                  (try simp only [Act.put, List.setIfInBounds_toArray, List.set_cons_zero, List.set_cons_succ])
                  refine wpAnyH_take (i := 17) (oi := ⟨_, _, _, _, _, _⟩) (v := ?v45) rfl (by kernel_rfl) (by kernel_rfl) (by kernel_rfl) (fun _ _ _ h => h) (Or.inl ⟨by rfl, ?hy45⟩) (by assumption) ?rest45
                  case hy45 => (intro w hSw; (try dsimp only at hSw); go_simp; try with_reducible rfl)
                  (try simp only [Act.put, List.setIfInBounds_toArray, List.set_cons_zero, List.set_cons_succ])
                  refine wpAnyH_take (i := 18) (oi := ⟨_, _, _, _, _, _⟩) (v := ?v46) rfl (by kernel_rfl) (by kernel_rfl) (by kernel_rfl) (fun _ _ _ h => h) (Or.inl ⟨by rfl, ?hy46⟩) (by assumption) ?rest46
                  case hy46 => (intro w hSw; (try dsimp only at hSw); go_simp; try with_reducible rfl)
                  (try simp only [Act.put, List.setIfInBounds_toArray, List.set_cons_zero, List.set_cons_succ])
                  refine wpAnyH_take (i := 19) (oi := ⟨_, _, _, _, _, _⟩) (v := ?v47) rfl (by kernel_rfl) (by kernel_rfl) (by kernel_rfl) (fun _ _ _ h => h) (Or.inl ⟨by rfl, ?hy47⟩) (by assumption) ?rest47
                  case hy47 => (intro w hSw; (try dsimp only at hSw); go_simp; try with_reducible rfl)
                  (try simp only [Act.put, List.setIfInBounds_toArray, List.set_cons_zero, List.set_cons_succ])
                  refine wpAnyH_take (i := 20) (oi := ⟨_, _, _, _, _, _⟩) (v := ?v48) rfl (by kernel_rfl) (by kernel_rfl) (by kernel_rfl) (fun _ _ _ h => h) (Or.inl ⟨by rfl, ?hy48⟩) (by assumption) ?rest48
                  case hy48 => (intro w hSw; (try dsimp only at hSw); go_simp; try with_reducible rfl)
                  (try simp only [Act.put, List.setIfInBounds_toArray, List.set_cons_zero, List.set_cons_succ])
                  refine wpAnyH_take (i := 21) (oi := ⟨_, _, _, _, _, _⟩) (v := ?v49) rfl (by kernel_rfl) (by kernel_rfl) (by kernel_rfl) (fun _ _ _ h => h) (Or.inl ⟨by rfl, ?hy49⟩) (by assumption) ?rest49
                  case hy49 => (intro w hSw; (try dsimp only at hSw); go_simp; try with_reducible rfl)
                  (try simp only [Act.put, List.setIfInBounds_toArray, List.set_cons_zero, List.set_cons_succ])
                  refine wpAnyH_take (i := 22) (oi := ⟨_, _, _, _, _, _⟩) (v := ?v50) rfl (by kernel_rfl) (by kernel_rfl) (by kernel_rfl) (fun _ _ _ h => h) (Or.inl ⟨by rfl, ?hy50⟩) (by assumption) ?rest50
                  case hy50 => (intro w hSw; (try dsimp only at hSw); go_simp; try with_reducible rfl)
                  (try simp only [Act.put, List.setIfInBounds_toArray, List.set_cons_zero, List.set_cons_succ])
                  refine wpAnyH_take (i := 23) (oi := ⟨_, _, _, _, _, _⟩) (v := ?v51) rfl (by kernel_rfl) (by kernel_rfl) (by kernel_rfl) (fun _ _ _ h => h) (Or.inl ⟨by rfl, ?hy51⟩) (by assumption) ?rest51
                  case hy51 => (intro w hSw; (try dsimp only at hSw); go_simp; try with_reducible rfl)
                  (try simp only [Act.put, List.setIfInBounds_toArray, List.set_cons_zero, List.set_cons_succ])
                  refine wpAnyH_take (i := 24) (oi := ⟨_, _, _, _, _, _⟩) (v := undef) rfl (by kernel_rfl) (by kernel_rfl) (by kernel_rfl) (fun _ _ _ h => h) (Or.inr ⟨by rfl, rfl⟩) (by assumption) ?_
                  (try simp only [Act.put, List.setIfInBounds_toArray, List.set_cons_zero, List.set_cons_succ])
                  refine wpAnyH_take (i := 25) (oi := ⟨_, _, _, _, _, _⟩) (v := undef) rfl (by kernel_rfl) (by kernel_rfl) (by kernel_rfl) (fun _ _ _ h => h) (Or.inr ⟨by rfl, rfl⟩) (by assumption) ?_
                  (try simp only [Act.put, List.setIfInBounds_toArray, List.set_cons_zero, List.set_cons_succ])
                  refine wpAnyH_take (i := 26) (oi := ⟨_, _, _, _, _, _⟩) (v := ?v54) rfl (by kernel_rfl) (by kernel_rfl) (by kernel_rfl) (fun _ _ _ h => h) (Or.inl ⟨by rfl, ?hy54⟩) (by assumption) ?rest54
                  case hy54 => (intro w hSw; (try dsimp only at hSw); go_simp; try with_reducible rfl)
                  (try simp only [Act.put, List.setIfInBounds_toArray, List.set_cons_zero, List.set_cons_succ])
                  refine wpAnyH_take (i := 27) (oi := ⟨_, _, _, _, _, _⟩) (v := ?v55) rfl (by kernel_rfl) (by kernel_rfl) (by kernel_rfl) (fun _ _ _ h => h) (Or.inl ⟨by rfl, ?hy55⟩) (by assumption) ?rest55
                  case hy55 => (intro w hSw; (try dsimp only at hSw); go_simp; try with_reducible rfl)
                  (try simp only [Act.put, List.setIfInBounds_toArray, List.set_cons_zero, List.set_cons_succ])
                  refine wpAnyH_done (by kernel_rfl) ?_ _
                  clear hHeld hsame hS9
                  have hT9 := Lib.hid (hT7.out.drew.kept (hb9.mono hB7.out.size) (hb9.block hb hT7.out.drew.hlt) (hb9.block ib hT7.out.drew.ilt))
                  have hl9 : Hid (LogRow w9 l a n) := Lib.hid ((show LogRow W7.drew l a n from hl7.out).below hb9)
                  have hD9 := Lib.hid (hD7.out.drew.below hb9)
                  have hB9 := Lib.hid (below_to hB7.out.drew hb9)
                  clear hb9 m0 m1 m2 hic hif z0 z1 z2 zlt hT7 hl7 hD7 hB7
                  go_wp2
                  go_roundw
                  case rel => exact ⟨i + 1, s6, D, H, by go_num, by omega, by omega, q3, hT9, hl9, hD9.out, hB9.out⟩
                  case measure => simp [intOf]; omega
            · have hk3b : (kind == 3) = false := by simp [hk3]
              by_cases hk4 : kind = 4
              · as_aux_lemma =>
                  subst hk4
                  have hct := su_flush hD
                  obtain ⟨q1, q2⟩ := hI.out.flush
                  replace q2 := Lib.hid q2
                  clear hD
                  go_wp2_with fail
                  with_reducible refine hct.mono ?_
                  rintro e w6 ⟨rfl, hD6, hK6⟩
                  rw [q1]
                  have hB06 := hK6.below (base := w.heap.size) fun b hb => .inl (.inl hb)
                  have hT6 := Lib.hid (hT.out.kept hB06 (hK6.block hb (.inr (.inl rfl))) (hK6.block ib (.inr (.inr rfl))))
                  have hl6 : Hid (LogRow w6 l a n) := Lib.hid ((hK6.block l (.inl (.inr rfl))).trans hl.out)
                  have hB6 := hB.trans hB06
                  clear hct hK6 hB hT hl hc hB06 e0 e1 hI
                  generalize (devFlush s D).2.1 = s6 at *
                  generalize (devFlush s D).2.2 = D6 at *
                  go_wp2
                  go_roundw
                  case rel => exact ⟨i + 1, s6, D6, H, by go_num, by omega, by omega, q2, hT6, hl6, hD6, hB6⟩
                  case measure => simp [intOf]; omega
              · as_aux_lemma =>
                  have hk4b : (kind == 4) = false := by simp [hk4]
                  go_wp2
                  go_roundw
                  case rel => exact ⟨i + 1, s, D, H, by go_num, by omega, by omega, hI, hT, hl, hD, hB⟩
                  case measure => simp [intOf]; omega
      · have hxx : slot < 0 ∨ (0 ≤ slot ∧ decide (slot < (n : Int)) = false) := by
          by_cases h0 : slot < 0
          · exact .inl h0
          · exact .inr ⟨by omega, decide_eq_false fun h => hr ⟨by omega, h⟩⟩
        replace hr := Lib.hid hr
        rcases hxx with hxx | ⟨hxx, hdn⟩
        all_goals
          by_cases hk1 : kind = 1
          · as_aux_lemma =>
              subst hk1
              have hct := lg_put hD hl.out (.inl (.inr rfl)) h8 (hI.out.one.room.mono (by omega)) slot r ra r.part.length rc rfl eR.out (fun ad e h0 => .inl (.inl (eA ad e h0)))
              rw [put_off hr.out] at hct
              obtain ⟨f0, f1, f2, f3, f4⟩ := hc.out
              clear hD f0 f1
              go_wp2_with fail
              with_reducible refine hct.mono ?_
              rintro e w6 ⟨rfl, hD6, hK6⟩
              dsimp only at hD6
              have hB06 := hK6.below (base := w.heap.size) fun b hb => .inl (.inl hb)
              have hT6 := Lib.hid (hT.out.kept hB06 (hK6.block hb (.inr (.inl rfl))) (hK6.block ib (.inr (.inr rfl))))
              have hl6 : Hid (LogRow w6 l a n) := Lib.hid ((hK6.block l (.inl (.inr rfl))).trans hl.out)
              have hB6 := hB.trans hB06
              clear hct hK6 hB hT hl hc hB06 e0 e1 f2 f3 f4
              go_wp2
              go_roundw
              case rel => exact ⟨i + 1, s, D, H, by go_num, by omega, by omega, hI, hT6, hl6, hD6, hB6⟩
              case measure => simp [intOf]; omega
          · have hk1b : (kind == 1) = false := by simp [hk1]
            by_cases hk2 : kind = 2
            · as_aux_lemma =>
                subst hk2
                have hct := lg_clear hD hl.out (.inl (.inr rfl)) h8 (hI.out.one.room.mono (by omega)) slot
                rw [clear_off hr.out] at hct
                clear hD
                go_wp2_with fail
                with_reducible refine hct.mono ?_
                rintro e w6 ⟨rfl, hD6, hK6⟩
                dsimp only at hD6
                have hB06 := hK6.below (base := w.heap.size) fun b hb => .inl (.inl hb)
                have hT6 := Lib.hid (hT.out.kept hB06 (hK6.block hb (.inr (.inl rfl))) (hK6.block ib (.inr (.inr rfl))))
                have hl6 : Hid (LogRow w6 l a n) := Lib.hid ((hK6.block l (.inl (.inr rfl))).trans hl.out)
                have hB6 := hB.trans hB06
                clear hct hK6 hB hT hl hc hB06 e0 e1
                go_wp2
                go_roundw
                case rel => exact ⟨i + 1, s, D, H, by go_num, by omega, by omega, hI, hT6, hl6, hD6, hB6⟩
                case measure => simp [intOf]; omega
            · have hk2b : (kind == 2) = false := by simp [hk2]
              by_cases hk3 : kind = 3
              · as_aux_lemma =>
                  subst hk3
                  have hct := lg_get hD hl.out (.inl (.inr rfl)) h8 (hI.out.one.room.mono (by omega)) slot
                  rw [get_off hr.out] at hct
                  clear hD
                  go_wp2_with fail
                  with_reducible refine hct.mono ?_
                  rintro e w6 ⟨A6, c6, rfl, ho6, hD6, hK6⟩
                  dsimp only at ho6 hD6 ⊢
                  have hB06 := hK6.below (base := w.heap.size) fun b hb => .inl (.inl hb)
                  have hT6 := hT.out.kept hB06 (hK6.block hb (.inr (.inl rfl))) (hK6.block ib (.inr (.inr rfl)))
                  have hl6 := (hK6.block l (.inl (.inr rfl))).trans hl.out
                  have hB6 := hB.trans hB06
                  obtain ⟨W7, hW7⟩ : ∃ W7, W7 = w6.alloc (.cells #[.int .i64 noRec.stripe, .int .i64 noRec.place, .slice A6 noRec.part.length c6] 24) := ⟨_, rfl⟩
                  have hb7 : Below w6.heap.size w6 W7 := by rw [hW7]; exact below_made' _ _
                  have hT7 := Lib.hid (hT6.kept (hb7.mono hB6.size) (hb7.block hb hT6.hlt) (hb7.block ib hT6.ilt))
                  have hl7 : Hid (LogRow W7 l a n) := Lib.hid ((hb7.block l (lt_of_row hl6)).trans hl6)
                  have hD7 := Lib.hid ((hD6.mono (Y := fun b => (b < w.heap.size ∨ b = l) ∨ b = hb ∨ b = ib) fun b hb => .inl hb).below hb7)
                  have hB7 := Lib.hid (below_to hB6 hb7)
                  clear hct hK6 hB hT hl hc hB06 e0 e1 hT6 hl6 hD6 hB6 hb7 ho6
                  go_wp2_with fail
                  rw [← hW7]
                  clear hW7
                  go_roundw
                  case rel => exact ⟨i + 1, s, D, H, by go_num, by omega, by omega, hI, hT7, hl7, hD7.out, hB7.out⟩
                  case measure => simp [intOf]; omega
              · have hk3b : (kind == 3) = false := by simp [hk3]
                by_cases hk4 : kind = 4
                · as_aux_lemma =>
                    subst hk4
                    have hct := su_flush hD
                    obtain ⟨q1, q2⟩ := hI.out.flush
                    replace q2 := Lib.hid q2
                    clear hD
                    go_wp2_with fail
                    with_reducible refine hct.mono ?_
                    rintro e w6 ⟨rfl, hD6, hK6⟩
                    rw [q1]
                    have hB06 := hK6.below (base := w.heap.size) fun b hb => .inl (.inl hb)
                    have hT6 := Lib.hid (hT.out.kept hB06 (hK6.block hb (.inr (.inl rfl))) (hK6.block ib (.inr (.inr rfl))))
                    have hl6 : Hid (LogRow w6 l a n) := Lib.hid ((hK6.block l (.inl (.inr rfl))).trans hl.out)
                    have hB6 := hB.trans hB06
                    clear hct hK6 hB hT hl hc hB06 e0 e1 hI
                    generalize (devFlush s D).2.1 = s6 at *
                    generalize (devFlush s D).2.2 = D6 at *
                    go_wp2
                    go_roundw
                    case rel => exact ⟨i + 1, s6, D6, H, by go_num, by omega, by omega, q2, hT6, hl6, hD6, hB6⟩
                    case measure => simp [intOf]; omega
                · as_aux_lemma =>
                    have hk4b : (kind == 4) = false := by simp [hk4]
                    go_wp2
                    go_roundw
                    case rel => exact ⟨i + 1, s, D, H, by go_num, by omega, by omega, hI, hT, hl, hD, hB⟩
                    case measure => simp [intOf]; omega
    · have hxx : (m : Int) ≤ (i : Int) ∨ ((i : Int) < (m : Int) ∧ 300 ≤ (i : Int)) := by omega
      have hct := lg_all hD hl.out (.inl (.inr rfl)) h8 (hI.out.one.room.mono (by omega))
      obtain ⟨q1, q2⟩ := hI.out.all h8 n (Nat.le_refl n)
      have hlr : ((List.range n).filterMap fun k => (H k).map (·.1)).length ≤ 8 := Nat.le_trans (List.length_filterMap_le _ _) (by simpa using h8)
      clear hlt hops hm hl q2
      generalize logAll s D n n = lr at hct q1
      obtain ⟨ra1, ra2⟩ := lr
      dsimp only at q1
      replace q1 := Lib.hid q1
      have hTr := hT.out
      replace hD := Lib.hid hD
      rcases hxx with hxx | ⟨hxx, hxx2⟩
      · as_aux_lemma =>
          go_wp2_with fail
          with_reducible refine hct.mono ?_
          rintro e w6 ⟨A6, c6, xs, Z, rfl, hxs, hR6, hD6, hK6⟩
          dsimp only at hxs hR6 hD6 ⊢
          subst hxs
          rw [List.length_map] at hR6 ⊢
          have hB06 := hK6.below (base := w.heap.size) fun b hb => .inl (.inl hb)
          have hT6 := Lib.hid (hTr.kept hB06 (hK6.block hb (.inr (.inl rfl))) (hK6.block ib (.inr (.inr rfl))))
          have hB6 := hB.trans hB06
          have hZ : ∀ b, Z b → b < w6.heap.size := fun b hz => hD6.lt b (.inr hz)
          have hq : Hid (xs.map (·.1) = (List.range n).filterMap fun k => (H k).map (·.1)) := q1
          have hxl : xs.length ≤ 8 := by have e := congrArg List.length q1.out; rw [List.length_map] at e; omega
          replace hR6 := Lib.hid hR6
          replace hZ := Lib.hid hZ
          clear hct hK6 hD6 hB06 q1 hlr hTr hT hB hD hI
          go_wp2_with fail
          go_loopw [21, 22] (fun y z wr => ∃ (k jj : Nat), y = .int .i64 jj ∧ z = .int .i64 k ∧ k ≤ n ∧ Hid (jj = ((List.range k).filterMap fun k => (H k).map (·.1)).length) ∧ Below w6.heap.size w6 wr)
            (fun _ z _ => (n - intOf z).toNat)
          case atStart => exact ⟨0, 0, by go_num, by go_num, by omega, Lib.hid rfl, Below.refl _ _⟩
          case round =>
            obtain ⟨k, jj, rfl, rfl, hkn, hjj, hbel⟩ := hrel
            by_cases hk : k < n
            · have hTw := hT6.out.kept (hbel.mono hB6.size) (hbel.block hb hT6.out.hlt) (hbel.block ib hT6.out.ilt)
              obtain ⟨hic, hif⟩ := hTw.isc hk
              have hil := hTw.ilt
              cases hx : H k with
              | none =>
                rw [hx] at hic
                replace hic : wr.cell? ⟨ib, k, none⟩ = some (.bool false) := hic
                go_wp2
                go_roundw
                case rel => exact ⟨k + 1, jj, rfl, by go_num, by omega, Lib.hid (by rw [fm_none _ (by rw [hx]; rfl)]; exact hjj.out), hbel⟩
                case measure => simp [intOf]; omega
              | some x =>
                obtain ⟨xr, xa, xc⟩ := x
                rw [hx] at hic
                replace hic : wr.cell? ⟨ib, k, none⟩ = some (.bool true) := hic
                have hRw := hR6.out.kept (fun b hz => hbel.block b (hZ.out b hz))
                obtain ⟨hjl, hjx⟩ := fm_at (fun k => (H k).map (·.1)) xs hq.out hk (r := xr) (by simp [hx]) hjj.out
                obtain ⟨g6, rfl, m0, m1, m2⟩ := recsat_cells hRw (by omega) hjl
                have hry := (hRw.el _ (List.getElem_mem hjl)).1
                generalize hxk : xs[jj] = y at *
                obtain ⟨yr, ya, yc⟩ := y
                replace hjx : yr = xr := hjx
                subst hjx
                dsimp only at m0 m1 m2 hry
                obtain ⟨n0, n1, n2⟩ := hTw.rec_ hk hx
                dsimp only at n0 n1 n2
                have hrx := (hTw.el k hk _ hx).1
                dsimp only at hrx
                have hsb : sameB yr yr = true := by simp [sameB]
                have hic' : (fun W => W.cell? ⟨ib, k, none⟩ = some (.bool true) ∧ (W.cell? ⟨g6, jj * 3, none⟩ = some (.int .i64 yr.stripe) ∧ W.cell? ⟨g6, jj * 3 + 1, none⟩ = some (.int .i64 yr.place) ∧ W.cell? ⟨g6, jj * 3 + 2, none⟩ = some (.slice ya yr.part.length yc)) ∧ (W.cell? ⟨hb, k * 3, none⟩ = some (.int .i64 yr.stripe) ∧ W.cell? ⟨hb, k * 3 + 1, none⟩ = some (.int .i64 yr.place) ∧ W.cell? ⟨hb, k * 3 + 2, none⟩ = some (.slice xa yr.part.length xc)) ∧ Rd W ya yr.part ∧ Rd W xa yr.part) wr := ⟨hic, ⟨m0, m1, m2⟩, ⟨n0, n1, n2⟩, hry, hrx⟩
                have hsame : ∀ W : World, (fun W => W.cell? ⟨ib, k, none⟩ = some (.bool true) ∧ (W.cell? ⟨g6, jj * 3, none⟩ = some (.int .i64 yr.stripe) ∧ W.cell? ⟨g6, jj * 3 + 1, none⟩ = some (.int .i64 yr.place) ∧ W.cell? ⟨g6, jj * 3 + 2, none⟩ = some (.slice ya yr.part.length yc)) ∧ (W.cell? ⟨hb, k * 3, none⟩ = some (.int .i64 yr.stripe) ∧ W.cell? ⟨hb, k * 3 + 1, none⟩ = some (.int .i64 yr.place) ∧ W.cell? ⟨hb, k * 3 + 2, none⟩ = some (.slice xa yr.part.length xc)) ∧ Rd W ya yr.part ∧ Rd W xa yr.part) W → Calls Try.prog 15 #[.agg #[.int .i64 yr.stripe, .int .i64 yr.place, .slice ya yr.part.length yc], .agg #[.int .i64 yr.stripe, .int .i64 yr.place, .slice xa yr.part.length xc]] W fun e W' => e = .returned (.bool true) ∧ Below W.heap.size W W' ∧ (fun W => W.cell? ⟨ib, k, none⟩ = some (.bool true) ∧ (W.cell? ⟨g6, jj * 3, none⟩ = some (.int .i64 yr.stripe) ∧ W.cell? ⟨g6, jj * 3 + 1, none⟩ = some (.int .i64 yr.place) ∧ W.cell? ⟨g6, jj * 3 + 2, none⟩ = some (.slice ya yr.part.length yc)) ∧ (W.cell? ⟨hb, k * 3, none⟩ = some (.int .i64 yr.stripe) ∧ W.cell? ⟨hb, k * 3 + 1, none⟩ = some (.int .i64 yr.place) ∧ W.cell? ⟨hb, k * 3 + 2, none⟩ = some (.slice xa yr.part.length xc)) ∧ Rd W ya yr.part ∧ Rd W xa yr.part) W' := by
                  intro W hW
                  have h := rpp_same yr yr ya xa yr.part.length yc yr.part.length xc W rfl hW.2.2.2.1 rfl hW.2.2.2.2
                  rw [hsb] at h
                  refine h.mono ?_
                  rintro e W' ⟨rfl, hbx⟩
                  exact ⟨rfl, hbx, same_below2 hW hbx⟩
                replace hsame := Lib.hid hsame
                have hge : decide ((xs.length : Int) ≤ (jj : Int)) = false := decide_eq_false (by omega)
                have hgn : ¬ ((xs.length : Int) ≤ (jj : Int)) := by omega
                have hgm : ¬ (xs.length ≤ jj) := by omega
                have hgd : decide (xs.length ≤ jj) = false := decide_eq_false hgm
                replace hxk := Lib.hid hxk
                replace hRw := Lib.hid hRw
                replace hTw := Lib.hid hTw
                clear hsb hrx hry
                go_wp2_with fail
                refine wp_region_held_drew (S := (fun W => W.cell? ⟨ib, k, none⟩ = some (.bool true) ∧ (W.cell? ⟨g6, jj * 3, none⟩ = some (.int .i64 yr.stripe) ∧ W.cell? ⟨g6, jj * 3 + 1, none⟩ = some (.int .i64 yr.place) ∧ W.cell? ⟨g6, jj * 3 + 2, none⟩ = some (.slice ya yr.part.length yc)) ∧ (W.cell? ⟨hb, k * 3, none⟩ = some (.int .i64 yr.stripe) ∧ W.cell? ⟨hb, k * 3 + 1, none⟩ = some (.int .i64 yr.place) ∧ W.cell? ⟨hb, k * 3 + 2, none⟩ = some (.slice xa yr.part.length xc)) ∧ Rd W ya yr.part ∧ Rd W xa yr.part)) (by kernel_rfl) ?_ (fun hHeld => ?_)
                · (try dsimp only)
                  exact hic'
                refine wpAnyH_take (i := 0) (oi := ⟨_, _, _, _, _, _⟩) (v := ?v56) rfl (by kernel_rfl) (by kernel_rfl) (by kernel_rfl) (fun _ _ _ h => h) (Or.inl ⟨by rfl, ?hy56⟩) (by assumption) ?rest56
                case hy56 => (intro w hSw; (try dsimp only at hSw); go_simp; try with_reducible rfl)
                (try simp only [Act.put, List.setIfInBounds_toArray, List.set_cons_zero, List.set_cons_succ])
                refine wpAnyH_take (i := 1) (oi := ⟨_, _, _, _, _, _⟩) (v := ?v57) rfl (by kernel_rfl) (by kernel_rfl) (by kernel_rfl) (fun _ _ _ h => h) (Or.inl ⟨by rfl, ?hy57⟩) (by assumption) ?rest57
                case hy57 => (intro w hSw; (try dsimp only at hSw); go_simp; try with_reducible rfl)
                (try simp only [Act.put, List.setIfInBounds_toArray, List.set_cons_zero, List.set_cons_succ])
                refine wpAnyH_take (i := 2) (oi := ⟨_, _, _, _, _, _⟩) (v := ?v58) rfl (by kernel_rfl) (by kernel_rfl) (by kernel_rfl) (fun _ _ _ h => h) (Or.inl ⟨by rfl, ?hy58⟩) (by assumption) ?rest58
                case hy58 => (intro w hSw; (try dsimp only at hSw); go_simp; try with_reducible rfl)
                (try simp only [Act.put, List.setIfInBounds_toArray, List.set_cons_zero, List.set_cons_succ])
                refine wpAnyH_take (i := 3) (oi := ⟨_, _, _, _, _, _⟩) (v := ?v59) rfl (by kernel_rfl) (by kernel_rfl) (by kernel_rfl) (fun _ _ _ h => h) (Or.inl ⟨by rfl, ?hy59⟩) (by assumption) ?rest59
                case hy59 => (intro w hSw; (try dsimp only at hSw); go_simp; try with_reducible rfl)
                (try simp only [Act.put, List.setIfInBounds_toArray, List.set_cons_zero, List.set_cons_succ])
                refine wpAnyH_take (i := 4) (oi := ⟨_, _, _, _, _, _⟩) (v := ?v60) rfl (by kernel_rfl) (by kernel_rfl) (by kernel_rfl) (fun _ _ _ h => h) (Or.inl ⟨by rfl, ?hy60⟩) (by assumption) ?rest60
                case hy60 => (intro w hSw; (try dsimp only at hSw); go_simp; try with_reducible rfl)
                (try simp only [Act.put, List.setIfInBounds_toArray, List.set_cons_zero, List.set_cons_succ])
                refine wpAnyH_take (i := 5) (oi := ⟨_, _, _, _, _, _⟩) (v := ?v61) rfl (by kernel_rfl) (by kernel_rfl) (by kernel_rfl) (fun _ _ _ h => h) (Or.inl ⟨by rfl, ?hy61⟩) (by assumption) ?rest61
                case hy61 => (intro w hSw; (try dsimp only at hSw); go_simp; try with_reducible rfl)
                (try simp only [Act.put, List.setIfInBounds_toArray, List.set_cons_zero, List.set_cons_succ])
                refine wpAnyH_take (i := 6) (oi := ⟨_, _, _, _, _, _⟩) (v := ?v62) rfl (by kernel_rfl) (by kernel_rfl) (by kernel_rfl) (fun _ _ _ h => h) (Or.inl ⟨by rfl, ?hy62⟩) (by assumption) ?rest62
                case hy62 => (intro w hSw; (try dsimp only at hSw); go_simp; try with_reducible rfl)
                (try simp only [Act.put, List.setIfInBounds_toArray, List.set_cons_zero, List.set_cons_succ])
                refine wpAnyH_take (i := 7) (oi := ⟨_, _, _, _, _, _⟩) (v := ?v63) rfl (by kernel_rfl) (by kernel_rfl) (by kernel_rfl) (fun _ _ _ h => h) (Or.inl ⟨by rfl, ?hy63⟩) (by assumption) ?rest63
                case hy63 => (intro w hSw; (try dsimp only at hSw); go_simp; try with_reducible rfl)
                (try simp only [Act.put, List.setIfInBounds_toArray, List.set_cons_zero, List.set_cons_succ])
                refine wpAnyH_take (i := 8) (oi := ⟨_, _, _, _, _, _⟩) (v := ?v64) rfl (by kernel_rfl) (by kernel_rfl) (by kernel_rfl) (fun _ _ _ h => h) (Or.inl ⟨by rfl, ?hy64⟩) (by assumption) ?rest64
                case hy64 => (intro w hSw; (try dsimp only at hSw); go_simp; try with_reducible rfl)
                (try simp only [Act.put, List.setIfInBounds_toArray, List.set_cons_zero, List.set_cons_succ])
                refine wpAnyH_take (i := 9) (oi := ⟨_, _, _, _, _, _⟩) (v := ?v65) rfl (by kernel_rfl) (by kernel_rfl) (by kernel_rfl) (fun _ _ _ h => h) (Or.inl ⟨by rfl, ?hy65⟩) (by assumption) ?rest65
                case hy65 => (intro w hSw; (try dsimp only at hSw); go_simp; try with_reducible rfl)
                (try simp only [Act.put, List.setIfInBounds_toArray, List.set_cons_zero, List.set_cons_succ])
                refine wpAnyH_take (i := 10) (oi := ⟨_, _, _, _, _, _⟩) (v := ?v66) rfl (by kernel_rfl) (by kernel_rfl) (by kernel_rfl) (fun _ _ _ h => h) (Or.inl ⟨by rfl, ?hy66⟩) (by assumption) ?rest66
                case hy66 => (intro w hSw; (try dsimp only at hSw); go_simp; try with_reducible rfl)
                (try simp only [Act.put, List.setIfInBounds_toArray, List.set_cons_zero, List.set_cons_succ])
                refine wpAnyH_take (i := 11) (oi := ⟨_, _, _, _, _, _⟩) (v := ?v67) rfl (by kernel_rfl) (by kernel_rfl) (by kernel_rfl) (fun _ _ _ h => h) (Or.inl ⟨by rfl, ?hy67⟩) (by assumption) ?rest67
                case hy67 => (intro w hSw; (try dsimp only at hSw); go_simp; try with_reducible rfl)
                (try simp only [Act.put, List.setIfInBounds_toArray, List.set_cons_zero, List.set_cons_succ])
                refine wpAnyH_take (i := 12) (oi := ⟨_, _, _, _, _, _⟩) (v := ?v68) rfl (by kernel_rfl) (by kernel_rfl) (by kernel_rfl) (fun _ _ _ h => h) (Or.inl ⟨by rfl, ?hy68⟩) (by assumption) ?rest68
                case hy68 => (intro w hSw; (try dsimp only at hSw); go_simp; try with_reducible rfl)
                (try simp only [Act.put, List.setIfInBounds_toArray, List.set_cons_zero, List.set_cons_succ])
                refine wpAnyH_ready (rs := [13]) (by kernel_rfl) (by simp) ?_
                refine AllReadyH.cons (o := ⟨_, _, _, _, _, _⟩) rfl (fun K hK => ?_) AllReadyH.nil
                go_simp
                refine (hsame.out _ hHeld).mono ?_
                rintro e w9 ⟨rfl, hb9, hS9⟩
                (try go_wp2_with fail)
                refine hK.out _ _ ?_ (fun hHeld2 => ?_)
                · (try dsimp only)
                  first | exact hHeld | exact hS9
                clear hK K
                replace hHeld := hHeld2
                clear hHeld2
                (try simp only [Act.put, List.setIfInBounds_toArray, List.set_cons_zero, List.set_cons_succ])
                refine wpAnyH_take (i := 14) (oi := ⟨_, _, _, _, _, _⟩) (v := ?v69) rfl (by kernel_rfl) (by kernel_rfl) (by kernel_rfl) (fun _ _ _ h => h) (Or.inl ⟨by rfl, ?hy69⟩) (by assumption) ?rest69
                case hy69 => (intro w hSw; (try dsimp only at hSw); go_simp; try with_reducible rfl)
                (try simp only [Act.put, List.setIfInBounds_toArray, List.set_cons_zero, List.set_cons_succ])
                refine wpAnyH_take (i := 15) (oi := ⟨_, _, _, _, _, _⟩) (v := ?v70) rfl (by kernel_rfl) (by kernel_rfl) (by kernel_rfl) (fun _ _ _ h => h) (Or.inl ⟨by rfl, ?hy70⟩) (by assumption) ?rest70
                case hy70 => (intro w hSw; (try dsimp only at hSw); go_simp; try with_reducible rfl)
                (try simp only [Act.put, List.setIfInBounds_toArray, List.set_cons_zero, List.set_cons_succ])
                refine wpAnyH_done (by kernel_rfl) ?_ _
                have hb19 := below_to hbel.drew hb9
                clear hHeld hsame hS9 hic' hb9 m0 m1 m2 n0 n1 n2 hic hif
                go_wp2
                go_roundw
                case rel => exact ⟨k + 1, jj + 1, by go_num, by go_num, by omega, Lib.hid (by rw [fm_some _ (r := yr) (by rw [hx]; rfl)]; rw [hjj.out]), hb19⟩
                case measure => simp [intOf]; omega
            · have hkk : k = n := by omega
              subst hkk
              have hjn : jj = xs.length := by rw [hjj.out, ← hq.out, List.length_map]
              subst hjn
              clear hjj hq
              go_wp2
              go_ret
              exact ⟨by simp, hB6.trans (hbel.mono hB6.size)⟩
      · as_aux_lemma =>
          go_wp2_with fail
          with_reducible refine hct.mono ?_
          rintro e w6 ⟨A6, c6, xs, Z, rfl, hxs, hR6, hD6, hK6⟩
          dsimp only at hxs hR6 hD6 ⊢
          subst hxs
          rw [List.length_map] at hR6 ⊢
          have hB06 := hK6.below (base := w.heap.size) fun b hb => .inl (.inl hb)
          have hT6 := Lib.hid (hTr.kept hB06 (hK6.block hb (.inr (.inl rfl))) (hK6.block ib (.inr (.inr rfl))))
          have hB6 := hB.trans hB06
          have hZ : ∀ b, Z b → b < w6.heap.size := fun b hz => hD6.lt b (.inr hz)
          have hq : Hid (xs.map (·.1) = (List.range n).filterMap fun k => (H k).map (·.1)) := q1
          have hxl : xs.length ≤ 8 := by have e := congrArg List.length q1.out; rw [List.length_map] at e; omega
          replace hR6 := Lib.hid hR6
          replace hZ := Lib.hid hZ
          clear hct hK6 hD6 hB06 q1 hlr hTr hT hB hD hI
          go_wp2_with fail
          go_loopw [21, 22] (fun y z wr => ∃ (k jj : Nat), y = .int .i64 jj ∧ z = .int .i64 k ∧ k ≤ n ∧ Hid (jj = ((List.range k).filterMap fun k => (H k).map (·.1)).length) ∧ Below w6.heap.size w6 wr)
            (fun _ z _ => (n - intOf z).toNat)
          case atStart => exact ⟨0, 0, by go_num, by go_num, by omega, Lib.hid rfl, Below.refl _ _⟩
          case round =>
            obtain ⟨k, jj, rfl, rfl, hkn, hjj, hbel⟩ := hrel
            by_cases hk : k < n
            · have hTw := hT6.out.kept (hbel.mono hB6.size) (hbel.block hb hT6.out.hlt) (hbel.block ib hT6.out.ilt)
              obtain ⟨hic, hif⟩ := hTw.isc hk
              have hil := hTw.ilt
              cases hx : H k with
              | none =>
                rw [hx] at hic
                replace hic : wr.cell? ⟨ib, k, none⟩ = some (.bool false) := hic
                go_wp2
                go_roundw
                case rel => exact ⟨k + 1, jj, rfl, by go_num, by omega, Lib.hid (by rw [fm_none _ (by rw [hx]; rfl)]; exact hjj.out), hbel⟩
                case measure => simp [intOf]; omega
              | some x =>
                obtain ⟨xr, xa, xc⟩ := x
                rw [hx] at hic
                replace hic : wr.cell? ⟨ib, k, none⟩ = some (.bool true) := hic
                have hRw := hR6.out.kept (fun b hz => hbel.block b (hZ.out b hz))
                obtain ⟨hjl, hjx⟩ := fm_at (fun k => (H k).map (·.1)) xs hq.out hk (r := xr) (by simp [hx]) hjj.out
                obtain ⟨g6, rfl, m0, m1, m2⟩ := recsat_cells hRw (by omega) hjl
                have hry := (hRw.el _ (List.getElem_mem hjl)).1
                generalize hxk : xs[jj] = y at *
                obtain ⟨yr, ya, yc⟩ := y
                replace hjx : yr = xr := hjx
                subst hjx
                dsimp only at m0 m1 m2 hry
                obtain ⟨n0, n1, n2⟩ := hTw.rec_ hk hx
                dsimp only at n0 n1 n2
                have hrx := (hTw.el k hk _ hx).1
                dsimp only at hrx
                have hsb : sameB yr yr = true := by simp [sameB]
                have hic' : (fun W => W.cell? ⟨ib, k, none⟩ = some (.bool true) ∧ (W.cell? ⟨g6, jj * 3, none⟩ = some (.int .i64 yr.stripe) ∧ W.cell? ⟨g6, jj * 3 + 1, none⟩ = some (.int .i64 yr.place) ∧ W.cell? ⟨g6, jj * 3 + 2, none⟩ = some (.slice ya yr.part.length yc)) ∧ (W.cell? ⟨hb, k * 3, none⟩ = some (.int .i64 yr.stripe) ∧ W.cell? ⟨hb, k * 3 + 1, none⟩ = some (.int .i64 yr.place) ∧ W.cell? ⟨hb, k * 3 + 2, none⟩ = some (.slice xa yr.part.length xc)) ∧ Rd W ya yr.part ∧ Rd W xa yr.part) wr := ⟨hic, ⟨m0, m1, m2⟩, ⟨n0, n1, n2⟩, hry, hrx⟩
                have hsame : ∀ W : World, (fun W => W.cell? ⟨ib, k, none⟩ = some (.bool true) ∧ (W.cell? ⟨g6, jj * 3, none⟩ = some (.int .i64 yr.stripe) ∧ W.cell? ⟨g6, jj * 3 + 1, none⟩ = some (.int .i64 yr.place) ∧ W.cell? ⟨g6, jj * 3 + 2, none⟩ = some (.slice ya yr.part.length yc)) ∧ (W.cell? ⟨hb, k * 3, none⟩ = some (.int .i64 yr.stripe) ∧ W.cell? ⟨hb, k * 3 + 1, none⟩ = some (.int .i64 yr.place) ∧ W.cell? ⟨hb, k * 3 + 2, none⟩ = some (.slice xa yr.part.length xc)) ∧ Rd W ya yr.part ∧ Rd W xa yr.part) W → Calls Try.prog 15 #[.agg #[.int .i64 yr.stripe, .int .i64 yr.place, .slice ya yr.part.length yc], .agg #[.int .i64 yr.stripe, .int .i64 yr.place, .slice xa yr.part.length xc]] W fun e W' => e = .returned (.bool true) ∧ Below W.heap.size W W' ∧ (fun W => W.cell? ⟨ib, k, none⟩ = some (.bool true) ∧ (W.cell? ⟨g6, jj * 3, none⟩ = some (.int .i64 yr.stripe) ∧ W.cell? ⟨g6, jj * 3 + 1, none⟩ = some (.int .i64 yr.place) ∧ W.cell? ⟨g6, jj * 3 + 2, none⟩ = some (.slice ya yr.part.length yc)) ∧ (W.cell? ⟨hb, k * 3, none⟩ = some (.int .i64 yr.stripe) ∧ W.cell? ⟨hb, k * 3 + 1, none⟩ = some (.int .i64 yr.place) ∧ W.cell? ⟨hb, k * 3 + 2, none⟩ = some (.slice xa yr.part.length xc)) ∧ Rd W ya yr.part ∧ Rd W xa yr.part) W' := by
                  intro W hW
                  have h := rpp_same yr yr ya xa yr.part.length yc yr.part.length xc W rfl hW.2.2.2.1 rfl hW.2.2.2.2
                  rw [hsb] at h
                  refine h.mono ?_
                  rintro e W' ⟨rfl, hbx⟩
                  exact ⟨rfl, hbx, same_below2 hW hbx⟩
                replace hsame := Lib.hid hsame
                have hge : decide ((xs.length : Int) ≤ (jj : Int)) = false := decide_eq_false (by omega)
                have hgn : ¬ ((xs.length : Int) ≤ (jj : Int)) := by omega
                have hgm : ¬ (xs.length ≤ jj) := by omega
                have hgd : decide (xs.length ≤ jj) = false := decide_eq_false hgm
                replace hxk := Lib.hid hxk
                replace hRw := Lib.hid hRw
                replace hTw := Lib.hid hTw
                clear hsb hrx hry
                go_wp2_with fail
                refine wp_region_held_drew (S := (fun W => W.cell? ⟨ib, k, none⟩ = some (.bool true) ∧ (W.cell? ⟨g6, jj * 3, none⟩ = some (.int .i64 yr.stripe) ∧ W.cell? ⟨g6, jj * 3 + 1, none⟩ = some (.int .i64 yr.place) ∧ W.cell? ⟨g6, jj * 3 + 2, none⟩ = some (.slice ya yr.part.length yc)) ∧ (W.cell? ⟨hb, k * 3, none⟩ = some (.int .i64 yr.stripe) ∧ W.cell? ⟨hb, k * 3 + 1, none⟩ = some (.int .i64 yr.place) ∧ W.cell? ⟨hb, k * 3 + 2, none⟩ = some (.slice xa yr.part.length xc)) ∧ Rd W ya yr.part ∧ Rd W xa yr.part)) (by kernel_rfl) ?_ (fun hHeld => ?_)
                · (try dsimp only)
                  exact hic'
                refine wpAnyH_take (i := 0) (oi := ⟨_, _, _, _, _, _⟩) (v := ?v71) rfl (by kernel_rfl) (by kernel_rfl) (by kernel_rfl) (fun _ _ _ h => h) (Or.inl ⟨by rfl, ?hy71⟩) (by assumption) ?rest71
                case hy71 => (intro w hSw; (try dsimp only at hSw); go_simp; try with_reducible rfl)
                (try simp only [Act.put, List.setIfInBounds_toArray, List.set_cons_zero, List.set_cons_succ])
                refine wpAnyH_take (i := 1) (oi := ⟨_, _, _, _, _, _⟩) (v := ?v72) rfl (by kernel_rfl) (by kernel_rfl) (by kernel_rfl) (fun _ _ _ h => h) (Or.inl ⟨by rfl, ?hy72⟩) (by assumption) ?rest72
                case hy72 => (intro w hSw; (try dsimp only at hSw); go_simp; try with_reducible rfl)
                (try simp only [Act.put, List.setIfInBounds_toArray, List.set_cons_zero, List.set_cons_succ])
                refine wpAnyH_take (i := 2) (oi := ⟨_, _, _, _, _, _⟩) (v := ?v73) rfl (by kernel_rfl) (by kernel_rfl) (by kernel_rfl) (fun _ _ _ h => h) (Or.inl ⟨by rfl, ?hy73⟩) (by assumption) ?rest73
                case hy73 => (intro w hSw; (try dsimp only at hSw); go_simp; try with_reducible rfl)
                (try simp only [Act.put, List.setIfInBounds_toArray, List.set_cons_zero, List.set_cons_succ])
                refine wpAnyH_take (i := 3) (oi := ⟨_, _, _, _, _, _⟩) (v := ?v74) rfl (by kernel_rfl) (by kernel_rfl) (by kernel_rfl) (fun _ _ _ h => h) (Or.inl ⟨by rfl, ?hy74⟩) (by assumption) ?rest74
                case hy74 => (intro w hSw; (try dsimp only at hSw); go_simp; try with_reducible rfl)
                (try simp only [Act.put, List.setIfInBounds_toArray, List.set_cons_zero, List.set_cons_succ])
                refine wpAnyH_take (i := 4) (oi := ⟨_, _, _, _, _, _⟩) (v := ?v75) rfl (by kernel_rfl) (by kernel_rfl) (by kernel_rfl) (fun _ _ _ h => h) (Or.inl ⟨by rfl, ?hy75⟩) (by assumption) ?rest75
                case hy75 => (intro w hSw; (try dsimp only at hSw); go_simp; try with_reducible rfl)
                (try simp only [Act.put, List.setIfInBounds_toArray, List.set_cons_zero, List.set_cons_succ])
                refine wpAnyH_take (i := 5) (oi := ⟨_, _, _, _, _, _⟩) (v := ?v76) rfl (by kernel_rfl) (by kernel_rfl) (by kernel_rfl) (fun _ _ _ h => h) (Or.inl ⟨by rfl, ?hy76⟩) (by assumption) ?rest76
                case hy76 => (intro w hSw; (try dsimp only at hSw); go_simp; try with_reducible rfl)
                (try simp only [Act.put, List.setIfInBounds_toArray, List.set_cons_zero, List.set_cons_succ])
                refine wpAnyH_take (i := 6) (oi := ⟨_, _, _, _, _, _⟩) (v := ?v77) rfl (by kernel_rfl) (by kernel_rfl) (by kernel_rfl) (fun _ _ _ h => h) (Or.inl ⟨by rfl, ?hy77⟩) (by assumption) ?rest77
                case hy77 => (intro w hSw; (try dsimp only at hSw); go_simp; try with_reducible rfl)
                (try simp only [Act.put, List.setIfInBounds_toArray, List.set_cons_zero, List.set_cons_succ])
                refine wpAnyH_take (i := 7) (oi := ⟨_, _, _, _, _, _⟩) (v := ?v78) rfl (by kernel_rfl) (by kernel_rfl) (by kernel_rfl) (fun _ _ _ h => h) (Or.inl ⟨by rfl, ?hy78⟩) (by assumption) ?rest78
                case hy78 => (intro w hSw; (try dsimp only at hSw); go_simp; try with_reducible rfl)
                (try simp only [Act.put, List.setIfInBounds_toArray, List.set_cons_zero, List.set_cons_succ])
                refine wpAnyH_take (i := 8) (oi := ⟨_, _, _, _, _, _⟩) (v := ?v79) rfl (by kernel_rfl) (by kernel_rfl) (by kernel_rfl) (fun _ _ _ h => h) (Or.inl ⟨by rfl, ?hy79⟩) (by assumption) ?rest79
                case hy79 => (intro w hSw; (try dsimp only at hSw); go_simp; try with_reducible rfl)
                (try simp only [Act.put, List.setIfInBounds_toArray, List.set_cons_zero, List.set_cons_succ])
                refine wpAnyH_take (i := 9) (oi := ⟨_, _, _, _, _, _⟩) (v := ?v80) rfl (by kernel_rfl) (by kernel_rfl) (by kernel_rfl) (fun _ _ _ h => h) (Or.inl ⟨by rfl, ?hy80⟩) (by assumption) ?rest80
                case hy80 => (intro w hSw; (try dsimp only at hSw); go_simp; try with_reducible rfl)
                (try simp only [Act.put, List.setIfInBounds_toArray, List.set_cons_zero, List.set_cons_succ])
                refine wpAnyH_take (i := 10) (oi := ⟨_, _, _, _, _, _⟩) (v := ?v81) rfl (by kernel_rfl) (by kernel_rfl) (by kernel_rfl) (fun _ _ _ h => h) (Or.inl ⟨by rfl, ?hy81⟩) (by assumption) ?rest81
                case hy81 => (intro w hSw; (try dsimp only at hSw); go_simp; try with_reducible rfl)
                (try simp only [Act.put, List.setIfInBounds_toArray, List.set_cons_zero, List.set_cons_succ])
                refine wpAnyH_take (i := 11) (oi := ⟨_, _, _, _, _, _⟩) (v := ?v82) rfl (by kernel_rfl) (by kernel_rfl) (by kernel_rfl) (fun _ _ _ h => h) (Or.inl ⟨by rfl, ?hy82⟩) (by assumption) ?rest82
                case hy82 => (intro w hSw; (try dsimp only at hSw); go_simp; try with_reducible rfl)
                (try simp only [Act.put, List.setIfInBounds_toArray, List.set_cons_zero, List.set_cons_succ])
                refine wpAnyH_take (i := 12) (oi := ⟨_, _, _, _, _, _⟩) (v := ?v83) rfl (by kernel_rfl) (by kernel_rfl) (by kernel_rfl) (fun _ _ _ h => h) (Or.inl ⟨by rfl, ?hy83⟩) (by assumption) ?rest83
                case hy83 => (intro w hSw; (try dsimp only at hSw); go_simp; try with_reducible rfl)
                (try simp only [Act.put, List.setIfInBounds_toArray, List.set_cons_zero, List.set_cons_succ])
                refine wpAnyH_ready (rs := [13]) (by kernel_rfl) (by simp) ?_
                refine AllReadyH.cons (o := ⟨_, _, _, _, _, _⟩) rfl (fun K hK => ?_) AllReadyH.nil
                go_simp
                refine (hsame.out _ hHeld).mono ?_
                rintro e w9 ⟨rfl, hb9, hS9⟩
                (try go_wp2_with fail)
                refine hK.out _ _ ?_ (fun hHeld2 => ?_)
                · (try dsimp only)
                  first | exact hHeld | exact hS9
                clear hK K
                replace hHeld := hHeld2
                clear hHeld2
                (try simp only [Act.put, List.setIfInBounds_toArray, List.set_cons_zero, List.set_cons_succ])
                refine wpAnyH_take (i := 14) (oi := ⟨_, _, _, _, _, _⟩) (v := ?v84) rfl (by kernel_rfl) (by kernel_rfl) (by kernel_rfl) (fun _ _ _ h => h) (Or.inl ⟨by rfl, ?hy84⟩) (by assumption) ?rest84
                case hy84 => (intro w hSw; (try dsimp only at hSw); go_simp; try with_reducible rfl)
                (try simp only [Act.put, List.setIfInBounds_toArray, List.set_cons_zero, List.set_cons_succ])
                refine wpAnyH_take (i := 15) (oi := ⟨_, _, _, _, _, _⟩) (v := ?v85) rfl (by kernel_rfl) (by kernel_rfl) (by kernel_rfl) (fun _ _ _ h => h) (Or.inl ⟨by rfl, ?hy85⟩) (by assumption) ?rest85
                case hy85 => (intro w hSw; (try dsimp only at hSw); go_simp; try with_reducible rfl)
                (try simp only [Act.put, List.setIfInBounds_toArray, List.set_cons_zero, List.set_cons_succ])
                refine wpAnyH_done (by kernel_rfl) ?_ _
                have hb19 := below_to hbel.drew hb9
                clear hHeld hsame hS9 hic' hb9 m0 m1 m2 n0 n1 n2 hic hif
                go_wp2
                go_roundw
                case rel => exact ⟨k + 1, jj + 1, by go_num, by go_num, by omega, Lib.hid (by rw [fm_some _ (r := yr) (by rw [hx]; rfl)]; rw [hjj.out]), hb19⟩
                case measure => simp [intOf]; omega
            · have hkk : k = n := by omega
              subst hkk
              have hjn : jj = xs.length := by rw [hjj.out, ← hq.out, List.length_map]
              subst hjn
              clear hjj hq
              go_wp2
              go_ret
              exact ⟨by simp, hB6.trans (hbel.mono hB6.size)⟩
theorem pplLogs_walk (slots : Int) (B : Option Addr) (m d : Nat) (ops : List OpP) (w : World)
    (hs0 : -9223372036854775808 ≤ slots) (hs1 : slots ≤ 9223372036854775807) (hops : OpsP w w.heap.size B ops) (hm : ops.length = m) :
    Calls Try.prog 6 #[.int .i64 slots, .slice B m d] w fun e w' => e = .returned (.bool true) ∧ Below w.heap.size w w' := by
  by_cases h : 1 ≤ slots ∧ slots ≤ 8
  · obtain ⟨h1, h2⟩ := h
    obtain ⟨n, rfl⟩ := Int.eq_ofNat_of_zero_le (show 0 ≤ slots by omega)
    exact logs_ok n (by omega) (by omega) B m d ops w hops hm
  · exact logs_bad slots B m d w hs0 hs1 (by omega)
end Go.Proofs.Ytibpmiapcihkfaa

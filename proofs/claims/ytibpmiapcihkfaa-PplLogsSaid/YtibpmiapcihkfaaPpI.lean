/-
  THE WALK over a log's All.
-/
import Derived.Test.YtibpmiapcihkfaaPpH
import Derived.Test.YtibpmiapcihkfaaSuY
namespace Go.Proofs.Ytibpmiapcihkfaa
set_option linter.all false
open Go.RowKit

def recCells (x : Rec × Option Addr × Nat) : List Value := [.int .i64 x.1.stripe, .int .i64 x.1.place, .slice x.2.1 x.1.part.length x.2.2]
theorem recCells_len (xs : List (Rec × Option Addr × Nat)) : (xs.flatMap recCells).length = xs.length * 3 := by
  induction xs with
  | nil => rfl
  | cons x xs ih => simp [ih, recCells]; omega
theorem recCells_one (x : Rec × Option Addr × Nat) : ∀ u ∈ recCells x, u.oneCell' = true := by
  intro u hu
  simp only [recCells, List.mem_cons, List.not_mem_nil, or_false] at hu
  rcases hu with rfl | rfl | rfl <;> rfl
/-- a row of records; all of it lies in Z -/
structure RecsAt (w : World) (base : Nat) (Z : Nat → Prop) (v : Value) (xs : List (Rec × Option Addr × Nat)) : Prop where
  row : w.ownsRow base 24 3 v xs.length (xs.flatMap recCells)
  own : ∀ b, v.ownBlock = some b → Z b
  el : ∀ x ∈ xs, Rd w x.2.1 x.1.part ∧ ∀ ad, x.2.1 = some ad → Z ad.block ∧ v.ownBlock ≠ some ad.block
theorem ownsRow_blk {w w' : World} {base e size n : Nat} {v : Value} {vs : List Value} (h : w.ownsRow base e size v n vs) (hb : ∀ b, v.ownBlock = some b → w'.heap[b]? = w.heap[b]?) : w'.ownsRow base e size v n vs := by
  refine ⟨h.1, ?_⟩
  rcases h.2 with h0 | ⟨g, cap, cur, hv, hbg, hg, r⟩
  · exact .inl h0
  · refine .inr ⟨g, cap, cur, hv, hbg, (hb g ?_).trans hg, r⟩
    subst hv
    simp [Value.ownBlock]
theorem Rd.blkZ {w w' : World} {A : Option Addr} {bs : List UInt8} (h : Rd w A bs) (hb : ∀ ad, A = some ad → w'.heap[ad.block]? = w.heap[ad.block]?) : Rd w' A bs :=
  ⟨h.1, h.2.1, fun ad e i hi => (World.cell?_of_block (by rw [add_block]; exact hb ad e)).trans (h.2.2 ad e i hi)⟩
theorem RecsAt.kept {w w' : World} {base : Nat} {Z : Nat → Prop} {v : Value} {xs : List (Rec × Option Addr × Nat)} (h : RecsAt w base Z v xs) (hb : ∀ b, Z b → w'.heap[b]? = w.heap[b]?) : RecsAt w' base Z v xs :=
  ⟨ownsRow_blk h.row fun b e => hb b (h.own b e), h.own, fun x hx => ⟨(h.el x hx).1.blkZ fun ad e => hb _ ((h.el x hx).2 ad e).1, (h.el x hx).2⟩⟩
theorem RecsAt.more {w : World} {base : Nat} {Z Z' : Nat → Prop} {v : Value} {xs : List (Rec × Option Addr × Nat)} (h : RecsAt w base Z v xs) (hZ : ∀ b, Z b → Z' b) : RecsAt w base Z' v xs :=
  ⟨h.row, fun b e => hZ b (h.own b e), fun x hx => ⟨(h.el x hx).1, fun ad e => ⟨hZ _ ((h.el x hx).2 ad e).1, ((h.el x hx).2 ad e).2⟩⟩⟩
theorem ownsRow_lt {w : World} {base e size n : Nat} {v : Value} {vs : List Value} (h : w.ownsRow base e size v n vs) : ∀ b, v.ownBlock = some b → base ≤ b ∧ b < w.heap.size := fun b hb => World.ownsRow.lt h b hb
theorem Try.infoRec : (Try.prog.info? 24).map (fun i => (i.zero, i.size, i.bytes)) = some (some (.agg #[.int .i64 0, .int .i64 0, .slice none 0 0]), 3, 40) := by kernel_rfl
/-- a record is put behind the others -/
theorem recs_append {w1 W2 w5 : World} {base g a : Nat} {X Z : Nat → Prop} {v v' : Value} {xs : List (Rec × Option Addr × Nat)} {x : Rec × Option Addr × Nat} {s : ShM} {D : DevM}
    (hR : RecsAt w1 base Z v xs) (hD : DvX (fun b => (X b ∨ Z b) ∨ ∃ ad, x.2.1 = some ad ∧ ad.block = b) a g w1 s D) (hx : Rd w1 x.2.1 x.1.part) (hxn : ∀ ad, x.2.1 = some ad → v.ownBlock ≠ some ad.block) (hxl : ∀ b, X b → b < base)
    (hb12 : Below w1.heap.size w1 W2) (hrow : w5.ownsRow base 24 3 v' (xs.length + 1) (xs.flatMap recCells ++ recCells x)) (hg : W2.grownBy w5 v.ownBlock) (hw : v'.ownBlock = v.ownBlock ∨ v'.ownBlock = some W2.heap.size) :
    RecsAt w5 base (fun b => Z b ∨ (∃ ad, x.2.1 = some ad ∧ ad.block = b) ∨ v'.ownBlock = some b) v' (xs ++ [x]) ∧
    DvX (fun b => X b ∨ Z b ∨ (∃ ad, x.2.1 = some ad ∧ ad.block = b) ∨ v'.ownBlock = some b) a g w5 s D ∧ Kept X w1 w5 := by
  have hvo := ownsRow_lt hR.row
  have hsz := hb12.size
  have hsame : ∀ b, b < w1.heap.size → v.ownBlock ≠ some b → w5.heap[b]? = w1.heap[b]? := fun b hb hne => (hg.block b (by omega) (fun e => hne e.symm)).trans (hb12.block b hb)
  have hlast : ∀ b, (X b ∨ Z b) ∨ (∃ ad, x.2.1 = some ad ∧ ad.block = b) → b < w1.heap.size := hD.lt
  refine ⟨⟨?_, fun b e => .inr (.inr e), fun y hy => ?_⟩, ?_, ?_⟩
  · rw [List.length_append, List.flatMap_append]
    simpa using hrow
  · have key : ∀ ad, y.2.1 = some ad → (Rd w1 y.2.1 y.1.part ∧ ad.block < w1.heap.size ∧ v.ownBlock ≠ some ad.block ∧ (Z ad.block ∨ ∃ ad', x.2.1 = some ad' ∧ ad'.block = ad.block)) ∧ Rd w1 y.2.1 y.1.part := by
      intro ad e
      rcases List.mem_append.1 hy with hy | hy
      · obtain ⟨h1, h2⟩ := hR.el y hy
        exact ⟨⟨h1, hlast _ (.inl (.inr (h2 ad e).1)), (h2 ad e).2, .inl (h2 ad e).1⟩, h1⟩
      · simp only [List.mem_singleton] at hy
        subst hy
        exact ⟨⟨hx, hlast _ (.inr ⟨ad, e, rfl⟩), hxn ad e, .inr ⟨ad, e, rfl⟩⟩, hx⟩
    have hrd : Rd w1 y.2.1 y.1.part := by
      rcases List.mem_append.1 hy with hy | hy
      · exact (hR.el y hy).1
      · simp only [List.mem_singleton] at hy
        subst hy
        exact hx
    refine ⟨hrd.blkZ fun ad e => hsame _ (key ad e).1.2.1 (key ad e).1.2.2.1, fun ad e => ⟨?_, ?_⟩⟩
    · rcases (key ad e).1.2.2.2 with h | h
      · exact .inl h
      · exact .inr (.inl h)
    · rcases hw with hw | hw
      · rw [hw]; exact (key ad e).1.2.2.1
      · rw [hw]
        intro h
        injection h with h
        have := (key ad e).1.2.1
        omega
  · refine hD.turn (Nat.le_trans hsz hg.size) (fun b hb hnx => hsame b hb fun e => hnx (.inl (.inr (hR.own b e)))) fun b hb => ?_
    have hs5 := hg.size
    rcases hb with hb | hb | hb | hb
    · exact ⟨Nat.lt_of_lt_of_le (hlast b (.inl (.inl hb))) (Nat.le_trans hsz hs5), .inl (.inl (.inl hb))⟩
    · exact ⟨Nat.lt_of_lt_of_le (hlast b (.inl (.inr hb))) (Nat.le_trans hsz hs5), .inl (.inl (.inr hb))⟩
    · exact ⟨Nat.lt_of_lt_of_le (hlast b (.inr hb)) (Nat.le_trans hsz hs5), .inl (.inr hb)⟩
    · refine ⟨(ownsRow_lt hrow b hb).2, ?_⟩
      rcases hw with hw | hw
      · exact .inl (.inl (.inr (hR.own b (hw ▸ hb))))
      · rw [hw] at hb
        injection hb with hb
        exact .inr (by omega)
  · refine ⟨hg.os.trans hb12.os, hg.tape.trans hb12.tape, hg.output.trans hb12.output, Nat.le_trans hsz hg.size, fun b hb => ?_⟩
    exact hsame b (hlast b (.inl (.inl hb))) fun e => by
      have h1 := (hvo b e).1
      have h2 := hxl b hb
      omega
def AllPost (X : Nat → Prop) (a g : Nat) (w : World) (D : DevM) (r : List Rec × ShM) (e : Ending) (w' : World) : Prop :=
  ∃ A c xs Z, e = .returned (.slice A r.1.length c) ∧ xs.map (·.1) = r.1 ∧ RecsAt w' w.heap.size Z (.slice A r.1.length c) xs ∧ DvX (fun b => X b ∨ Z b) a g w' r.2 D ∧ Kept X w w'
theorem room_lget {s : ShM} {N : Nat} (h : Room N s) (D : DevM) (slots : Nat) (slot : Int) : Room N (logGet s D slots slot).2.2 := by
  have h1 := room_dread h D (2 + 2 * slot)
  have h2 := room_dread h1 D (2 + 2 * slot + 1)
  by_cases k0 : slotOk slots slot = true
  · by_cases k1 : (devRead s D (2 + 2 * slot)).2.1 = 0
    · by_cases k2 : (devRead s D (2 + 2 * slot)).1 = zeroSec
      · rw [show logGet s D slots slot = (noRec, 7, (devRead s D (2 + 2 * slot)).2.2) from by simp only [logGet, k0, k1, k2, if_true]]
        exact h1
      · by_cases k3 : (devRead (devRead s D (2 + 2 * slot)).2.2 D (2 + 2 * slot + 1)).2.1 = 0
        · rw [show (logGet s D slots slot).2.2 = (devRead (devRead s D (2 + 2 * slot)).2.2 D (2 + 2 * slot + 1)).2.2 from by simp only [logGet, k0, k1, k2, k3, if_true, if_false]]
          exact h2
        · rw [show (logGet s D slots slot).2.2 = (devRead (devRead s D (2 + 2 * slot)).2.2 D (2 + 2 * slot + 1)).2.2 from by simp only [logGet, k0, k1, k2, k3, if_true, if_false]]
          exact h2
    · rw [show (logGet s D slots slot).2.2 = (devRead s D (2 + 2 * slot)).2.2 from by simp only [logGet, k0, k1, if_true, if_false]]
      exact h1
  · rw [show (logGet s D slots slot).2.2 = s from by simp only [logGet, k0, if_false, Bool.false_eq_true]]
    exact h
theorem logAll_room {s : ShM} {N : Nat} (h : Room N s) (D : DevM) (slots : Nat) : ∀ k, Room N (logAll s D slots k).2
  | 0 => h
  | k + 1 => room_lget (logAll_room h D slots k) D slots k
set_option maxRecDepth 100000 in
set_option maxHeartbeats 4000000 in
theorem lg_all {X : Nat → Prop} {a g l slots : Nat} {w : World} {s : ShM} {D : DevM} (h : DvX X a g w s D) (hl : LogRow w l a slots) (hX : X l) (hs8 : slots ≤ 8) (hroom : Room 999999999980 s) :
    Calls Try.prog 24 #[.pointer (some ⟨l, 0, none⟩)] w (AllPost X a g w D (logAll s D slots slots)) := by
  have hlc := hl.c1
  have hllt := hl.lt
  have hlt := Lib.hid h.lt
  have hroomk := Lib.hid (logAll_room hroom D slots)
  have hR0 : RecsAt w w.heap.size (fun _ => False) (.slice none 0 0) [] := ⟨World.ownsRow_nil _ _ _ _, (fun b e => by cases e), fun x hx => by cases hx⟩
  have hD0 := h.mono (Y := fun b => X b ∨ False) fun b hb => hb.elim id False.elim
  have hK0 : Kept X w w := Kept.refl _ _
  have hA0 : Hid (logAll s D slots 0 = (([] : List (Rec × Option Addr × Nat)).map (·.1), s)) := Lib.hid rfl
  clear h hroom
  go_enter Try.func24, Try.ntmps24
  go_wp2_with fail
  go_loopw [3, 13] (fun p q wr => ∃ (k : Nat) (s' : ShM) (xs : List (Rec × Option Addr × Nat)) (Z : Nat → Prop) (A : Option Addr) (c : Nat), p = .slice A xs.length c ∧ q = .int .i64 k ∧ k ≤ slots ∧ xs.length ≤ k ∧ Hid (logAll s D slots k = (xs.map (·.1), s')) ∧ Hid (RecsAt wr w.heap.size Z (.slice A xs.length c) xs) ∧ DvX (fun b => X b ∨ Z b) a g wr s' D ∧ Kept X w wr)
    (fun _ q _ => slots - (intOf q).toNat)
  case atStart => exact ⟨0, s, [], _, none, 0, rfl, by go_num, by omega, by simp, hA0, Lib.hid hR0, hD0, hK0⟩
  case round =>
    clear hA0 hR0 hD0 hK0 hlc hllt
    obtain ⟨k, s', xs, Z, A, c, rfl, rfl, hk, hxk, hA, hR, hD, hK⟩ := hrel
    by_cases hlk : k < slots
    · have hct := lg_get hD (hl.kept hK hX) (.inl hX) hs8 (by have := hroomk.out k; rw [hA.out] at this; exact this) (k : Int)
      have hstep : Hid (logAll s D slots (k + 1) = (if (logGet s' D slots k).2.1 = 0 then xs.map (·.1) ++ [(logGet s' D slots k).1] else xs.map (·.1), (logGet s' D slots k).2.2)) := Lib.hid (by
        show (let p := logAll s D slots k; let r := logGet p.2 D slots k; ((if r.2.1 = 0 then p.1 ++ [r.1] else p.1, r.2.2) : List Rec × ShM)) = _
        rw [hA.out])
      generalize logGet s' D slots k = r at *
      obtain ⟨⟨st, pl, part⟩, er, s2⟩ := r
      clear hA
      go_wp2_with fail
      with_reducible refine hct.mono ?_
      rintro e w1 ⟨A1, c1, rfl, ho1, hD1, hK1⟩
      dsimp only at ho1 hD1 hstep ⊢
      have hR1 := hR.out.kept (w' := w1) fun b hb => hK1.block b (.inr hb)
      have hK01 : Kept X w w1 := hK.trans (hK1.mono fun b hb => .inl hb)
      have hszr := hD.lt
      have hgr := hK1.size
      clear hct hK1
      have hxn : ∀ ad, A1 = some ad → (Value.slice A xs.length c).ownBlock ≠ some ad.block := by
        intro ad e h
        have h1 := hD.lt _ (.inr (hR.out.own _ h))
        obtain ⟨A', c', hv, _, h2⟩ := ho1.form
        injection hv with e1
        subst e1
        obtain ⟨x, rfl, h4, _⟩ := h2 ad e
        dsimp only at h1
        omega
      have hrd1 := ho1.rd
      have hwr := hK.size
      clear hR hD hK ho1 hszr
      by_cases h0 : er = 0
      · subst h0
        replace hstep : Hid (logAll s D slots (k + 1) = (xs.map (·.1) ++ [(⟨st, pl, part⟩ : Rec)], s2)) := Lib.hid hstep.out
        have hrow1 := hR1.row
        have hcl := recCells_len xs
        obtain ⟨W2, hW2⟩ : ∃ W2, W2 = (w1.alloc (.cells #[.int .i64 st, .int .i64 pl, .slice A1 part.length c1] 24)).alloc (.cells #[.int .i64 st, .int .i64 pl, .slice A1 part.length c1] 24) := ⟨_, rfl⟩
        have hb12 : Below w1.heap.size w1 W2 := by rw [hW2]; exact (below_made' w1 _).trans ((below_made' _ _).mono (by simp))
        have hrow2 := ownsRow_below hrow1 hb12
        have hus : RdV W2 (some ⟨w1.heap.size + 1, 0, none⟩) (recCells (⟨st, pl, part⟩, A1, c1)) := by
          rw [hW2]
          have h := RdV.lit (w1.alloc (.cells #[.int .i64 st, .int .i64 pl, .slice A1 part.length c1] 24)) 24 (recCells (⟨st, pl, part⟩, A1, c1)) (by simp [recCells])
          simpa [recCells] using h
        have hsz2 : W2.heap.size = w1.heap.size + 2 := by rw [hW2]; simp
        have hrlt : ∀ b, X b → b < w.heap.size := hlt.out
        replace hrow2 := Lib.hid hrow2
        replace hus := Lib.hid hus
        replace hR1 := Lib.hid hR1
        replace hrd1 := Lib.hid hrd1
        replace hxn := Lib.hid hxn
        replace hcl := Lib.hid hcl
        replace hrlt := Lib.hid hrlt
        replace hb12 := Lib.hid hb12
        clear hrow1
        go_wp2_with (at_builtin; rw [← hW2]; refine wpList_append_at rfl _ _ 45 rfl w.heap.size 24 _ 3 40 Try.underlying45 Try.infoRec rfl (by omega) (.slice A xs.length c) xs.length (xs.flatMap recCells) (recCells (⟨st, pl, part⟩, A1, c1)) (some ⟨w1.heap.size + 1, 0, none⟩) 1 1 rfl rfl hrow2.out hus.out (recCells_one _) rfl (by simp only [maxLen]; omega) (by omega) (by omega) ?_; intro v5 w5 hrow5 hg5 hw5; obtain ⟨A5, c5, rfl, _, _⟩ := ownsRow_form hrow5)
        obtain ⟨hR5, hD5, hK5⟩ := recs_append (x := (⟨st, pl, part⟩, A1, c1)) hR1.out hD1 hrd1.out hxn.out hrlt.out hb12.out hrow5 hg5 hw5
        have hst5 : Hid (logAll s D slots (k + 1) = ((xs ++ [((⟨st, pl, part⟩ : Rec), A1, c1)]).map (·.1), s2)) := Lib.hid (by rw [hstep.out]; simp)
        have hl5 : (xs ++ [((⟨st, pl, part⟩ : Rec), A1, c1)]).length = xs.length + 1 := by simp
        have hK05 := hK01.trans hK5
        have hR5' : Hid (RecsAt w5 w.heap.size _ (.slice A5 (xs ++ [((⟨st, pl, part⟩ : Rec), A1, c1)]).length c5) (xs ++ [((⟨st, pl, part⟩ : Rec), A1, c1)])) := Lib.hid (by rw [hl5]; exact hR5)
        generalize xs ++ [((⟨st, pl, part⟩ : Rec), A1, c1)] = ys at *
        rw [← hl5]
        clear hstep hR1 hD1 hK01 hrd1 hxn hrow2 hus hR5 hK5 hW2 hrow5 hg5 hw5 hb12
        go_wp2_with fail
        go_roundw
        case rel => exact ⟨k + 1, s2, ys, _, A5, c5, rfl, by go_num, by omega, by omega, hst5, hR5', hD5, hK05⟩
        case measure => simp [intOf]; omega
      · have h0' : (er == 0) = false := by rw [beq_eq_false_iff_ne]; exact h0
        have hst2 : Hid (logAll s D slots (k + 1) = (xs.map (·.1), s2)) := Lib.hid (by rw [hstep.out, if_neg h0])
        have hR2 := Lib.hid ((hR1.kept (w' := w1.alloc (.cells #[.int .i64 st, .int .i64 pl, .slice A1 part.length c1] 24)) fun b hb => heap_alloc_old' _ _ _ (hD1.lt b (.inl (.inr hb)))))
        have hD2 := (hD1.mono (Y := fun b => X b ∨ Z b) fun b hb => .inl hb).alloc (.cells #[.int .i64 st, .int .i64 pl, .slice A1 part.length c1] 24)
        have hK2 : Kept X w (w1.alloc (.cells #[.int .i64 st, .int .i64 pl, .slice A1 part.length c1] 24)) := hK01.trans (Kept.of_below (below_made' _ _) fun b hb => hD1.lt b (.inl (.inl hb)))
        clear hstep hR1 hD1 hK01 hrd1 h0 hxn
        go_wp2_with fail
        go_roundw
        case rel => exact ⟨k + 1, s2, xs, Z, A, c, rfl, by go_num, by omega, by omega, hst2, hR2, hD2, hK2⟩
        case measure => simp [intOf]; omega
    · obtain rfl : k = slots := by omega
      have hfin : AllPost X a g w D (logAll s D k k) (.returned (.slice A xs.length c)) wr := by
        rw [hA.out]
        exact ⟨A, c, xs, Z, by simp, rfl, by simpa using hR.out, hD, hK⟩
      replace hfin := Lib.hid hfin
      clear hA hR hD hK hroomk
      go_wp2_with fail
      go_ret
      exact hfin.out
end Go.Proofs.Ytibpmiapcihkfaa

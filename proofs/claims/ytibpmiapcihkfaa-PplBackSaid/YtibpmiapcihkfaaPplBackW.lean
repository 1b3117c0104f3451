/-
  THE WALK of PplBack.
-/
import Derived.Test.YtibpmiapcihkfaaPpQ
namespace Go.Proofs.Ytibpmiapcihkfaa
set_option linter.all false
open Go.RowKit

set_option maxRecDepth 100000 in
set_option maxHeartbeats 4000000 in
theorem back_bad (st pl : Int) (part : List UInt8) (A : Option Addr) (n c : Nat) (w : World) (hr : Rd w A part) (hn : part.length = n) (hm : mayB ⟨st, pl, part⟩ = false) :
    Calls Try.prog 4 #[.agg #[.int .i64 st, .int .i64 pl, .slice A n c]] w fun e w' => e = .returned (.bool true) ∧ Below w.heap.size w w' := by
  have henc : Hid (∀ W, Rd W A part → _) := Lib.hid fun W hW => pp_enc ⟨st, pl, part⟩ A n c W hn hW
  have hmay : Hid (∀ W, _) := Lib.hid fun W => rpp_may st pl part A n c W hn
  unfold HeadPost hdL hdE at henc
  rw [hm] at henc hmay
  simp only [Bool.false_eq_true, if_false] at henc
  have hx : ∀ W : World, Below (w.alloc (.cells #[.int .i64 st, .int .i64 pl, .slice A n c] 24)).heap.size (w.alloc (.cells #[.int .i64 st, .int .i64 pl, .slice A n c] 24)) W → Box3 W w.heap.size ⟨st, pl, part⟩ A n c ∧ Below w.heap.size w W := fun W hW =>
    ⟨hrow_keep (heap_alloc_new _ _) hW, below_to (below_made' _ _) hW⟩
  replace hx := Lib.hid hx
  have hr1 := hr.alloc (.cells #[.int .i64 st, .int .i64 pl, .slice A n c] 24)
  clear hm hn hr
  go_enter Try.func4, Try.ntmps4
  go_wp2_with fail
  refine (henc.out _ hr1).mono ?_
  rintro e w1 ⟨A1, c1, rfl, _, hb1⟩
  go_wp2_with fail
  refine (lives07 w1).mono ?_
  rintro e w2 ⟨rfl, hb2⟩
  obtain ⟨hbox, hB⟩ := hx.out w2 (below_to hb1 hb2)
  obtain ⟨d0, d1, d2, dlt⟩ := hbox.cells
  dsimp only at d0 d1 d2
  clear henc hb1 hb2 hx hbox
  go_wp2_with fail
  refine (hmay.out w2).mono ?_
  rintro e w3 ⟨rfl, hb3⟩
  have hB3 := below_to hB hb3
  clear hmay
  go_wp2
  go_ret
  exact ⟨by simp, hB3⟩
set_option maxRecDepth 100000 in
set_option maxHeartbeats 4000000 in
theorem back_ok (st pl : Int) (part : List UInt8) (A : Option Addr) (c : Nat) (w : World) (hr : Rd w A part) (hn : part.length = 128) (hm : mayB ⟨st, pl, part⟩ = true) :
    Calls Try.prog 4 #[.agg #[.int .i64 st, .int .i64 pl, .slice A 128 c]] w fun e w' => e = .returned (.bool true) ∧ Below w.heap.size w w' := by
  have henc : Hid (∀ W, Rd W A part → _) := Lib.hid fun W hW => pp_enc ⟨st, pl, part⟩ A 128 c W hn hW
  obtain ⟨hk, hkr, hke⟩ := dec_hd ⟨st, pl, part⟩ hm
  unfold HeadPost hdL hdE at henc
  rw [hm] at henc
  simp only [if_true, hdBytes_len] at henc
  obtain ⟨hd, hhd⟩ : ∃ hd, hd = hdBytes ⟨st, pl, part⟩ := ⟨_, rfl⟩
  have hdl : hd.length = 128 := by rw [hhd]; exact hdBytes_len _
  rw [← hhd] at henc hkr hke
  dsimp only at hkr hke
  have hdec : Hid (∀ W A B d e, Rd W A hd → Rd W B part → _) := Lib.hid fun W A B d e h1 h2 => pp_dec A B 128 d 128 e hd part W hdl h1 hn h2 (by omega)
  unfold DecRPost at hdec
  rw [hkr, hke] at hdec
  dsimp only at hdec
  have hx : ∀ W : World, Below (w.alloc (.cells #[.int .i64 st, .int .i64 pl, .slice A 128 c] 24)).heap.size (w.alloc (.cells #[.int .i64 st, .int .i64 pl, .slice A 128 c] 24)) W → Box3 W w.heap.size ⟨st, pl, part⟩ A 128 c ∧ Below w.heap.size w W ∧ Rd W A part := fun W hW =>
    ⟨hrow_keep (heap_alloc_new _ _) hW, below_to (below_made' _ _) hW, (hr.alloc _).below hW⟩
  replace hx := Lib.hid hx
  have hr1 := hr.alloc (.cells #[.int .i64 st, .int .i64 pl, .slice A 128 c] 24)
  replace hn := Lib.hid hn
  replace hdl := Lib.hid hdl
  clear hm hr hk hkr hke hhd
  go_enter Try.func4, Try.ntmps4
  go_wp2_with fail
  refine (henc.out _ hr1).mono ?_
  rintro e w1 ⟨A1, c1, rfl, ho1, hb1⟩
  go_wp2_with fail
  refine (lives07 w1).mono ?_
  rintro e w2 ⟨rfl, hb2⟩
  have hb12 := below_to hb1 hb2
  obtain ⟨hbox, hB, hr2⟩ := hx.out w2 hb12
  have ho2 := ho1.below hb2
  obtain ⟨d0, d1, d2, dlt⟩ := hbox.cells
  dsimp only at d0 d1 d2
  clear henc hb1 hb2 hr1 ho1
  have hr2e : Rd (w2.alloc (.cells #[] 5)) A part := hr2.alloc _
  go_wp2_with (at_builtin; refine wpList_append_rd rfl _ _ 22 rfl w2.heap.size 5 Try.underlying22 Try.infoU8 _ [] part A 128 c rfl rfl (made_empty w2) hr2e hn.out (by simp) (by simp) ?_; intro v3 w3 ho3 hg3; rw [List.nil_append] at ho3; have hb3 := copy_grow (v := v3) (bs := part) hg3; clear hg3; obtain ⟨A3, c3, rfl, _, _⟩ := ho3.form; rw [hn.out] at ho3 ⊢)
  refine (hdec.out w3 A1 A3 c1 c3 (ho2.below hb3).rd ho3.rd).mono ?_
  rintro e w4 ⟨A4, c4, rfl, ho4, hb4⟩
  rw [hn.out] at ho4 ⊢
  have hb24 := below_to hb3 hb4
  have ho34 := ho3.below hb4
  obtain ⟨g3, rfl, hg3, hg3l, hcells⟩ := ho34.first (by rw [hn.out]; omega)
  obtain ⟨hv0, hf0⟩ := hcells 0 (by rw [hn.out]; omega)
  have hbox4 : Box3 w4 w.heap.size ⟨st, pl, part⟩ A 128 c := hrow_keep hbox hb24
  have hr24 := hr2.below hb24
  have hr44 := ho4.rd
  have hg4 : ∀ ad, A4 = some ad → w3.heap.size ≤ ad.block := fun ad e => (own_lt ho4 ad e).1
  have hg33 : g3 < w3.heap.size := (own_lt ho3 _ rfl).2
  generalize hb0 : part[0]'(by rw [hn.out]; omega) = b0 at *
  obtain ⟨W6, hW6⟩ : ∃ W6, W6 = (w4.setCell ⟨g3, 0, none⟩ (.int .u8 (((b0.toNat : Int) + 1) % 256))).alloc (.cells #[.int .i64 st, .int .i64 pl, .slice A4 128 c4] 24) := ⟨_, rfl⟩
  have hsame : ∀ b, b < w4.heap.size → b ≠ g3 → W6.heap[b]? = w4.heap[b]? := fun b hb hne => by
    rw [hW6, heap_alloc_old' _ _ _ (by simpa [World.setCell] using hb)]
    exact heap_setCell_other _ ⟨g3, 0, none⟩ b _ hne
  have hq : w.heap.size < w2.heap.size := dlt
  have hbox6 : Box3 W6 w.heap.size ⟨st, pl, part⟩ A 128 c := (hsame _ (by have := hb24.size; omega) (by omega)).trans hbox4
  have hnew6 : Box3 W6 w4.heap.size ⟨st, pl, part⟩ A4 128 c4 := by
    rw [hW6]
    have h := heap_alloc_new (w4.setCell ⟨g3, 0, none⟩ (.int .u8 (((b0.toNat : Int) + 1) % 256))) (.cells #[.int .i64 st, .int .i64 pl, .slice A4 128 c4] 24)
    have hs : (w4.setCell ⟨g3, 0, none⟩ (.int .u8 (((b0.toNat : Int) + 1) % 256))).heap.size = w4.heap.size := by simp [World.setCell]
    rw [hs] at h
    exact h
  have hA2 : ∀ ad, A = some ad → ad.block < w2.heap.size := fun ad e => by
    have := World.block_lt_of_cell? w2 _ (hr2.2.2 ad e 0 (by rw [hn.out]; omega))
    rwa [add_block] at this
  have hrA6 : Rd W6 A part := hr24.blkZ fun ad e => hsame _ (by have := hA2 ad e; have := hb24.size; omega) (by have := hA2 ad e; omega)
  have hr46 : Rd W6 A4 part := hr44.blkZ fun ad e => hsame _ (own_lt ho4 ad e).2 (by have := hg4 ad e; omega)
  have hsm := rpp_same ⟨st, pl, part⟩ ⟨st, pl, part⟩ A4 A 128 c4 128 c W6 hn.out hr46 hn.out hrA6
  rw [sameB_self] at hsm
  have hB6 : Below w.heap.size w W6 := by
    rw [hW6]
    exact ((hB.trans (hb24.mono hB.size)).setCell (p := ⟨g3, 0, none⟩) (by show w.heap.size ≤ g3; omega) _).alloc (by have := hB.size; have := hb24.size; simp [World.setCell]; omega) _
  obtain ⟨x0, x1, x2, xlt⟩ := hbox4.cells
  dsimp only at x0 x1 x2 hsm
  have hne1 : ¬ w.heap.size = g3 := by omega
  have hne2 : ¬ w4.heap.size = g3 := by omega
  clear hbox hbox4 hbox6 hnew6 hrA6 hr46 hr44 hr24 hr2 hr2e hx hdec ho2 ho3 ho4 ho34 hsame hcells hb3 hb4 hb12 hg4 d0 d1 d2
  go_wp2_with fail
  rw [← hW6]
  refine hsm.mono ?_
  rintro e w7 ⟨rfl, hb7⟩
  have hfin := below_to hB6 hb7
  go_wp2
  go_ret
  exact ⟨by simp, hfin⟩
theorem pplBack_walk (q : Rec) (A : Option Addr) (n c : Nat) (w : World) (hr : Rd w A q.part) (hn : q.part.length = n) (_ : ∀ ad, A = some ad → 0 < n → ad.block < w.heap.size) (_ : n ≤ 140737488351232) :
    Calls Try.prog 4 #[.agg #[.int .i64 q.stripe, .int .i64 q.place, .slice A n c]] w fun e w' => e = .returned (.bool true) ∧ Below w.heap.size w w' := by
  cases hm : mayB q with
  | false => exact back_bad q.stripe q.place q.part A n c w hr hn hm
  | true =>
    have h128 : q.part.length = 128 := (of_decide_eq_true hm).2.2.2.2
    obtain rfl : n = 128 := by omega
    exact back_ok q.stripe q.place q.part A c w hr h128 hm
end Go.Proofs.Ytibpmiapcihkfaa

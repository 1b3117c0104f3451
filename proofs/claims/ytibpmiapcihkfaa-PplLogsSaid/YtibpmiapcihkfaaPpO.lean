/-
  THE WALKS over the law's open and lives.
-/
import Derived.Test.YtibpmiapcihkfaaPpI
import Derived.Test.YtibpmiapcihkfaaPpD
import Derived.Test.YtibpmiapcihkfaaSuJ
namespace Go.Proofs.Ytibpmiapcihkfaa
set_option linter.all false
open Go.RowKit

set_option maxRecDepth 100000 in
set_option maxHeartbeats 4000000 in
theorem pp_open (slots : Nat) (h1 : 1 ≤ slots) (h8 : slots ≤ 8) (w : World) : Calls Try.prog 26 #[.int .i64 (slots : Int)] w fun e w' =>
    ∃ g a l, e = .returned (.tuple #[.pointer (some ⟨g, 0, none⟩), .pointer (some ⟨l, 0, none⟩), .bool true]) ∧ LawS (fun b => b < w.heap.size ∨ b = l) a g w' (freshSh 1 40) ⟨0, 37, -1⟩ ∧ LogRow w' l a slots ∧ w.heap.size ≤ l ∧ Below w.heap.size w w' := by
  have hnew := lx_new (X := fun b => b < w.heap.size) (w := w) (fun _ h => h) 1 40 (by omega) (by omega) (by omega) (by omega)
  rw [show ((1 : Nat) : Int) = 1 from rfl, show ((40 : Nat) : Int) = 40 from rfl] at hnew
  have hrf := run_fresh 1 40 0 (by omega) (by omega) (by omega) (by omega) (by omega)
  have hrm : Room 100 (freshSh 1 40) := (room_fresh 1 40).mono (by omega)
  have hfd : freshDev (freshSh 1 40) 0 = ⟨0, 37, -1⟩ := rfl
  generalize freshSh 1 40 = s0 at *
  go_enter Try.func26, Try.ntmps26
  go_wp2_with fail
  refine hnew.mono ?_
  rintro e w1 ⟨g, rfl, hS1, hB1⟩
  clear hnew
  have hct := ls_open hS1 0 hrf hrm
  rw [show ((0 : Nat) : Int) = 0 from rfl, hfd] at hct
  clear hrf hrm hfd
  go_wp2_with fail
  with_reducible refine hct.mono ?_
  rintro e w2 ⟨a, rfl, _, h2, hb2⟩
  have hB2 := below_to hB1 hb2
  have hop := lg_open h2.dv slots h1 h8 (by show 2 + 2 * slots ≤ 37; omega)
  clear hct hS1 hB1 hb2
  go_wp2_with fail
  with_reducible refine hop.mono ?_
  rintro e w3 ⟨l, rfl, hl, hr, hb3⟩
  have hfin : LawS (fun b => b < w.heap.size ∨ b = l) a g w3 s0 ⟨0, 37, -1⟩ ∧ w.heap.size ≤ l ∧ Below w.heap.size w w3 := by
    refine ⟨h2.more hb3 fun b hb => ?_, Nat.le_trans hB2.size hl, below_to hB2 hb3⟩
    rcases hb with hb | rfl
    · have := hB2.size
      have := hb3.size
      exact ⟨by omega, .inl hb⟩
    · exact ⟨hr.lt, .inr hl⟩
  clear hop h2 hB2 hb3
  go_wp2
  go_ret3
  exact ⟨g, a, l, rfl, hfin.1, hr, hfin.2.1, hfin.2.2⟩

def pl0 : ShM := freshSh 1 40
def plD : DevM := ⟨0, 37, -1⟩
def plR : Rec := ⟨3, 1, secOf 9⟩
def plG : Rec × Int × ShM := logGet pl0 plD 2 1
def plP : Int × ShM × DevM := logPut plG.2.2 plD 2 1 plR
def plH : Rec × Int × ShM := logGet plP.2.1 plP.2.2 2 1
def plA : List Rec × ShM := logAll plH.2.2 plP.2.2 2 2
def recEq (a b : Rec) : Bool := decide (a.stripe = b.stripe) && (decide (a.place = b.place) && (a.part == b.part))
theorem recEq_ok {a b : Rec} (h : recEq a b = true) : a = b := by
  obtain ⟨s, p, x⟩ := a
  obtain ⟨s2, p2, x2⟩ := b
  simp only [recEq, Bool.and_eq_true, decide_eq_true_eq, beq_iff_eq] at h
  obtain ⟨rfl, rfl, rfl⟩ := h
  rfl
theorem pl_a : plG.2.1 = 7 ∧ recEq plG.1 noRec = true := by decide +kernel
theorem pl_b : plP.1 = 0 := by decide +kernel
theorem pl_c : plH.2.1 = 0 ∧ recEq plH.1 plR = true := by decide +kernel
theorem pl_d : plA.1.length = 1 := by decide +kernel
theorem pl_e : mayB plR = true ∧ (hdBytes plR).take 8 = [80, 65, 82, 84, 3, 0, 0, 0] ∧ decOKP (hdBytes plR) (secOf 9) = true ∧ recEq (recP (hdBytes plR) (secOf 9)) plR = true := by decide +kernel
theorem pl_r : (plP.2.1.disks.map fun k => k.waits.length) = [1] := by decide +kernel
theorem plG_run : Room 100 plG.2.2 := room_lget ((room_fresh 1 40).mono (by omega)) _ _ _
theorem plP_room : Room 100 plP.2.1 := fun e => by
  have h : Room 1 plP.2.1 := fun e => room_list pl_r (by decide) e
  exact Nat.le_trans (h e) (by omega)
theorem made_row0 (w : World) : Below w.heap.size w w := Below.refl _ _
theorem own_lt {w : World} {E base n c : Nat} {A : Option Addr} {bs : List UInt8} (h : Own w E base (.slice A n c) bs) : ∀ ad, A = some ad → base ≤ ad.block ∧ ad.block < w.heap.size := by
  intro ad e
  obtain ⟨A', c', hv, _, h2⟩ := h.form
  injection hv with e1
  subst e1
  obtain ⟨x, rfl, h4, h5⟩ := h2 ad e
  exact ⟨h4, h5⟩
/-- a box of three cells -/
def Box3 (w : World) (q : Nat) (r : Rec) (A : Option Addr) (L c : Nat) : Prop := w.heap[q]? = some (.cells #[.int .i64 r.stripe, .int .i64 r.place, .slice A L c] 24)
theorem Box3.below {w w' : World} {B q L c : Nat} {r : Rec} {A : Option Addr} (h : Box3 w q r A L c) (hb : Below B w w') (hq : q < B) : Box3 w' q r A L c := (hb.block q hq).trans h
theorem Box3.cells {w : World} {q L c : Nat} {r : Rec} {A : Option Addr} (h : Box3 w q r A L c) : w.cell? ⟨q, 0, none⟩ = some (.int .i64 r.stripe) ∧ w.cell? ⟨q, 1, none⟩ = some (.int .i64 r.place) ∧ w.cell? ⟨q, 2, none⟩ = some (.slice A L c) ∧ q < w.heap.size := by
  obtain ⟨h0, h1, h2, _⟩ := row3_cells w _ _ _ _ _ h
  exact ⟨h0, h1, h2, lt_of_row h⟩
theorem Rd.take {w : World} {A : Option Addr} {bs : List UInt8} (h : Rd w A bs) (k : Nat) : Rd w A (bs.take k) :=
  ⟨by have := h.1; rw [List.length_take]; omega, fun e => by rw [h.2.1 e]; simp, fun ad e i hi => by
    rw [List.length_take] at hi
    rw [List.getElem_take]
    exact h.2.2 ad e i (by omega)⟩
theorem rd_lower {w w' : World} {B : Nat} {A : Option Addr} {bs : List UInt8} (h : Rd w A bs) (hb : Below B w w') (hl : ∀ ad, A = some ad → ad.block < B) : Rd w' A bs := h.blkZ fun ad e => hb.block _ (hl ad e)
set_option maxRecDepth 100000 in
set_option maxHeartbeats 8000000 in
theorem lives07 (w : World) : Calls Try.prog 14 #[] w fun e w' => e = .returned (.bool true) ∧ Below w.heap.size w w' := by
  have hsl := secOf_len 9
  have he : mayB (⟨3, 1, secOf 9⟩ : Rec) = true ∧ (hdBytes ⟨3, 1, secOf 9⟩).take 8 = [80, 65, 82, 84, 3, 0, 0, 0] ∧ decOKP (hdBytes ⟨3, 1, secOf 9⟩) (secOf 9) = true ∧ recEq (recP (hdBytes ⟨3, 1, secOf 9⟩) (secOf 9)) ⟨3, 1, secOf 9⟩ = true := pl_e
  have hH : plH.1 = ⟨3, 1, secOf 9⟩ := recEq_ok pl_c.2
  have hP : logPut plG.2.2 plD 2 1 ⟨3, 1, secOf 9⟩ = plP := rfl
  obtain ⟨he1, he2, he3, he4⟩ := he
  replace he4 := recEq_ok he4
  replace hP := Lib.hid hP
  replace hH := Lib.hid hH
  replace he4 := Lib.hid he4
  have hsc : Hid (∀ W, _) := Lib.hid fun W => sector_any 9 W
  generalize secOf 9 = sb at *
  obtain ⟨hd, hhd⟩ : ∃ hd, hd = hdBytes ⟨3, 1, sb⟩ := ⟨_, rfl⟩
  have hdl : hd.length = 128 := by rw [hhd]; exact hdBytes_len _
  have henc : Hid (∀ W A c, Rd W A sb → Calls Try.prog 10 #[.agg #[.int .i64 3, .int .i64 1, .slice A 128 c]] W fun e w' => ∃ A c, e = .returned (.tuple #[.slice A 128 c, .int .i64 0]) ∧ Own w' 5 W.heap.size (.slice A 128 c) hd ∧ Below W.heap.size W w') := Lib.hid fun W A c hr => by
    have h := pp_enc ⟨3, 1, sb⟩ A 128 c W hsl hr
    unfold HeadPost hdL hdE at h
    rw [he1] at h
    simp only [if_true, hdBytes_len] at h
    rw [hhd]
    exact h
  have hdec : Hid (∀ W A c B d, Rd W A hd → Rd W B sb → Calls Try.prog 12 #[.slice A 128 c, .slice B 128 d] W fun e w' => ∃ A c, e = .returned (.tuple #[.agg #[.int .i64 3, .int .i64 1, .slice A 128 c], .int .i64 0]) ∧ Own w' 5 W.heap.size (.slice A 128 c) sb ∧ Below W.heap.size W w') := Lib.hid fun W A c B d hr hq => by
    have h := pp_dec A B 128 c 128 d hd sb W hdl hr hsl hq (by omega)
    unfold DecRPost at h
    rw [hhd, decR_ok he3, decEP_ok he3, he4.out] at h
    simp only [hsl] at h
    exact h
  have hdn : Hid (∀ W, Calls Try.prog 12 #[.slice none 0 0, .slice none 0 0] W fun e w' => ∃ A c, e = .returned (.tuple #[.agg #[.int .i64 0, .int .i64 0, .slice A 0 c], .int .i64 8]) ∧ Below W.heap.size W w') := Lib.hid fun W => by
    refine (pp_dec none none 0 0 0 0 [] [] W rfl (Rd.nil W) rfl (Rd.nil W) (by omega)).mono ?_
    rintro e w' ⟨A, c, rfl, _, hb⟩
    have hk : decOKP [] [] = false := by
      cases hd : decOKP [] [] with
      | false => rfl
      | true => have := decOKP_len hd; simp at this
    rw [decR_bad hk, decEP_bad hk]
    exact ⟨A, c, rfl, hb⟩
  have hop : Hid (∀ W, _) := Lib.hid fun W => pp_open 2 (by omega) (by omega) W
  rw [show ((2 : Nat) : Int) = 2 from rfl] at hop
  rw [← hhd] at he2
  replace he2 := Lib.hid he2
  replace hsl := Lib.hid hsl
  replace hdl := Lib.hid hdl
  clear he1 he3 hhd
  go_enter Try.func14, Try.ntmps14
  go_wp2_with fail
  refine (hsc.out w).mono ?_
  rintro e w1 ⟨A1, c1, rfl, ho1, hb1⟩
  obtain ⟨W2, hW2⟩ : ∃ W2, W2 = w1.alloc (.cells #[.int .i64 3, .int .i64 1, .slice A1 128 c1] 24) := ⟨_, rfl⟩
  have hx2 : Box3 W2 w1.heap.size ⟨3, 1, sb⟩ A1 128 c1 := by rw [hW2]; exact heap_alloc_new _ _
  have hB2 : Below w.heap.size w W2 := by rw [hW2]; exact below_to hb1 (below_made' _ _)
  have hr2 : Rd W2 A1 sb := by rw [hW2]; exact (ho1.rd).alloc _
  have hl1 := fun ad e => (own_lt ho1 ad e).2
  have hs2 : W2.heap.size = w1.heap.size + 1 := by rw [hW2]; simp
  clear ho1 hb1 hsc
  go_wp2_with fail
  rw [← hW2]
  refine (henc.out W2 A1 c1 hr2).mono ?_
  rintro e w3 ⟨A3, c3, rfl, ho3, hb3⟩
  have hx3 := hx2.below hb3 (by omega)
  have hr3 := hr2.below hb3
  have hc3 : 128 ≤ c3 := by
    obtain ⟨A', c', hv, hc, _⟩ := ownsRow_form ho3
    injection hv with e1 e2 e3
    rw [hdl.out] at e2 hc
    omega
  have hB3 := below_to hB2 hb3
  obtain ⟨d0, d1, d2, dlt⟩ := hx3.cells
  have hs3 := hb3.size
  clear hW2 hr2 hx2 hB2 hb3 henc
  generalize w1.heap.size = q1 at *
  dsimp only at d0 d1 d2
  go_wp2_with fail
  refine (hdec.out w3 A3 c3 A1 c1 ho3.rd hr3).mono ?_
  rintro e w4 ⟨A4, c4, rfl, ho4, hb4⟩
  obtain ⟨W5, hW5⟩ : ∃ W5, W5 = w4.alloc (.cells #[.int .i64 3, .int .i64 1, .slice A4 128 c4] 24) := ⟨_, rfl⟩
  have hb35 : Below w3.heap.size w3 W5 := by rw [hW5]; exact below_to hb4 (below_made' _ _)
  have hx5 : Box3 W5 w4.heap.size ⟨3, 1, sb⟩ A4 128 c4 := by rw [hW5]; exact heap_alloc_new _ _
  have hy5 := hx3.below hb35 dlt
  have hr5 := hr3.below hb35
  have ho5 := ho3.below hb35
  have hr45 : Rd W5 A4 sb := by rw [hW5]; exact (ho4.rd).alloc _
  have hB5 := below_to hB3 hb35
  have hl4 := fun ad e => (own_lt ho4 ad e).2
  have hs5 : W5.heap.size = w4.heap.size + 1 := by rw [hW5]; simp
  have hs35 := hb35.size
  clear hdec hx3 hr3 ho3 hB3 ho4 hb4 hb35 d0 d1 d2 dlt
  go_wp2_with fail
  rw [← hW5]
  refine (hdn.out W5).mono ?_
  rintro e w6 ⟨A6, c6, rfl, hb6⟩
  obtain ⟨W7, hW7⟩ : ∃ W7, W7 = w6.alloc (.cells #[.int .i64 0, .int .i64 0, .slice A6 0 c6] 24) := ⟨_, rfl⟩
  have hb57 : Below W5.heap.size W5 W7 := by rw [hW7]; exact below_to hb6 (below_made' _ _)
  have hx7 := hx5.below hb57 (by omega)
  have hy7 := hy5.below hb57 (lt_of_row hy5)
  have hr7 := hr5.below hb57
  have ho7 := ho5.below hb57
  have hr47 := hr45.below hb57
  have hB7 := below_to hB5 hb57
  have hs7 := hb57.size
  clear hW5 hx5 hy5 hr5 ho5 hr45 hB5 hb57 hb6 hdn
  generalize w4.heap.size = q4 at *
  go_wp2_with fail
  rw [← hW7]
  refine (hop.out W7).mono ?_
  rintro e w8 ⟨g, a, l, rfl, hL8, hrow8, hl8, hb8⟩
  clear hW7 hop
  have hg8 := lg_get hL8.dv hrow8 (.inr rfl) (by omega) (hL8.room.mono (by omega)) 1
  rw [show logGet (freshSh 1 40) ⟨0, 37, -1⟩ 2 1 = plG from rfl] at hg8
  go_wp2_with fail
  with_reducible refine hg8.mono ?_
  rintro e w9 ⟨A9, c9, rfl, _, hD9, hK9⟩
  rw [recEq_ok pl_a.2, pl_a.1, show noRec.stripe = 0 from rfl, show noRec.place = 0 from rfl, show noRec.part.length = 0 from rfl]
  obtain ⟨W10, hW10⟩ : ∃ W10, W10 = w9.alloc (.cells #[.int .i64 0, .int .i64 0, .slice A9 0 c9] 24) := ⟨_, rfl⟩
  have hb910 : Below w9.heap.size w9 W10 := by rw [hW10]; exact below_made' _ _
  have hD10 := (hD9.mono (Y := fun b => b < W7.heap.size ∨ b = l) fun b hb => .inl hb).below hb910
  have hrow10 := (hrow8.kept hK9 (.inr rfl)).below hb910
  have hB710 := (hb8.trans (hK9.below (base := W7.heap.size) fun b hb => .inl hb)).trans (hb910.mono (Nat.le_trans hb8.size hK9.size))
  have hl1' : ∀ ad, A1 = some ad → ad.block < W7.heap.size := fun ad e => by have := hl1 ad e; omega
  have hx9 := hy7.below (hb8.trans (hK9.below (base := W7.heap.size) fun b hb => .inl hb)) (lt_of_row hy7)
  obtain ⟨d0, d1, d2, dlt⟩ := hx9.cells
  have hpt := lg_put hD10 hrow10 (.inr rfl) (by omega) (plG_run.mono (by omega)) 1 ⟨3, 1, sb⟩ A1 128 c1 hsl.out (rd_lower hr7 hB710 hl1') (fun ad e _ => .inl (hl1' ad e))
  rw [show (⟨0, 37, -1⟩ : DevM) = plD from rfl, hP.out] at hpt
  dsimp only at d0 d1 d2
  clear hg8 hL8 hrow8 hD9 hK9 hb910 hP
  go_wp2_with fail
  rw [← hW10]
  with_reducible refine hpt.mono ?_
  rintro e w11 ⟨rfl, hD11, hK11⟩
  rw [pl_b]
  have hrow11 := hrow10.kept hK11 (.inr rfl)
  have hB711 := hB710.trans (hK11.below (base := W7.heap.size) fun b hb => .inl hb)
  have hg := lg_get hD11 hrow11 (.inr rfl) (by omega) (plP_room.mono (by omega)) 1
  rw [show logGet plP.2.1 plP.2.2 2 1 = plH from rfl] at hg
  clear hpt hD10 hrow10 hK11 hB710 hW10 d0 d1 d2 dlt hx9
  go_wp2_with fail
  with_reducible refine hg.mono ?_
  rintro e w12 ⟨A12, c12, rfl, ho12, hD12, hK12⟩
  rw [hH.out] at ho12
  rw [hH.out, pl_c.1]
  dsimp only at ho12 ⊢
  rw [hsl.out] at ho12 ⊢
  obtain ⟨W13, hW13⟩ : ∃ W13, W13 = w12.alloc (.cells #[.int .i64 3, .int .i64 1, .slice A12 128 c12] 24) := ⟨_, rfl⟩
  have hb123 : Below w12.heap.size w12 W13 := by rw [hW13]; exact below_made' _ _
  have hD13 := (hD12.mono (Y := fun b => b < W7.heap.size ∨ b = l) fun b hb => .inl hb).below hb123
  have hrow13 := (hrow11.kept hK12 (.inr rfl)).below hb123
  have hB713 := (hB711.trans (hK12.below (base := W7.heap.size) fun b hb => .inl hb)).trans (hb123.mono (Nat.le_trans hB711.size hK12.size))
  have hz13 : Box3 W13 w12.heap.size ⟨3, 1, sb⟩ A12 128 c12 := by rw [hW13]; exact heap_alloc_new _ _
  have hx13 := hy7.below hB713 (lt_of_row hy7)
  have hy13 := hx7.below hB713 (lt_of_row hx7)
  have hr1 := rd_lower hr7 hB713 hl1'
  have hr4 := rd_lower hr47 hB713 (fun ad e => by have := hl4 ad e; omega)
  have hr12 : Rd W13 A12 sb := (ho12.rd).below hb123
  have hrh := rd_lower ho7.rd hB713 (fun ad e => (own_lt ho7 ad e).2)
  have hBw : Below w.heap.size w W13 := below_to hB7 hB713
  have hcv := run_string_rd (P := Try.prog) W13 22 9 5 Try.underlying22 Try.underlying5 Try.underlying9 A3 8 c3 (hd.take 8) (hrh.take 8) (by rw [List.length_take, hdl.out]; rfl)
  rw [he2.out] at hcv
  have hroomH : Room 100 plH.2.2 := room_lget plP_room _ _ _
  have hal := fun W hW => lg_all (w := W) (hD13.below hW) (hrow13.below hW) (.inr rfl) (by omega) (hroomH.mono (by omega))
  rw [show logAll plH.2.2 plP.2.2 2 2 = plA from rfl] at hal
  have hB712 := hB711.trans (hK12.below (base := W7.heap.size) fun b hb => .inl hb)
  obtain ⟨x0, x1, x2, xlt⟩ := (hy7.below hB712 (lt_of_row hy7)).cells
  obtain ⟨y0, y1, y2, ylt⟩ := (hx7.below hB712 (lt_of_row hx7)).cells
  obtain ⟨u0, u1, u2, ult⟩ := hx13.cells
  obtain ⟨z0, z1, z2, zlt⟩ := hz13.cells
  have hs1 := rpp_same ⟨3, 1, sb⟩ ⟨3, 1, sb⟩ A1 A4 128 c1 128 c4 W13 hsl.out hr1 hsl.out hr4
  have hss : sameB ⟨3, 1, sb⟩ ⟨3, 1, sb⟩ = true := by simp [sameB]
  rw [hss] at hs1
  have hs2' : Hid (∀ W, Below W13.heap.size W13 W → Calls Try.prog 15 #[.agg #[.int .i64 3, .int .i64 1, .slice A1 128 c1], .agg #[.int .i64 3, .int .i64 1, .slice A12 128 c12]] W fun e w' => e = .returned (.bool true) ∧ Below W.heap.size W w') := Lib.hid fun W hW => by
    have h := rpp_same ⟨3, 1, sb⟩ ⟨3, 1, sb⟩ A1 A12 128 c1 128 c12 W hsl.out (hr1.below hW) hsl.out (hr12.below hW)
    rw [hss] at h
    exact h
  have hbox : Hid (∀ W, Below W13.heap.size W13 W → (W.cell? ⟨q1, 0, none⟩ = some (.int .i64 3) ∧ W.cell? ⟨q1, 1, none⟩ = some (.int .i64 1) ∧ W.cell? ⟨q1, 2, none⟩ = some (.slice A1 128 c1)) ∧ (W.cell? ⟨w12.heap.size, 0, none⟩ = some (.int .i64 3) ∧ W.cell? ⟨w12.heap.size, 1, none⟩ = some (.int .i64 1) ∧ W.cell? ⟨w12.heap.size, 2, none⟩ = some (.slice A12 128 c12))) := Lib.hid fun W hW =>
    ⟨⟨(hW.cell ult).trans u0, (hW.cell ult).trans u1, (hW.cell ult).trans u2⟩, (hW.cell zlt).trans z0, (hW.cell zlt).trans z1, (hW.cell zlt).trans z2⟩
  dsimp only at x0 x1 x2 y0 y1 y2
  clear z0 z1 z2 zlt u0 u1 u2 ult hB712
  replace hal := Lib.hid hal
  have hld := pl_d
  clear hg hD11 hD12 hK12 hrow11 hB711 hb123 hD13 hrow13 hB713 hz13 hx13 hy13 hr1 hr4 hr12 hrh hx7 hy7 hr7 ho7 hr47 hl1' hl4 ho12 hroomH hb8
  have hw7 := hB7.size
  clear hB7 hl1
  subst hW13
  go_wp2_with fail
  refine hs1.mono ?_
  rintro e wa ⟨rfl, hba⟩
  obtain ⟨⟨x0, x1, x2⟩, z0, z1, z2⟩ := hbox.out _ hba
  clear hs1 hcv hbox y0 y1 y2
  go_wp2_with fail
  refine (hs2'.out _ hba).mono ?_
  rintro e wb ⟨rfl, hbb⟩
  have hbc := below_to hba hbb
  clear x0 x1 x2 z0 z1 z2 hba hbb hs2'
  go_wp2_with fail
  with_reducible refine (hal.out _ hbc).mono ?_
  rintro e wc ⟨Ac, cc, xs, Z, rfl, _, _, _, hKc⟩
  rw [hld]
  have hfin : Below w.heap.size w wc := (below_to hBw hbc).trans (hKc.below fun b hb => .inl (by have := hBw.size; omega))
  clear hKc hal hbc
  go_wp2
  go_ret
  exact ⟨by simp, hfin⟩
end Go.Proofs.Ytibpmiapcihkfaa

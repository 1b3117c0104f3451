/-
  THE WALK of PplNobody.
-/
import Derived.Test.YtibpmiapcihkfaaPplNobodyX
namespace Go.Proofs.Ytibpmiapcihkfaa
set_option linter.all false
open Go.RowKit

set_option maxRecDepth 100000 in
set_option maxHeartbeats 8000000 in
theorem nob_neg_right (slot : Int) (st pl : Int) (part : List UInt8) (A : Option Addr) (n c : Nat) (slots sectors : Int) (k : Nat) (w : World) (hr : Rd w A part) (hn : part.length = n) (hk : k < 40) (hk0 : sectors.tmod 40 = -(k : Int) ∧ 0 < (k : Int))
    (hs0 : -9223372036854775808 ≤ slots) (hs1 : slots ≤ 9223372036854775807) (hs2 : 1 ≤ slots) (hs3 : slots ≤ 8) (hs4 : 2 + 2 * slots ≤ blocksI ((k : Int) + 1)) :
    Calls Try.prog 7 #[.int .i64 slot, .agg #[.int .i64 st, .int .i64 pl, .slice A n c], .int .i64 slots, .int .i64 sectors] w fun e w' => e = .returned (.bool true) ∧ Below w.heap.size w w' := by
  obtain ⟨hkt, hkl⟩ := hk0
  have hbn := blocksI_nat1 k hk
  have hwk : IntKind.i64.wrap ((k : Int) + 1) = (k : Int) + 1 := IntWalk.i64_in _ (by omega)
  have hgn : Hid (∀ W, _) := Lib.hid fun W => lg_get_nil slot W
  have hnw : Hid (∀ W : World, _) := Lib.hid fun W => lx_new (X := fun b => b < W.heap.size) (w := W) (fun _ h => h) 1 (k + 1) (by omega) (by omega) (by omega) (by omega)
  rw [show ((1 : Nat) : Int) = 1 from rfl, show ((k + 1 : Nat) : Int) = (k : Int) + 1 from rfl] at hnw
  have hfs : (freshSh 1 (k + 1)).disks.length = 1 := rfl
  have hfz : ((freshDev (freshSh 1 (k + 1)) 0).size : Int) = blocksI ((k : Int) + 1) := by
    show ((blocksI (((k + 1 : Nat) : Int))).toNat : Int) = _
    rw [show ((k + 1 : Nat) : Int) = (k : Int) + 1 from rfl]
    omega
  have hblk : Hid (∀ W, _) := Lib.hid fun W => su_blocks ((k : Int) + 1) W (by omega) (by omega)
  have hon : Hid (∀ W, _) := Lib.hid fun W => lg_open_nil slots W
  generalize hz : blocksI ((k : Int) + 1) = z at *
  generalize freshSh 1 (k + 1) = s0 at *
  obtain ⟨W0, hW0⟩ : ∃ W0, W0 = w.alloc (.cells #[.int .i64 st, .int .i64 pl, .slice A n c] 24) := ⟨_, rfl⟩
  have hx0 : Box3 W0 w.heap.size ⟨st, pl, part⟩ A n c := by rw [hW0]; exact heap_alloc_new _ _
  have hb0 : Below w.heap.size w W0 := by rw [hW0]; exact below_made' _ _
  replace hx0 := Lib.hid hx0
  replace hb0 := Lib.hid hb0
  replace hr := Lib.hid hr
  go_enter Try.func7, Try.ntmps7
  go_wp2_with fail
  rw [← hW0]
  refine (hgn.out W0).mono ?_
  rintro e w1 ⟨rfl, hb1⟩
  obtain ⟨W2, hW2⟩ : ∃ W2, W2 = w1.alloc (.cells #[.int .i64 0, .int .i64 0, .slice none 0 0] 24) := ⟨_, rfl⟩
  have hb02 : Below W0.heap.size W0 W2 := by rw [hW2]; exact below_to hb1 (below_made' _ _)
  have hx2 := hx0.out.below hb02 (lt_of_row hx0.out)
  have hy2 : Box3 W2 w1.heap.size noRec none 0 0 := by rw [hW2]; exact heap_alloc_new _ _
  have hbw2 := hb0.out.trans (hb02.mono hb0.out.size)
  clear hgn hW0 hx0 hb0 hb1 hb02
  go_wp2_with fail
  rw [← hW2]
  clear hW2
  refine (hnw.out W2).mono ?_
  rintro e w3 ⟨g, rfl, hS3, hb3⟩
  clear hnw
  have hct := su_open hS3 0 (by rw [hfs]; omega)
  rw [show ((0 : Nat) : Int) = 0 from rfl] at hct
  go_wp2_with fail
  refine hct.mono ?_
  rintro e w4 ⟨a, rfl, _, h4, hb4⟩
  clear hct
  have hopn := lg_open h4 slots.toNat (by omega) (by omega) (by omega)
  rw [Int.toNat_of_nonneg (by omega : 0 ≤ slots)] at hopn
  go_wp2_with fail
  refine hopn.mono ?_
  rintro e w5 ⟨l, rfl, _, _, hb5⟩
  have hb25 := below_to hb3 (below_to hb4 hb5)
  clear hopn h4 hS3
  go_wp2_with fail
  refine (hon.out w5).mono ?_
  rintro e w' ⟨rfl, rfl⟩
  clear hon
  go_wp2_with fail
  refine (hblk.out w5).mono ?_
  rintro e w' ⟨rfl, rfl⟩
  clear hblk
  go_wp2_with fail
  refine (lives07 w5).mono ?_
  rintro e w6 ⟨rfl, hb6⟩
  have hb26 := below_to hb25 hb6
  have hx6 := hx2.below hb26 (lt_of_row hx2)
  have hy6 := hy2.below hb26 (lt_of_row hy2)
  have hbw6 := hbw2.trans (hb26.mono hbw2.size)
  obtain ⟨y0, y1, y2, ylt⟩ := hy6.cells
  rw [show noRec.stripe = 0 from rfl] at y0
  rw [show noRec.place = 0 from rfl] at y1
  have hsm := rpp_same noRec noRec none none 0 0 0 0 w6 rfl (Rd.nil _) rfl (Rd.nil _)
  rw [sameB_self, show noRec.stripe = 0 from rfl, show noRec.place = 0 from rfl] at hsm
  clear hb25 hb6 hb26 hx2 hy2 hbw2
  go_wp2_with fail
  refine hsm.mono ?_
  rintro e w7 ⟨rfl, hb7⟩
  obtain ⟨x0, x1, x2, xlt⟩ := (hx6.below hb7 (lt_of_row hx6)).cells
  dsimp only at x0 x1 x2
  have hpn := lg_put_nil slot ⟨st, pl, part⟩ A n c w7
  clear hsm y0 y1 y2
  go_wp2_with fail
  refine hpn.mono ?_
  rintro e w8 ⟨rfl, hb8⟩
  go_wp2_with fail
  refine (lg_clear_nil slot w8).mono ?_
  rintro e w' ⟨rfl, rfl⟩
  go_wp2_with fail
  refine (lg_all_nil w8).mono ?_
  rintro e w' ⟨rfl, rfl⟩
  have hfin := hbw6.trans ((below_to hb7 hb8).mono hbw6.size)
  go_wp2
  go_ret
  exact ⟨by (simp <;> omega), hfin⟩
set_option maxRecDepth 100000 in
set_option maxHeartbeats 8000000 in
theorem nob_neg_low (slot : Int) (st pl : Int) (part : List UInt8) (A : Option Addr) (n c : Nat) (slots sectors : Int) (k : Nat) (w : World) (hr : Rd w A part) (hn : part.length = n) (hk : k < 40) (hk0 : sectors.tmod 40 = -(k : Int) ∧ 0 < (k : Int))
    (hs0 : -9223372036854775808 ≤ slots) (hs1 : slots ≤ 9223372036854775807) (hs2 : slots < 1) :
    Calls Try.prog 7 #[.int .i64 slot, .agg #[.int .i64 st, .int .i64 pl, .slice A n c], .int .i64 slots, .int .i64 sectors] w fun e w' => e = .returned (.bool true) ∧ Below w.heap.size w w' := by
  obtain ⟨hkt, hkl⟩ := hk0
  have hbn := blocksI_nat1 k hk
  have hwk : IntKind.i64.wrap ((k : Int) + 1) = (k : Int) + 1 := IntWalk.i64_in _ (by omega)
  have hgn : Hid (∀ W, _) := Lib.hid fun W => lg_get_nil slot W
  have hnw : Hid (∀ W : World, _) := Lib.hid fun W => lx_new (X := fun b => b < W.heap.size) (w := W) (fun _ h => h) 1 (k + 1) (by omega) (by omega) (by omega) (by omega)
  rw [show ((1 : Nat) : Int) = 1 from rfl, show ((k + 1 : Nat) : Int) = (k : Int) + 1 from rfl] at hnw
  have hfs : (freshSh 1 (k + 1)).disks.length = 1 := rfl
  have hfz : ((freshDev (freshSh 1 (k + 1)) 0).size : Int) = blocksI ((k : Int) + 1) := by
    show ((blocksI (((k + 1 : Nat) : Int))).toNat : Int) = _
    rw [show ((k + 1 : Nat) : Int) = (k : Int) + 1 from rfl]
    omega
  have hblk : Hid (∀ W, _) := Lib.hid fun W => su_blocks ((k : Int) + 1) W (by omega) (by omega)
  have hon : Hid (∀ W, _) := Lib.hid fun W => lg_open_nil slots W
  generalize hz : blocksI ((k : Int) + 1) = z at *
  generalize freshSh 1 (k + 1) = s0 at *
  obtain ⟨W0, hW0⟩ : ∃ W0, W0 = w.alloc (.cells #[.int .i64 st, .int .i64 pl, .slice A n c] 24) := ⟨_, rfl⟩
  have hx0 : Box3 W0 w.heap.size ⟨st, pl, part⟩ A n c := by rw [hW0]; exact heap_alloc_new _ _
  have hb0 : Below w.heap.size w W0 := by rw [hW0]; exact below_made' _ _
  replace hx0 := Lib.hid hx0
  replace hb0 := Lib.hid hb0
  replace hr := Lib.hid hr
  go_enter Try.func7, Try.ntmps7
  go_wp2_with fail
  rw [← hW0]
  refine (hgn.out W0).mono ?_
  rintro e w1 ⟨rfl, hb1⟩
  obtain ⟨W2, hW2⟩ : ∃ W2, W2 = w1.alloc (.cells #[.int .i64 0, .int .i64 0, .slice none 0 0] 24) := ⟨_, rfl⟩
  have hb02 : Below W0.heap.size W0 W2 := by rw [hW2]; exact below_to hb1 (below_made' _ _)
  have hx2 := hx0.out.below hb02 (lt_of_row hx0.out)
  have hy2 : Box3 W2 w1.heap.size noRec none 0 0 := by rw [hW2]; exact heap_alloc_new _ _
  have hbw2 := hb0.out.trans (hb02.mono hb0.out.size)
  clear hgn hW0 hx0 hb0 hb1 hb02
  go_wp2_with fail
  rw [← hW2]
  clear hW2
  refine (hnw.out W2).mono ?_
  rintro e w3 ⟨g, rfl, hS3, hb3⟩
  clear hnw
  have hct := su_open hS3 0 (by rw [hfs]; omega)
  rw [show ((0 : Nat) : Int) = 0 from rfl] at hct
  go_wp2_with fail
  refine hct.mono ?_
  rintro e w4 ⟨a, rfl, _, h4, hb4⟩
  clear hct
  have hopn := lg_open_bad h4 slots hs0 hs1 (by omega)
  go_wp2_with fail
  refine hopn.mono ?_
  rintro e w4 ⟨rfl, rfl⟩
  have hb25 := below_to hb3 hb4
  clear hopn h4 hS3
  go_wp2_with fail
  refine (hon.out w4).mono ?_
  rintro e w' ⟨rfl, rfl⟩
  clear hon

  go_wp2_with fail
  refine (lives07 w4).mono ?_
  rintro e w6 ⟨rfl, hb6⟩
  have hb26 := below_to hb25 hb6
  have hx6 := hx2.below hb26 (lt_of_row hx2)
  have hy6 := hy2.below hb26 (lt_of_row hy2)
  have hbw6 := hbw2.trans (hb26.mono hbw2.size)
  obtain ⟨y0, y1, y2, ylt⟩ := hy6.cells
  rw [show noRec.stripe = 0 from rfl] at y0
  rw [show noRec.place = 0 from rfl] at y1
  have hsm := rpp_same noRec noRec none none 0 0 0 0 w6 rfl (Rd.nil _) rfl (Rd.nil _)
  rw [sameB_self, show noRec.stripe = 0 from rfl, show noRec.place = 0 from rfl] at hsm
  clear hb25 hb6 hb26 hx2 hy2 hbw2
  go_wp2_with fail
  refine hsm.mono ?_
  rintro e w7 ⟨rfl, hb7⟩
  obtain ⟨x0, x1, x2, xlt⟩ := (hx6.below hb7 (lt_of_row hx6)).cells
  dsimp only at x0 x1 x2
  have hpn := lg_put_nil slot ⟨st, pl, part⟩ A n c w7
  clear hsm y0 y1 y2
  go_wp2_with fail
  refine hpn.mono ?_
  rintro e w8 ⟨rfl, hb8⟩
  go_wp2_with fail
  refine (lg_clear_nil slot w8).mono ?_
  rintro e w' ⟨rfl, rfl⟩
  go_wp2_with fail
  refine (lg_all_nil w8).mono ?_
  rintro e w' ⟨rfl, rfl⟩
  have hfin := hbw6.trans ((below_to hb7 hb8).mono hbw6.size)
  go_wp2
  go_ret
  exact ⟨by (simp <;> omega), hfin⟩
set_option maxRecDepth 100000 in
set_option maxHeartbeats 8000000 in
theorem nob_neg_high (slot : Int) (st pl : Int) (part : List UInt8) (A : Option Addr) (n c : Nat) (slots sectors : Int) (k : Nat) (w : World) (hr : Rd w A part) (hn : part.length = n) (hk : k < 40) (hk0 : sectors.tmod 40 = -(k : Int) ∧ 0 < (k : Int))
    (hs0 : -9223372036854775808 ≤ slots) (hs1 : slots ≤ 9223372036854775807) (hs2 : 1 ≤ slots) (hs3 : 8 < slots) :
    Calls Try.prog 7 #[.int .i64 slot, .agg #[.int .i64 st, .int .i64 pl, .slice A n c], .int .i64 slots, .int .i64 sectors] w fun e w' => e = .returned (.bool true) ∧ Below w.heap.size w w' := by
  obtain ⟨hkt, hkl⟩ := hk0
  have hbn := blocksI_nat1 k hk
  have hwk : IntKind.i64.wrap ((k : Int) + 1) = (k : Int) + 1 := IntWalk.i64_in _ (by omega)
  have hgn : Hid (∀ W, _) := Lib.hid fun W => lg_get_nil slot W
  have hnw : Hid (∀ W : World, _) := Lib.hid fun W => lx_new (X := fun b => b < W.heap.size) (w := W) (fun _ h => h) 1 (k + 1) (by omega) (by omega) (by omega) (by omega)
  rw [show ((1 : Nat) : Int) = 1 from rfl, show ((k + 1 : Nat) : Int) = (k : Int) + 1 from rfl] at hnw
  have hfs : (freshSh 1 (k + 1)).disks.length = 1 := rfl
  have hfz : ((freshDev (freshSh 1 (k + 1)) 0).size : Int) = blocksI ((k : Int) + 1) := by
    show ((blocksI (((k + 1 : Nat) : Int))).toNat : Int) = _
    rw [show ((k + 1 : Nat) : Int) = (k : Int) + 1 from rfl]
    omega
  have hblk : Hid (∀ W, _) := Lib.hid fun W => su_blocks ((k : Int) + 1) W (by omega) (by omega)
  have hon : Hid (∀ W, _) := Lib.hid fun W => lg_open_nil slots W
  generalize hz : blocksI ((k : Int) + 1) = z at *
  generalize freshSh 1 (k + 1) = s0 at *
  obtain ⟨W0, hW0⟩ : ∃ W0, W0 = w.alloc (.cells #[.int .i64 st, .int .i64 pl, .slice A n c] 24) := ⟨_, rfl⟩
  have hx0 : Box3 W0 w.heap.size ⟨st, pl, part⟩ A n c := by rw [hW0]; exact heap_alloc_new _ _
  have hb0 : Below w.heap.size w W0 := by rw [hW0]; exact below_made' _ _
  replace hx0 := Lib.hid hx0
  replace hb0 := Lib.hid hb0
  replace hr := Lib.hid hr
  go_enter Try.func7, Try.ntmps7
  go_wp2_with fail
  rw [← hW0]
  refine (hgn.out W0).mono ?_
  rintro e w1 ⟨rfl, hb1⟩
  obtain ⟨W2, hW2⟩ : ∃ W2, W2 = w1.alloc (.cells #[.int .i64 0, .int .i64 0, .slice none 0 0] 24) := ⟨_, rfl⟩
  have hb02 : Below W0.heap.size W0 W2 := by rw [hW2]; exact below_to hb1 (below_made' _ _)
  have hx2 := hx0.out.below hb02 (lt_of_row hx0.out)
  have hy2 : Box3 W2 w1.heap.size noRec none 0 0 := by rw [hW2]; exact heap_alloc_new _ _
  have hbw2 := hb0.out.trans (hb02.mono hb0.out.size)
  clear hgn hW0 hx0 hb0 hb1 hb02
  go_wp2_with fail
  rw [← hW2]
  clear hW2
  refine (hnw.out W2).mono ?_
  rintro e w3 ⟨g, rfl, hS3, hb3⟩
  clear hnw
  have hct := su_open hS3 0 (by rw [hfs]; omega)
  rw [show ((0 : Nat) : Int) = 0 from rfl] at hct
  go_wp2_with fail
  refine hct.mono ?_
  rintro e w4 ⟨a, rfl, _, h4, hb4⟩
  clear hct
  have hopn := lg_open_bad h4 slots hs0 hs1 (by omega)
  go_wp2_with fail
  refine hopn.mono ?_
  rintro e w4 ⟨rfl, rfl⟩
  have hb25 := below_to hb3 hb4
  clear hopn h4 hS3
  go_wp2_with fail
  refine (hon.out w4).mono ?_
  rintro e w' ⟨rfl, rfl⟩
  clear hon

  go_wp2_with fail
  refine (lives07 w4).mono ?_
  rintro e w6 ⟨rfl, hb6⟩
  have hb26 := below_to hb25 hb6
  have hx6 := hx2.below hb26 (lt_of_row hx2)
  have hy6 := hy2.below hb26 (lt_of_row hy2)
  have hbw6 := hbw2.trans (hb26.mono hbw2.size)
  obtain ⟨y0, y1, y2, ylt⟩ := hy6.cells
  rw [show noRec.stripe = 0 from rfl] at y0
  rw [show noRec.place = 0 from rfl] at y1
  have hsm := rpp_same noRec noRec none none 0 0 0 0 w6 rfl (Rd.nil _) rfl (Rd.nil _)
  rw [sameB_self, show noRec.stripe = 0 from rfl, show noRec.place = 0 from rfl] at hsm
  clear hb25 hb6 hb26 hx2 hy2 hbw2
  go_wp2_with fail
  refine hsm.mono ?_
  rintro e w7 ⟨rfl, hb7⟩
  obtain ⟨x0, x1, x2, xlt⟩ := (hx6.below hb7 (lt_of_row hx6)).cells
  dsimp only at x0 x1 x2
  have hpn := lg_put_nil slot ⟨st, pl, part⟩ A n c w7
  clear hsm y0 y1 y2
  go_wp2_with fail
  refine hpn.mono ?_
  rintro e w8 ⟨rfl, hb8⟩
  go_wp2_with fail
  refine (lg_clear_nil slot w8).mono ?_
  rintro e w' ⟨rfl, rfl⟩
  go_wp2_with fail
  refine (lg_all_nil w8).mono ?_
  rintro e w' ⟨rfl, rfl⟩
  have hfin := hbw6.trans ((below_to hb7 hb8).mono hbw6.size)
  go_wp2
  go_ret
  exact ⟨by (simp <;> omega), hfin⟩
set_option maxRecDepth 100000 in
set_option maxHeartbeats 8000000 in
theorem nob_neg_wide (slot : Int) (st pl : Int) (part : List UInt8) (A : Option Addr) (n c : Nat) (slots sectors : Int) (k : Nat) (w : World) (hr : Rd w A part) (hn : part.length = n) (hk : k < 40) (hk0 : sectors.tmod 40 = -(k : Int) ∧ 0 < (k : Int))
    (hs0 : -9223372036854775808 ≤ slots) (hs1 : slots ≤ 9223372036854775807) (hs2 : 1 ≤ slots) (hs3 : slots ≤ 8) (hs4 : blocksI ((k : Int) + 1) < 2 + 2 * slots) :
    Calls Try.prog 7 #[.int .i64 slot, .agg #[.int .i64 st, .int .i64 pl, .slice A n c], .int .i64 slots, .int .i64 sectors] w fun e w' => e = .returned (.bool true) ∧ Below w.heap.size w w' := by
  obtain ⟨hkt, hkl⟩ := hk0
  have hbn := blocksI_nat1 k hk
  have hwk : IntKind.i64.wrap ((k : Int) + 1) = (k : Int) + 1 := IntWalk.i64_in _ (by omega)
  have hgn : Hid (∀ W, _) := Lib.hid fun W => lg_get_nil slot W
  have hnw : Hid (∀ W : World, _) := Lib.hid fun W => lx_new (X := fun b => b < W.heap.size) (w := W) (fun _ h => h) 1 (k + 1) (by omega) (by omega) (by omega) (by omega)
  rw [show ((1 : Nat) : Int) = 1 from rfl, show ((k + 1 : Nat) : Int) = (k : Int) + 1 from rfl] at hnw
  have hfs : (freshSh 1 (k + 1)).disks.length = 1 := rfl
  have hfz : ((freshDev (freshSh 1 (k + 1)) 0).size : Int) = blocksI ((k : Int) + 1) := by
    show ((blocksI (((k + 1 : Nat) : Int))).toNat : Int) = _
    rw [show ((k + 1 : Nat) : Int) = (k : Int) + 1 from rfl]
    omega
  have hblk : Hid (∀ W, _) := Lib.hid fun W => su_blocks ((k : Int) + 1) W (by omega) (by omega)
  have hon : Hid (∀ W, _) := Lib.hid fun W => lg_open_nil slots W
  generalize hz : blocksI ((k : Int) + 1) = z at *
  generalize freshSh 1 (k + 1) = s0 at *
  obtain ⟨W0, hW0⟩ : ∃ W0, W0 = w.alloc (.cells #[.int .i64 st, .int .i64 pl, .slice A n c] 24) := ⟨_, rfl⟩
  have hx0 : Box3 W0 w.heap.size ⟨st, pl, part⟩ A n c := by rw [hW0]; exact heap_alloc_new _ _
  have hb0 : Below w.heap.size w W0 := by rw [hW0]; exact below_made' _ _
  replace hx0 := Lib.hid hx0
  replace hb0 := Lib.hid hb0
  replace hr := Lib.hid hr
  go_enter Try.func7, Try.ntmps7
  go_wp2_with fail
  rw [← hW0]
  refine (hgn.out W0).mono ?_
  rintro e w1 ⟨rfl, hb1⟩
  obtain ⟨W2, hW2⟩ : ∃ W2, W2 = w1.alloc (.cells #[.int .i64 0, .int .i64 0, .slice none 0 0] 24) := ⟨_, rfl⟩
  have hb02 : Below W0.heap.size W0 W2 := by rw [hW2]; exact below_to hb1 (below_made' _ _)
  have hx2 := hx0.out.below hb02 (lt_of_row hx0.out)
  have hy2 : Box3 W2 w1.heap.size noRec none 0 0 := by rw [hW2]; exact heap_alloc_new _ _
  have hbw2 := hb0.out.trans (hb02.mono hb0.out.size)
  clear hgn hW0 hx0 hb0 hb1 hb02
  go_wp2_with fail
  rw [← hW2]
  clear hW2
  refine (hnw.out W2).mono ?_
  rintro e w3 ⟨g, rfl, hS3, hb3⟩
  clear hnw
  have hct := su_open hS3 0 (by rw [hfs]; omega)
  rw [show ((0 : Nat) : Int) = 0 from rfl] at hct
  go_wp2_with fail
  refine hct.mono ?_
  rintro e w4 ⟨a, rfl, _, h4, hb4⟩
  clear hct
  have hopn := lg_open_bad h4 slots hs0 hs1 (by omega)
  go_wp2_with fail
  refine hopn.mono ?_
  rintro e w4 ⟨rfl, rfl⟩
  have hb25 := below_to hb3 hb4
  clear hopn h4 hS3
  go_wp2_with fail
  refine (hon.out w4).mono ?_
  rintro e w' ⟨rfl, rfl⟩
  clear hon
  go_wp2_with fail
  refine (hblk.out w4).mono ?_
  rintro e w' ⟨rfl, rfl⟩
  clear hblk
  go_wp2_with fail
  refine (lives07 w4).mono ?_
  rintro e w6 ⟨rfl, hb6⟩
  have hb26 := below_to hb25 hb6
  have hx6 := hx2.below hb26 (lt_of_row hx2)
  have hy6 := hy2.below hb26 (lt_of_row hy2)
  have hbw6 := hbw2.trans (hb26.mono hbw2.size)
  obtain ⟨y0, y1, y2, ylt⟩ := hy6.cells
  rw [show noRec.stripe = 0 from rfl] at y0
  rw [show noRec.place = 0 from rfl] at y1
  have hsm := rpp_same noRec noRec none none 0 0 0 0 w6 rfl (Rd.nil _) rfl (Rd.nil _)
  rw [sameB_self, show noRec.stripe = 0 from rfl, show noRec.place = 0 from rfl] at hsm
  clear hb25 hb6 hb26 hx2 hy2 hbw2
  go_wp2_with fail
  refine hsm.mono ?_
  rintro e w7 ⟨rfl, hb7⟩
  obtain ⟨x0, x1, x2, xlt⟩ := (hx6.below hb7 (lt_of_row hx6)).cells
  dsimp only at x0 x1 x2
  have hpn := lg_put_nil slot ⟨st, pl, part⟩ A n c w7
  clear hsm y0 y1 y2
  go_wp2_with fail
  refine hpn.mono ?_
  rintro e w8 ⟨rfl, hb8⟩
  go_wp2_with fail
  refine (lg_clear_nil slot w8).mono ?_
  rintro e w' ⟨rfl, rfl⟩
  go_wp2_with fail
  refine (lg_all_nil w8).mono ?_
  rintro e w' ⟨rfl, rfl⟩
  have hfin := hbw6.trans ((below_to hb7 hb8).mono hbw6.size)
  go_wp2
  go_ret
  exact ⟨by (simp <;> omega), hfin⟩
end Go.Proofs.Ytibpmiapcihkfaa

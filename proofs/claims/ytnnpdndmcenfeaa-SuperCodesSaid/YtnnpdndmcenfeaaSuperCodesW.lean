/-
  THE WALK of SuperCodes: any array as a block, and what any bytes say.
-/
import Derived.Test.YtnnpdndmcenfeaaSupLv
import Derived.Test.YtnnpdndmcenfeaaSupF
import Derived.Deep.RegionHeld3
namespace Go.Proofs.Ytnnpdndmcenfeaa
open Go.RowKit

set_option maxRecDepth 100000 in
set_option maxHeartbeats 4000000 in
theorem superCodes_walk (s : Sup) (A : Option Addr) (n c : Nat) (bs : List UInt8) (W : World) (hr : Rd W A bs) (hn : bs.length = n) (h47 : n ≤ 140737488351232) :
    Calls Try.prog 12 #[(.agg #[.int .i64 s.gen, .int .i64 s.members, .int .i64 s.disk, .int .i64 s.stripes, .int .i64 s.logs, .int .i64 s.spare, .int .i64 s.mark, .int .i64 s.cursor]), .slice A n c] W fun e W' => e = .returned (.bool true) ∧ Below W.heap.size W W' := by
  have HR := Lib.hid hr
  have HN := Lib.hid hn
  clear hr hn
  go_enter Try.func12, Try.ntmps12
  have hrow0 := heap_alloc_new W (.cells #[.int .i64 s.gen, .int .i64 s.members, .int .i64 s.disk, .int .i64 s.stripes, .int .i64 s.logs, .int .i64 s.spare, .int .i64 s.mark, .int .i64 s.cursor] 47)
  have hB0 := below_made' W (.cells #[.int .i64 s.gen, .int .i64 s.members, .int .i64 s.disk, .int .i64 s.stripes, .int .i64 s.logs, .int .i64 s.spare, .int .i64 s.mark, .int .i64 s.cursor] 47)
  have hr0 := HR.out.below hB0
  have hsz0 : (W.alloc (.cells #[.int .i64 s.gen, .int .i64 s.members, .int .i64 s.disk, .int .i64 s.stripes, .int .i64 s.logs, .int .i64 s.spare, .int .i64 s.mark, .int .i64 s.cursor] 47)).heap.size = W.heap.size + 1 := by simp
  have hlit := Own.none_ (W.alloc (.cells #[.int .i64 s.gen, .int .i64 s.members, .int .i64 s.disk, .int .i64 s.stripes, .int .i64 s.logs, .int .i64 s.spare, .int .i64 s.mark, .int .i64 s.cursor] 47)) 5
  rw [hsz0] at hlit
  go_wp2_with (at_builtin; refine wpList_append_rd rfl (.tmp 14) (.tmp 15) 23 rfl (W.heap.size + 1) 5 Try.underlying23 Try.infoU8 (.slice (some ⟨W.heap.size + 1, 0, none⟩) 0 0) [] bs A n c rfl rfl hlit (hr0.alloc _) HN.out (by simp; omega) (by simp) ?_; intro v2 w2 hown2 hg2; have hb2 := hlit.grow hg2 (by simp); have hrow2 : w2.heap[W.heap.size]? = some (.cells #[.int .i64 s.gen, .int .i64 s.members, .int .i64 s.disk, .int .i64 s.stripes, .int .i64 s.logs, .int .i64 s.spare, .int .i64 s.mark, .int .i64 s.cursor] 47) := (hb2.block _ (by omega)).trans (hrow_keep hrow0 (below_made' _ _)); obtain ⟨c0, c1, c2_, c3, c4, c5, c6, c7, -⟩ := row8_cells w2 _ _ _ _ _ _ _ _ _ _ hrow2)
  rw [List.nil_append] at hown2
  obtain ⟨A2, c2, rfl, hr2, hs2⟩ := hown2.form
  have hcap2 := hown2.cap
  have hB2 : Below W.heap.size W w2 := (hB0.trans ((below_made' _ _).mono (by simp))).trans (hb2.mono (by omega))
  clear hown2 hg2 hs2 hb2 hlit hsz0 hrow0 hB0 hr0
  simp only [HN.out]
  refine (enc_u s w2).mono ?_
  rintro e w3 ⟨A3, c3', rfl, ho3, hb3⟩
  have hr3 := hr2.below hb3
  have hrow3 := hrow_keep hrow2 hb3
  have hB3 := hB2.trans (hb3.mono hB2.size)
  have ho3 := ho3.rd
  clear c0 c1 c2_ c3 c4 c5 c6 c7 hrow2 hb3 hr2 hB2
  obtain ⟨c0, c1, c2_, c3, c4, c5, c6, c7, -⟩ := row8_cells w3 _ _ _ _ _ _ _ _ _ _ hrow3
  go_wp2_with fail
  refine (renc_u s w3).mono ?_
  rintro e w4 ⟨A4, c4', rfl, ho4, hb4⟩
  have hr4 := hr3.below hb4
  have hrow4 := hrow_keep hrow3 hb4
  have hB4 := hB3.trans (hb4.mono hB3.size)
  have ho34 := ho3.below hb4
  have ho4 := ho4.rd
  clear c0 c1 c2_ c3 c4 c5 c6 c7 hrow3 hb4 hr3 hB3 ho3
  go_wp2_with fail
  refine (dec_u A2 n c2 bs w4 hr4 HN.out (by rw [HN.out] at hcap2; exact hcap2)).mono ?_
  rintro e w5 ⟨rfl, hb5⟩
  have hr5 := hr4.below hb5
  have ho35 := ho34.below hb5
  have ho45 := ho4.below hb5
  have hrow5 := hrow_keep hrow4 hb5
  have hB5 := hB4.trans (hb5.mono hB4.size)
  clear hr4 ho34 ho4 hrow4 hB4 hb5
  generalize hts : decS bs = t at *
  generalize hte : decE bs = te at *
  generalize hsl : supL s = sl at *
  generalize hse : supE s = se at *
  have HTS := Lib.hid hts
  have HTE := Lib.hid hte
  clear hts hte hsl hse
  have hrt5 := heap_alloc_new w5 (.cells #[.int .i64 t.gen, .int .i64 t.members, .int .i64 t.disk, .int .i64 t.stripes, .int .i64 t.logs, .int .i64 t.spare, .int .i64 t.mark, .int .i64 t.cursor] 47)
  have hb56 := below_made' w5 (.cells #[.int .i64 t.gen, .int .i64 t.members, .int .i64 t.disk, .int .i64 t.stripes, .int .i64 t.logs, .int .i64 t.spare, .int .i64 t.mark, .int .i64 t.cursor] 47)
  go_wp2_with fail
  refine (rdec_u A n c bs _ (HR.out.below (hB5.trans (hb56.mono hB5.size))) HN.out).mono ?_
  rintro e w6 ⟨rfl, hb6⟩
  rw [HTS.out, HTE.out]
  have hrt6 := hrow_keep hrt5 hb6
  have hb57 := (hb56.trans (hb6.mono (by simp)))
  have hr6 := hr5.below hb57
  have ho36 := ho35.below hb57
  have ho46 := ho45.below hb57
  have hrow6 := hrow_keep hrow5 hb57
  have hB6 := hB5.trans (hb57.mono hB5.size)
  clear hrt5 hb56 hb6 hb57 hr5 ho35 ho45 hrow5 hB5 HTS HTE
  obtain ⟨w7, hw7⟩ : ∃ w7, w7 = w6.alloc (.cells #[.int .i64 t.gen, .int .i64 t.members, .int .i64 t.disk, .int .i64 t.stripes, .int .i64 t.logs, .int .i64 t.spare, .int .i64 t.mark, .int .i64 t.cursor] 47) := ⟨_, rfl⟩
  have hb67 : Below w6.heap.size w6 w7 := by rw [hw7]; exact below_made' _ _
  have hru7 : w7.heap[w6.heap.size]? = some (.cells #[.int .i64 t.gen, .int .i64 t.members, .int .i64 t.disk, .int .i64 t.stripes, .int .i64 t.logs, .int .i64 t.spare, .int .i64 t.mark, .int .i64 t.cursor] 47) := by rw [hw7]; exact heap_alloc_new _ _
  have hrt7 := hrow_keep hrt6 hb67
  have hr7 := hr6.below hb67
  have ho37 := ho36.below hb67
  have ho47 := ho46.below hb67
  have hrow7 := hrow_keep hrow6 hb67
  have hB7 := hB6.trans (hb67.mono hB6.size)
  have hrA7 := HR.out.below hB7
  clear hrt6 hr6 ho36 ho46 hrow6 hB6 hb67
  generalize w5.heap.size = g5 at *
  clear w5
  go_wp2_with fail
  rw [← hw7]
  generalize w6.heap.size = g6 at *
  clear hw7
  clear w6
  have hS : ∀ w', Below w7.heap.size w7 w' → Below w7.heap.size w7 w' ∧ w'.cell? ⟨W.heap.size, 0, none⟩ = some (.int .i64 s.gen) ∧ w'.cell? ⟨W.heap.size, 1, none⟩ = some (.int .i64 s.members) ∧ w'.cell? ⟨W.heap.size, 2, none⟩ = some (.int .i64 s.disk) ∧ w'.cell? ⟨W.heap.size, 3, none⟩ = some (.int .i64 s.stripes) ∧ w'.cell? ⟨W.heap.size, 4, none⟩ = some (.int .i64 s.logs) ∧ w'.cell? ⟨W.heap.size, 5, none⟩ = some (.int .i64 s.spare) ∧ w'.cell? ⟨W.heap.size, 6, none⟩ = some (.int .i64 s.mark) ∧ w'.cell? ⟨W.heap.size, 7, none⟩ = some (.int .i64 s.cursor) ∧ w'.cell? ⟨g5, 0, none⟩ = some (.int .i64 t.gen) ∧ w'.cell? ⟨g5, 1, none⟩ = some (.int .i64 t.members) ∧ w'.cell? ⟨g5, 2, none⟩ = some (.int .i64 t.disk) ∧ w'.cell? ⟨g5, 3, none⟩ = some (.int .i64 t.stripes) ∧ w'.cell? ⟨g5, 4, none⟩ = some (.int .i64 t.logs) ∧ w'.cell? ⟨g5, 5, none⟩ = some (.int .i64 t.spare) ∧ w'.cell? ⟨g5, 6, none⟩ = some (.int .i64 t.mark) ∧ w'.cell? ⟨g5, 7, none⟩ = some (.int .i64 t.cursor) ∧ w'.cell? ⟨g6, 0, none⟩ = some (.int .i64 t.gen) ∧ w'.cell? ⟨g6, 1, none⟩ = some (.int .i64 t.members) ∧ w'.cell? ⟨g6, 2, none⟩ = some (.int .i64 t.disk) ∧ w'.cell? ⟨g6, 3, none⟩ = some (.int .i64 t.stripes) ∧ w'.cell? ⟨g6, 4, none⟩ = some (.int .i64 t.logs) ∧ w'.cell? ⟨g6, 5, none⟩ = some (.int .i64 t.spare) ∧ w'.cell? ⟨g6, 6, none⟩ = some (.int .i64 t.mark) ∧ w'.cell? ⟨g6, 7, none⟩ = some (.int .i64 t.cursor) ∧ (convert 23 9 (.slice A3 sl.length c3')).run Try.prog w' = .ok (.string ⟨sl.toArray⟩) w' ∧ (convert 23 9 (.slice A4 sl.length c4')).run Try.prog w' = .ok (.string ⟨sl.toArray⟩) w' ∧ (convert 23 9 (.slice A2 n c2)).run Try.prog w' = .ok (.string ⟨bs.toArray⟩) w' ∧ (convert 23 9 (.slice A n c)).run Try.prog w' = .ok (.string ⟨bs.toArray⟩) w' := by
    intro w' hb
    obtain ⟨a0, a1, a2, a3, a4, a5, a6, a7, -⟩ := row8_cells w' _ _ _ _ _ _ _ _ _ _ (hrow_keep hrow7 hb)
    obtain ⟨b0, b1, b2, b3, b4, b5, b6, b7, -⟩ := row8_cells w' _ _ _ _ _ _ _ _ _ _ (hrow_keep hrt7 hb)
    obtain ⟨d0, d1, d2, d3, d4, d5, d6, d7, -⟩ := row8_cells w' _ _ _ _ _ _ _ _ _ _ (hrow_keep hru7 hb)
    exact ⟨hb, a0, a1, a2, a3, a4, a5, a6, a7, b0, b1, b2, b3, b4, b5, b6, b7, d0, d1, d2, d3, d4, d5, d6, d7,
      run_string_rd (P := Try.prog) w' 23 9 5 Try.underlying23 Try.underlying5 Try.underlying9 A3 sl.length c3' sl (ho37.below hb) rfl,
      run_string_rd (P := Try.prog) w' 23 9 5 Try.underlying23 Try.underlying5 Try.underlying9 A4 sl.length c4' sl (ho47.below hb) rfl,
      run_string_rd (P := Try.prog) w' 23 9 5 Try.underlying23 Try.underlying5 Try.underlying9 A2 n c2 bs (hr7.below hb) HN.out,
      run_string_rd (P := Try.prog) w' 23 9 5 Try.underlying23 Try.underlying5 Try.underlying9 A n c bs (hrA7.below hb) HN.out⟩
  have HSS := Lib.hid hS
  clear hS hrow7 hrt7 hru7 hr7 ho37 ho47 hrA7 ho3 ho4
  go_region_held3 (fun w' => Below w7.heap.size w7 w' ∧ w'.cell? ⟨W.heap.size, 0, none⟩ = some (.int .i64 s.gen) ∧ w'.cell? ⟨W.heap.size, 1, none⟩ = some (.int .i64 s.members) ∧ w'.cell? ⟨W.heap.size, 2, none⟩ = some (.int .i64 s.disk) ∧ w'.cell? ⟨W.heap.size, 3, none⟩ = some (.int .i64 s.stripes) ∧ w'.cell? ⟨W.heap.size, 4, none⟩ = some (.int .i64 s.logs) ∧ w'.cell? ⟨W.heap.size, 5, none⟩ = some (.int .i64 s.spare) ∧ w'.cell? ⟨W.heap.size, 6, none⟩ = some (.int .i64 s.mark) ∧ w'.cell? ⟨W.heap.size, 7, none⟩ = some (.int .i64 s.cursor) ∧ w'.cell? ⟨g5, 0, none⟩ = some (.int .i64 t.gen) ∧ w'.cell? ⟨g5, 1, none⟩ = some (.int .i64 t.members) ∧ w'.cell? ⟨g5, 2, none⟩ = some (.int .i64 t.disk) ∧ w'.cell? ⟨g5, 3, none⟩ = some (.int .i64 t.stripes) ∧ w'.cell? ⟨g5, 4, none⟩ = some (.int .i64 t.logs) ∧ w'.cell? ⟨g5, 5, none⟩ = some (.int .i64 t.spare) ∧ w'.cell? ⟨g5, 6, none⟩ = some (.int .i64 t.mark) ∧ w'.cell? ⟨g5, 7, none⟩ = some (.int .i64 t.cursor) ∧ w'.cell? ⟨g6, 0, none⟩ = some (.int .i64 t.gen) ∧ w'.cell? ⟨g6, 1, none⟩ = some (.int .i64 t.members) ∧ w'.cell? ⟨g6, 2, none⟩ = some (.int .i64 t.disk) ∧ w'.cell? ⟨g6, 3, none⟩ = some (.int .i64 t.stripes) ∧ w'.cell? ⟨g6, 4, none⟩ = some (.int .i64 t.logs) ∧ w'.cell? ⟨g6, 5, none⟩ = some (.int .i64 t.spare) ∧ w'.cell? ⟨g6, 6, none⟩ = some (.int .i64 t.mark) ∧ w'.cell? ⟨g6, 7, none⟩ = some (.int .i64 t.cursor) ∧ (convert 23 9 (.slice A3 sl.length c3')).run Try.prog w' = .ok (.string ⟨sl.toArray⟩) w' ∧ (convert 23 9 (.slice A4 sl.length c4')).run Try.prog w' = .ok (.string ⟨sl.toArray⟩) w' ∧ (convert 23 9 (.slice A2 n c2)).run Try.prog w' = .ok (.string ⟨bs.toArray⟩) w' ∧ (convert 23 9 (.slice A n c)).run Try.prog w' = .ok (.string ⟨bs.toArray⟩) w')
    (first | (exact HSS.out _ ⟨rfl, rfl, rfl, Nat.le_refl _, (fun _ _ => rfl)⟩) | (go_split_ands; exact HSS.out _ (below_to (by assumption) (by assumption))))
    (first | (go_at_call 39; refine (lives04 _).mono ?_; rintro e wx ⟨rfl, hbx⟩) | (go_at_call 40; refine (right_any s _).mono ?_; rintro e wx ⟨rfl, hbx⟩) | (go_at_call 41; refine (rright_any s _).mono ?_; rintro e wx ⟨rfl, hbx⟩))
  all_goals
    rename_i hH
    have hH1 := hH.1
    clear hH
    go_wp2
    go_ret
    exact ⟨rfl, hB7.trans (hH1.mono hB7.size)⟩
end Go.Proofs.Ytnnpdndmcenfeaa

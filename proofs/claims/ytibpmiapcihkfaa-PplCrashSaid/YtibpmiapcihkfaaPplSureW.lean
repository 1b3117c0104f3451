/-
  THE WALK of PplSure.
-/
import Derived.Test.YtibpmiapcihkfaaPpQ
import Derived.Test.YtibpmiapcihkfaaPpOp
import Derived.Test.YtibpmiapcihkfaaPpZ
import Derived.Test.YtibpmiapcihkfaaHeldTail
namespace Go.Proofs.Ytibpmiapcihkfaa
set_option linter.all false
open Go.RowKit

theorem dx_flush {X : Nat → Prop} {a g : Nat} {w : World} {s : ShM} {D : DevM} (h : DvX X a g w s D) (d : Int) : Calls Try.prog 30 #[.pointer (some ⟨g, 0, none⟩), .int .i64 d] w fun e w' =>
    e = .returned (.int .i64 (s.flushR d).1) ∧ DvX X a g w' (s.flushR d).2 D ∧ Kept X w w' := by
  refine (lx_flush h.sh d).mono ?_
  rintro e w' ⟨r1, r2, r3⟩
  obtain ⟨r4, r5⟩ := h.step r2 r3 (flush_len s d)
  exact ⟨r1, r4, r5⟩
set_option maxRecDepth 100000 in
set_option maxHeartbeats 16000000 in
theorem pplSure_walk (q : Rec) (A : Option Addr) (n c : Nat) (B : Option Addr) (m d : Nat) (ops : List OpP) (stop : Int) (KA : Option Addr) (kn kc : Nat) (keep : List (List Int)) (w : World)
    (hr : Rd w A q.part) (hn : q.part.length = n) (hA : ∀ ad, A = some ad → 0 < n → ad.block < w.heap.size) (_ : n ≤ 140737488351232)
    (hops : OpsP w w.heap.size B ops) (hm : ops.length = m) (_ : -9223372036854775808 ≤ stop) (_ : stop ≤ 9223372036854775807) (hK : KeepL w w.heap.size KA keep) (hkn : keep.length = kn) :
    Calls Try.prog 9 #[.agg #[.int .i64 q.stripe, .int .i64 q.place, .slice A n c], .slice B m d, .int .i64 stop, .slice KA kn kc] w fun e w' => e = .returned (.bool true) ∧ Below w.heap.size w w' := by
  obtain ⟨W0, hW0⟩ : ∃ W0, W0 = w.alloc (.cells #[.int .i64 q.stripe, .int .i64 q.place, .slice A n c] 24) := ⟨_, rfl⟩
  have hx0 : Box3 W0 w.heap.size q A n c := by rw [hW0]; exact heap_alloc_new _ _
  have hb0 : Below w.heap.size w W0 := by rw [hW0]; exact below_made' _ _
  have hop : Hid (∀ W, _) := Lib.hid fun W => pp_open 3 (by omega) (by omega) W
  rw [show ((3 : Nat) : Int) = 3 from rfl] at hop
  have hmay : Hid (∀ W, _) := Lib.hid fun W => rpp_may q.stripe q.place q.part A n c W hn
  rw [show (⟨q.stripe, q.place, q.part⟩ : Rec) = q from rfl] at hmay
  replace hr := Lib.hid hr
  replace hn := Lib.hid hn
  replace hA := Lib.hid hA
  replace hops := Lib.hid hops
  replace hm := Lib.hid hm
  replace hK := Lib.hid hK
  replace hkn := Lib.hid hkn
  replace hx0 := Lib.hid hx0
  replace hb0 := Lib.hid hb0
  go_enter Try.func9, Try.ntmps9
  go_wp2_with fail
  rw [← hW0]
  refine (hop.out W0).mono ?_
  rintro e w1 ⟨g, a, l, rfl, hL1, hl1, hll, hb1⟩
  clear hop
  go_wp2_with fail
  refine (lives07 w1).mono ?_
  rintro e w2 ⟨rfl, hb2⟩
  have hb02 := below_to hb1 hb2
  have hx2 : Box3 w2 w.heap.size q A n c := hx0.out.below hb02 (lt_of_row hx0.out)
  have hbw2 := hb0.out.trans (hb02.mono hb0.out.size)
  have hwx : w.heap.size < W0.heap.size := lt_of_row hx0.out
  have hD2 := (hL1.dv.below hb2)
  have hl2 := hl1.below hb2
  obtain ⟨c0, c1, c2, clt⟩ := hx2.cells
  have hpt := lg_put hD2 hl2 (.inr rfl) (by omega) (hL1.room.mono (by omega)) 2 q A n c hn.out (hr.out.below hbw2) (fun ad e h0 => .inl (by have := hA.out ad e h0; omega))
  clear hL1 hl1 hb1 hb2 hx0 hb0 hW0
  cases hmq : mayB q with
  | false =>
    rw [hmq] at hmay
    rw [put_bad' (by decide) hmq] at hpt
    go_wp2_with fail
    with_reducible refine hpt.mono ?_
    rintro e w3 ⟨rfl, hD3, hK3⟩
    obtain ⟨c0', c1', c2', clt'⟩ : _ := (show Box3 w3 w.heap.size q A n c from (hK3.block _ (.inl hwx)).trans hx2).cells
    have hb3 := hbw2.trans (hK3.below (base := w.heap.size) fun b hb => .inl (by omega))
    clear hpt c0 c1 c2 hD3 hK3 hD2
    go_wp2_with fail
    refine (hmay.out w3).mono ?_
    rintro e w4 ⟨rfl, hb4⟩
    have hb04 := hb3.trans (hb4.mono hb3.size)
    go_wp2
    go_ret
    exact ⟨by simp, hb04⟩
  | true =>
    obtain ⟨p1, p2, s1, p3, p4, p5⟩ := sure_start q hmq stop
    generalize logPut (freshSh 1 40) ⟨0, 37, -1⟩ 3 2 q = p at *
    go_wp2_with fail
    with_reducible refine hpt.mono ?_
    rintro e w3 ⟨rfl, hD3, hK3⟩
    rw [p1]
    have hx3 : Box3 w3 w.heap.size q A n c := (hK3.block _ (.inl hwx)).trans hx2
    have hl3 := hl2.kept hK3 (.inr rfl)
    have hb3 := hbw2.trans (hK3.below (base := w.heap.size) fun b hb => .inl (by omega))
    have hfl := dx_flush hD3 0
    rw [p3] at hfl
    clear hpt c0 c1 c2 clt hK3 hD2 hx2 hl2 hbw2 hb02 hmay
    go_wp2_with fail
    with_reducible refine hfl.mono ?_
    rintro e w4 ⟨rfl, hD4, hK4⟩
    have hx4 : Box3 w4 w.heap.size q A n c := (hK4.block _ (.inl hwx)).trans hx3
    have hl4 := hl3.kept hK4 (.inr rfl)
    have hb4 := hb3.trans (hK4.below (base := w.heap.size) fun b hb => .inl (by omega))
    have hst := dx_stop hD4 stop
    clear hfl hD3 hK4 hx3 hl3 hb3
    go_wp2_with fail
    with_reducible refine hst.mono ?_
    rintro e w5 ⟨rfl, hD5, hK5⟩
    have hx5 : Box3 w5 w.heap.size q A n c := (hK5.block _ (.inl hwx)).trans hx4
    have hl5 := hl4.kept hK5 (.inr rfl)
    have hb5 := hb4.trans (hK5.below (base := w.heap.size) fun b hb => .inl (by omega))
    clear hst hD4 hK5 hx4 hl4 hb4
    generalize s1.stop stop = s2 at *
    generalize p.2.2 = D2 at *
    replace p4 := Lib.hid p4
    replace p5 := Lib.hid p5
    clear p1 p2 p3
    go_wp2_with fail
    go_loopw [12] (fun z wr => ∃ (i : Nat) (s : ShM) (D : DevM), z = .int .i64 i ∧ i ≤ m ∧ i ≤ 300 ∧ Hid (Left s D (Has2 (hdBytes q) q.part)) ∧ Hid (One s D) ∧ Hid (Box3 wr w.heap.size q A n c) ∧ Hid (LogRow wr l a 3) ∧ DvX (fun b => b < W0.heap.size ∨ b = l) a g wr s D ∧ Below w.heap.size w wr)
      (fun z _ => (m - intOf z).toNat)
    case atStart => exact ⟨0, s2, D2, by go_num, by omega, by omega, p4, p5, Lib.hid hx5, Lib.hid hl5, hD5, hb5⟩
    case round =>
      clear p4 p5 hx5 hl5 hD5 hb5
      obtain ⟨i, s, D, rfl, him, hi3, hL, hO, hx, hl, hD, hB⟩ := hrel
      by_cases hlt : i < m ∧ i < 300
      · obtain ⟨hlt1, hlt2⟩ := hlt
        have hkl : i < ops.length := by rw [hm.out]; exact hlt1
        obtain ⟨b0, o0, rfl, hbl, e0, e1, e2, e3, e4, eR, eA⟩ := (hops.out.below hB).get hkl
        have hblt := World.block_lt_of_cell? wr _ e0
        generalize ops[i] = op at *
        by_cases hs2 : op.slot = 2
        · have hs2b : (op.slot == 2) = true := by simp [hs2]
          clear e2 e3 e4 eR eA
          go_wp2
          go_roundw
          case rel => exact ⟨i + 1, s, D, by go_num, by omega, by omega, hL, hO, hx, hl, hD, hB⟩
          case measure => simp [intOf]; omega
        · have hs2b : (op.slot == 2) = false := by simp [hs2]
          by_cases hk1 : op.kind = 1
          · have hk1b : (op.kind == 1) = true := by simp [hk1]
            have hk2b : (op.kind == 2) = false := by rw [hk1]; rfl
            have hct := lg_put (hD.drew) hl.out (.inr rfl) (by omega) (hO.out.room.mono (by omega)) op.slot op.r op.ra op.r.part.length op.rc rfl eR (fun ad e h0 => .inl (by have := eA ad e h0; omega))
            obtain ⟨hL', hO'⟩ := hL.out.put2 hO.out hs2 op.r
            replace hL' := Lib.hid hL'
            replace hO' := Lib.hid hO'
            have hL1 : Hid (LogRow wr l a 3) := hl
            have hS0 : wr.drew.cell? ⟨b0, o0 + i * 5 + 1, none⟩ = some (.int .i64 op.slot) ∧ wr.drew.cell? ⟨b0, o0 + i * 5 + 2, none⟩ = some (.int .i64 op.r.stripe) ∧ wr.drew.cell? ⟨b0, o0 + i * 5 + 3, none⟩ = some (.int .i64 op.r.place) ∧ wr.drew.cell? ⟨b0, o0 + i * 5 + 4, none⟩ = some (.slice op.ra op.r.part.length op.rc) := ⟨e1, e2, e3, e4⟩
            clear eR eA hD
            generalize op.r.part.length = pn at *
            go_wp2_with fail
            refine wp_region_held_drew (S := (fun W => W.cell? ⟨b0, o0 + i * 5 + 1, none⟩ = some (.int .i64 op.slot) ∧ W.cell? ⟨b0, o0 + i * 5 + 2, none⟩ = some (.int .i64 op.r.stripe) ∧ W.cell? ⟨b0, o0 + i * 5 + 3, none⟩ = some (.int .i64 op.r.place) ∧ W.cell? ⟨b0, o0 + i * 5 + 4, none⟩ = some (.slice op.ra pn op.rc))) (by kernel_rfl) ?_ (fun hHeld => ?_)
            · (try dsimp only)
              exact hS0
            refine wpAnyH_take (i := 0) (oi := ⟨_, _, _, _, _, _⟩) (v := ?v1) rfl (by kernel_rfl) (by kernel_rfl) (by kernel_rfl) (fun _ _ _ h => h) (Or.inl ⟨by rfl, ?hy1⟩) (by assumption) ?rest1
            case hy1 => (intro w hSw; (try dsimp only at hSw); go_simp; try with_reducible rfl)
            (try simp only [Act.put, List.setIfInBounds_toArray, List.set_cons_zero, List.set_cons_succ])
            refine wpAnyH_take (i := 1) (oi := ⟨_, _, _, _, _, _⟩) (v := ?v2) rfl (by kernel_rfl) (by kernel_rfl) (by kernel_rfl) (fun _ _ _ h => h) (Or.inl ⟨by rfl, ?hy2⟩) (by assumption) ?rest2
            case hy2 => (intro w hSw; (try dsimp only at hSw); go_simp; try with_reducible rfl)
            (try simp only [Act.put, List.setIfInBounds_toArray, List.set_cons_zero, List.set_cons_succ])
            refine wpAnyH_take (i := 2) (oi := ⟨_, _, _, _, _, _⟩) (v := ?v3) rfl (by kernel_rfl) (by kernel_rfl) (by kernel_rfl) (fun _ _ _ h => h) (Or.inl ⟨by rfl, ?hy3⟩) (by assumption) ?rest3
            case hy3 => (intro w hSw; (try dsimp only at hSw); go_simp; try with_reducible rfl)
            (try simp only [Act.put, List.setIfInBounds_toArray, List.set_cons_zero, List.set_cons_succ])
            refine wpAnyH_take (i := 3) (oi := ⟨_, _, _, _, _, _⟩) (v := ?v4) rfl (by kernel_rfl) (by kernel_rfl) (by kernel_rfl) (fun _ _ _ h => h) (Or.inl ⟨by rfl, ?hy4⟩) (by assumption) ?rest4
            case hy4 => (intro w hSw; (try dsimp only at hSw); go_simp; try with_reducible rfl)
            (try simp only [Act.put, List.setIfInBounds_toArray, List.set_cons_zero, List.set_cons_succ])
            refine wpAnyH_take (i := 4) (oi := ⟨_, _, _, _, _, _⟩) (v := ?v5) rfl (by kernel_rfl) (by kernel_rfl) (by kernel_rfl) (fun _ _ _ h => h) (Or.inl ⟨by rfl, ?hy5⟩) (by assumption) ?rest5
            case hy5 => (intro w hSw; (try dsimp only at hSw); go_simp; try with_reducible rfl)
            (try simp only [Act.put, List.setIfInBounds_toArray, List.set_cons_zero, List.set_cons_succ])
            refine wpAnyH_take (i := 5) (oi := ⟨_, _, _, _, _, _⟩) (v := ?v6) rfl (by kernel_rfl) (by kernel_rfl) (by kernel_rfl) (fun _ _ _ h => h) (Or.inl ⟨by rfl, ?hy6⟩) (by assumption) ?rest6
            case hy6 => (intro w hSw; (try dsimp only at hSw); go_simp; try with_reducible rfl)
            (try simp only [Act.put, List.setIfInBounds_toArray, List.set_cons_zero, List.set_cons_succ])
            refine wpAnyH_take (i := 6) (oi := ⟨_, _, _, _, _, _⟩) (v := ?v7) rfl (by kernel_rfl) (by kernel_rfl) (by kernel_rfl) (fun _ _ _ h => h) (Or.inl ⟨by rfl, ?hy7⟩) (by assumption) ?rest7
            case hy7 => (intro w hSw; (try dsimp only at hSw); go_simp; try with_reducible rfl)
            (try simp only [Act.put, List.setIfInBounds_toArray, List.set_cons_zero, List.set_cons_succ])
            refine wpAnyH_take (i := 7) (oi := ⟨_, _, _, _, _, _⟩) (v := ?v8) rfl (by kernel_rfl) (by kernel_rfl) (by kernel_rfl) (fun _ _ _ h => h) (Or.inl ⟨by rfl, ?hy8⟩) (by assumption) ?rest8
            case hy8 => (intro w hSw; (try dsimp only at hSw); go_simp; try with_reducible rfl)
            (try simp only [Act.put, List.setIfInBounds_toArray, List.set_cons_zero, List.set_cons_succ])
            refine wpAnyH_take (i := 8) (oi := ⟨_, _, _, _, _, _⟩) (v := ?v9) rfl (by kernel_rfl) (by kernel_rfl) (by kernel_rfl) (fun _ _ _ h => h) (Or.inl ⟨by rfl, ?hy9⟩) (by assumption) ?rest9
            case hy9 => (intro w hSw; (try dsimp only at hSw); go_simp; try with_reducible rfl)
            (try simp only [Act.put, List.setIfInBounds_toArray, List.set_cons_zero, List.set_cons_succ])
            refine wpAnyH_take (i := 9) (oi := ⟨_, _, _, _, _, _⟩) (v := ?v10) rfl (by kernel_rfl) (by kernel_rfl) (by kernel_rfl) (fun _ _ _ h => h) (Or.inl ⟨by rfl, ?hy10⟩) (by assumption) ?rest10
            case hy10 => (intro w hSw; (try dsimp only at hSw); go_simp; try with_reducible rfl)
            (try simp only [Act.put, List.setIfInBounds_toArray, List.set_cons_zero, List.set_cons_succ])
            refine wpAnyH_take (i := 10) (oi := ⟨_, _, _, _, _, _⟩) (v := ?v11) rfl (by kernel_rfl) (by kernel_rfl) (by kernel_rfl) (fun _ _ _ h => h) (Or.inl ⟨by rfl, ?hy11⟩) (by assumption) ?rest11
            case hy11 => (intro w hSw; (try dsimp only at hSw); go_simp; try with_reducible rfl)
            (try simp only [Act.put, List.setIfInBounds_toArray, List.set_cons_zero, List.set_cons_succ])
            refine wpAnyH_ready (rs := [11]) (by kernel_rfl) (by simp) ?_
            refine AllReadyH.cons (o := ⟨_, _, _, _, _, _⟩) rfl (fun K hK => ?_) AllReadyH.nil
            go_simp
            with_reducible refine hct.mono ?_
            rintro e w6 ⟨rfl, hD6, hK6⟩
            have hsb := hK6.block b0 (.inl (by omega))
            have hS6 : w6.cell? ⟨b0, o0 + i * 5 + 1, none⟩ = some (.int .i64 op.slot) ∧ w6.cell? ⟨b0, o0 + i * 5 + 2, none⟩ = some (.int .i64 op.r.stripe) ∧ w6.cell? ⟨b0, o0 + i * 5 + 3, none⟩ = some (.int .i64 op.r.place) ∧ w6.cell? ⟨b0, o0 + i * 5 + 4, none⟩ = some (.slice op.ra pn op.rc) := ⟨(World.cell?_of_block hsb).trans e1, (World.cell?_of_block hsb).trans e2, (World.cell?_of_block hsb).trans e3, (World.cell?_of_block hsb).trans e4⟩
            (try go_wp2_with fail)
            refine hK.out _ _ ?_ (fun hHeld2 => ?_)
            · (try dsimp only)
              first | exact hHeld | exact hS6
            clear hK K
            replace hHeld := hHeld2
            clear hHeld2
            (try simp only [Act.put, List.setIfInBounds_toArray, List.set_cons_zero, List.set_cons_succ])
            refine wpAnyH_done (by kernel_rfl) ?_ _
            have e06 : w6.cell? ⟨b0, o0 + i * 5, none⟩ = some (.int .i64 op.kind) := (World.cell?_of_block hsb).trans e0
            rw [hk1] at e06
            have hblt6 := World.block_lt_of_cell? w6 _ e06
            have hx6 : Hid (Box3 w6 w.heap.size q A n c) := Lib.hid ((hK6.block _ (.inl hwx)).trans hx.out)
            have hl6 : Hid (LogRow w6 l a 3) := Lib.hid ((hK6.block l (.inr rfl)).trans hl.out)
            have hB6 : Below w.heap.size w w6 := hB.trans ((Kept.drew (fun b => b < W0.heap.size ∨ b = l) wr).trans hK6 |>.below (base := w.heap.size) fun b hb => .inl (by omega))
            clear hS0 hS6 hHeld hct e0 e1 e2 e3 e4 hK6 hx hl hL hO hL1 hB hblt hsb
            generalize (logPut s D 3 op.slot op.r).2.1 = s6 at *
            generalize (logPut s D 3 op.slot op.r).2.2 = D6 at *
            go_wp2
            go_roundw
            case rel => exact ⟨i + 1, s6, D6, by go_num, by omega, by omega, hL', hO', hx6, hl6, hD6, hB6⟩
            case measure => simp [intOf]; omega
          · have hk1b : (op.kind == 1) = false := by simp [hk1]
            by_cases hk2 : op.kind = 2
            · have hk2b : (op.kind == 2) = true := by simp [hk2]
              have hct := lg_clear hD hl.out (.inr rfl) (by omega) (hO.out.room.mono (by omega)) op.slot
              obtain ⟨hL', hO'⟩ := hL.out.clear2 hO.out hs2
              replace hL' := Lib.hid hL'
              replace hO' := Lib.hid hO'
              clear e2 e3 e4 eR eA hD
              go_wp2_with fail
              with_reducible refine hct.mono ?_
              rintro e w6 ⟨rfl, hD6, hK6⟩
              have hx6 : Hid (Box3 w6 w.heap.size q A n c) := Lib.hid ((hK6.block _ (.inl hwx)).trans hx.out)
              have hl6 : Hid (LogRow w6 l a 3) := Lib.hid ((hK6.block l (.inr rfl)).trans hl.out)
              have hB6 : Below w.heap.size w w6 := hB.trans (hK6.below (base := w.heap.size) fun b hb => .inl (by omega))
              clear hct e0 e1 hK6 hx hl hL hO hB hblt
              generalize (logClear s D 3 op.slot).2.1 = s6 at *
              generalize (logClear s D 3 op.slot).2.2 = D6 at *
              go_wp2
              go_roundw
              case rel => exact ⟨i + 1, s6, D6, by go_num, by omega, by omega, hL', hO', hx6, hl6, hD6, hB6⟩
              case measure => simp [intOf]; omega
            · have hk2b : (op.kind == 2) = false := by simp [hk2]
              clear e2 e3 e4 eR eA
              go_wp2
              go_roundw
              case rel => exact ⟨i + 1, s, D, by go_num, by omega, by omega, hL, hO, hx, hl, hD, hB⟩
              case measure => simp [intOf]; omega
      · have hxx : (m : Int) ≤ (i : Int) ∨ ((i : Int) < (m : Int) ∧ 300 ≤ (i : Int)) := by omega
        have hct := dx_crash hD KA kn kc keep (hK.out.below hB (Nat.le_refl _)) (fun b hb => .inl (by omega)) hkn.out
        have hrc : Room 100 (s.crash keep) := room_crash s keep 100
        obtain ⟨f1, f2, sf, f3⟩ := sure_end hmq hL.out hO.out keep
        generalize s.crash keep = sc at *
        have hDs : (freshDev sc 0).size = 37 := by
          show (blocksI (sc.sectors : Int)).toNat = 37
          rw [f2]
          decide
        replace f1 := Lib.hid f1
        replace f3 := Lib.hid f3
        replace hrc := Lib.hid hrc
        clear hL hO hlt hK hkn hops hm f2
        rcases hxx with hxx | ⟨hxx, hxx2⟩
        all_goals
          go_wp2_with fail
          with_reducible refine hct.mono ?_
          rintro e w6 ⟨rfl, hD6, hK6⟩
          have hx6 : Box3 w6 w.heap.size q A n c := (hK6.block _ (.inl hwx)).trans hx.out
          have hB6 : Below w.heap.size w w6 := hB.trans (hK6.below (base := w.heap.size) fun b hb => .inl (by omega))
          have hop := ls_open hD6.shelf 0 f1.out hrc.out
          rw [show ((0 : Nat) : Int) = 0 from rfl] at hop
          clear hct hK6 hx hl hD hB
          go_wp2_with fail
          with_reducible refine hop.mono ?_
          rintro e w7 ⟨a7, rfl, _, h7, hb7⟩
          have hx7 : Box3 w7 w.heap.size q A n c := hx6.below hb7 (lt_of_row hx6)
          have hB7 := below_to hB6 hb7
          have hopn := lg_open h7.dv 3 (by omega) (by omega) (by rw [hDs]; omega)
          rw [show ((3 : Nat) : Int) = 3 from rfl] at hopn
          clear hop hD6 hx6 hB6 hb7
          go_wp2_with fail
          with_reducible refine hopn.mono ?_
          rintro e w8 ⟨l8, rfl, hll8, hl8, hb8⟩
          have hx8 : Box3 w8 w.heap.size q A n c := hx7.below hb8 (lt_of_row hx7)
          have hB8 := below_to hB7 hb8
          have h8 := h7.dv.more hb8 (Y := fun b => (b < W0.heap.size ∨ b = l) ∨ b = l8) fun b hb => by
            rcases hb with hb | rfl
            · exact ⟨Nat.lt_of_lt_of_le (h7.dv.lt b hb) hb8.size, .inl hb⟩
            · exact ⟨hl8.lt, .inr hll8⟩
          have hgt := lg_get h8 hl8 (.inr rfl) (by omega) (hrc.out.mono (by omega)) 2
          rw [f3.out] at hgt
          clear hopn h7 hx7 hB7 hb8 hl8
          go_wp2_with fail
          with_reducible refine hgt.mono ?_
          rintro e w9 ⟨A9, c9, rfl, ho9, hD9, hK9⟩
          dsimp only at ho9 ⊢
          obtain ⟨x0, x1, x2, xlt⟩ := (show Box3 w9 w.heap.size q A n c from (hK9.block _ (.inl (.inl hwx))).trans hx8).cells
          have hB9 : Below w.heap.size w w9 := hB8.trans (hK9.below (base := w.heap.size) fun b hb => .inl (.inl (by omega)))
          obtain ⟨W10, hW10⟩ : ∃ W10, W10 = w9.alloc (.cells #[.int .i64 q.stripe, .int .i64 q.place, .slice A9 q.part.length c9] 24) := ⟨_, rfl⟩
          have hb10 : Below w9.heap.size w9 W10 := by rw [hW10]; exact below_made' _ _
          have hB10 := hB9.trans (hb10.mono hB9.size)
          have hsm := rpp_same q q A9 A q.part.length c9 n c W10 rfl (ho9.below hb10).rd hn.out (hr.out.below hB10)
          rw [sameB_self] at hsm
          clear hgt h8 hD9 hK9 ho9 hx8 hB8 hb10
          go_wp2_with fail
          rw [← hW10]
          refine hsm.mono ?_
          rintro e w11 ⟨rfl, hb11⟩
          have hfin := hB10.trans (hb11.mono hB10.size)
          go_wp2
          go_ret
          exact ⟨by simp, hfin⟩
end Go.Proofs.Ytibpmiapcihkfaa

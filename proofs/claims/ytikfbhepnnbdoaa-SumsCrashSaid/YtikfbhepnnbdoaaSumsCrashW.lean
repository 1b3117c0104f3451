/-
  THE WALK of SumsCrash.
-/
import Derived.Test.YtikfbhepnnbdoaaSuK
import Derived.Test.YtikfbhepnnbdoaaSuCr
import Derived.Test.YtikfbhepnnbdoaaSuOp
import Derived.Test.YtikfbhepnnbdoaaHeldTail
namespace Go.Proofs.Ytikfbhepnnbdoaa
set_option linter.all false
open Go.RowKit

theorem VlAt.lit {W : World} {E base : Nat} (v : Value) (hb : base ≤ W.heap.size) : VlAt (W.alloc (.cells #[v] E)) E base W.heap.size 0 1 [v] := by
  refine ⟨hb, by simp, by simp [maxLen], #[v], heap_alloc_new W _, rfl, fun i hi => ?_⟩
  simp only [List.length_singleton] at hi
  obtain rfl : i = 0 := by omega
  rfl
theorem Rd.blk {w w' : World} {A : Option Addr} {bs : List UInt8} (h : Rd w A bs) (hb : ∀ ad, A = some ad → w'.heap[ad.block]? = w.heap[ad.block]?) : Rd w' A bs :=
  ⟨h.1, h.2.1, fun ad e i hi => (World.cell?_of_block (by rw [add_block]; exact hb ad e)).trans (h.2.2 ad e i hi)⟩
theorem Rd.blt {w : World} {A : Option Addr} {bs : List UInt8} (h : Rd w A bs) (hl : 0 < bs.length) (ad : Addr) (e : A = some ad) : ad.block < w.heap.size := by
  have := World.block_lt_of_cell? w _ (h.2.2 ad e 0 hl)
  rwa [add_block] at this
theorem Try.infoStrs : (Try.prog.info? 54).map (fun i => (i.zero, i.size, i.bytes)) = some (some (.slice none 0 0), 1, 24) := by kernel_rfl
theorem made_may : ∃ cur : Array Value, cur.size = 37 ∧ ∀ W : World, (Instr.makeSlice 53 (.int .i64 37) (.int .i64 37)).run Try.prog W = .ok (.slice (some ⟨W.heap.size, 0, none⟩) 37 37) (W.alloc (.cells cur 54)) := by
  obtain ⟨i0, hi0, hz0, hz1, hz2⟩ := info_parts Try.infoStrs
  refine ⟨madeCells (Value.slice none 0 0).cells (37 * 1), by simp [madeCells], fun W => ?_⟩
  have h := run_make (P := Try.prog) (w := W) 53 54 i0 (.slice none 0 0) Try.underlying53 hi0 hz0 .i64 .i64 37 37 (by omega) (Int.le_refl _) (by rw [hz2]; omega) (by omega)
  simp only [hz1] at h
  exact h
set_option maxRecDepth 100000 in
set_option maxHeartbeats 16000000 in
theorem sumsCrash_walk (A : Option Addr) (m c : Nat) (ops : List OpS) (stop : Int) (KA : Option Addr) (kn kc : Nat) (keep : List (List Int)) (w : World)
    (hops : OpsS w w.heap.size A ops) (hm : ops.length = m) (_ : -9223372036854775808 ≤ stop) (_ : stop ≤ 9223372036854775807) (hK : KeepL w w.heap.size KA keep) (hkn : keep.length = kn) :
    Calls Try.prog 9 #[.slice A m c, .int .i64 stop, .slice KA kn kc] w fun e w' => e = .returned (.bool true) ∧ Below w.heap.size w w' := by
  have hnew := lx_new (X := fun b => b < w.heap.size) (w := w) (fun _ h => h) 1 40 (by omega) (by omega) (by omega) (by omega)
  rw [show ((1 : Nat) : Int) = 1 from rfl, show ((40 : Nat) : Int) = 40 from rfl] at hnew
  have hrf := run_fresh 1 40 0 (by omega) (by omega) (by omega) (by omega) (by omega)
  have hrm : Room 100 (freshSh 1 40) := (room_fresh 1 40).mono (by omega)
  have hcr := Lib.hid (crash_start stop)
  have hfd : freshDev (freshSh 1 40) 0 = ⟨0, 37, -1⟩ := rfl
  rw [hfd] at hcr
  generalize freshSh 1 40 = s0 at *
  replace hops := Lib.hid hops
  replace hm := Lib.hid hm
  replace hK := Lib.hid hK
  replace hkn := Lib.hid hkn
  obtain ⟨cur0, hcz, hmk⟩ := made_may
  replace hcz := Lib.hid hcz
  go_enter Try.func9, Try.ntmps9
  go_wp2_with fail
  refine hnew.mono ?_
  rintro e w1 ⟨g, rfl, hS1, hB1⟩
  clear hnew
  have hct := ls_open hS1 0 hrf hrm
  rw [show ((0 : Nat) : Int) = 0 from rfl, hfd] at hct
  clear hrf hrm hfd
  go_wp2_with fail
  with_reducible refine hct.mono ?_
  rintro e w2 ⟨a, rfl, _, h2, hb2⟩
  have hB2 := below_to hB1 hb2
  clear hct hS1 hB1 hb2
  go_wp2_with fail
  refine (lives06 w2).mono ?_
  rintro e w3 ⟨rfl, hb3⟩
  have h3 := h2.below hb3
  have hB3 := below_to hB2 hb3
  have hct := dx_stop h3.dv stop
  clear h2 hB2 hb3
  go_wp2_with fail
  with_reducible refine hct.mono ?_
  rintro e w4 ⟨rfl, h4, hK4⟩
  have hB4 := hB3.trans (hK4.below fun b hb => hb)
  have hdb := su_dblocks h4
  rw [show (((⟨0, 37, -1⟩ : DevM).size : Nat) : Int) = 37 from rfl] at hdb
  clear hct h3 hB3 hK4
  generalize s0.stop stop = s1 at *
  go_wp2_with fail
  with_reducible refine hdb.mono ?_
  rintro e w' ⟨rfl, rfl⟩
  clear hdb
  go_wp2_with fail
  have h5 := h4.more (w' := w4.alloc (.cells cur0 54)) ((Below.refl _ _).alloc (Nat.le_refl _) _) (Y := fun b => b < w.heap.size ∨ b = w4.heap.size) (fun b hb => by
    have h1 := h4.lt
    have h2 := hB4.size
    rw [World.size_alloc]
    rcases hb with hb | rfl
    · exact ⟨by omega, .inl hb⟩
    · exact ⟨by omega, .inr (Nat.le_refl _)⟩)
  have hB5 := hB4.alloc hB4.size (.cells cur0 54)
  have hM5 : MayAt (w4.alloc (.cells cur0 54)) w.heap.size w4.heap.size (fun _ => (0, 0, 0)) 37 0 (fun _ => [zeroSec]) := ⟨⟨cur0, heap_alloc_new _ _, hcz.out, fun k hk => absurd hk (by omega)⟩, fun k hk => absurd hk (by omega), fun j k hj => absurd hj (by omega), hB4.size⟩
  generalize w4.alloc (.cells cur0 54) = w5 at *
  generalize w4.heap.size = mb at *
  clear h4 hB4 hmk
  have hmb := run_make_rd (P := Try.prog) 28 5 Try.underlying28 Try.infoByte .i64 .i64 128 (by omega)
  rw [show ((128 : Nat) : Int) = 128 from rfl] at hmb
  obtain ⟨zs, hzs⟩ : ∃ zs : List UInt8, zs = zeroSec := ⟨_, rfl⟩
  have hzl : zs.length = 128 := by rw [hzs]; simp [zeroSec]
  rw [show List.replicate 128 (0 : UInt8) = zs from hzs.symm] at hmb
  rw [← hzs] at hM5 hcr
  have hms : ∀ W : World, (convert 28 9 (.slice (some ⟨W.heap.size, 0, none⟩) 128 128)).run Try.prog (W.alloc (.cells (bVs zs).toArray 5)) = .ok (.string ⟨zs.toArray⟩) (W.alloc (.cells (bVs zs).toArray 5)) := fun W =>
    run_string_rd (P := Try.prog) _ 28 9 5 Try.underlying28 Try.underlying5 Try.underlying9 _ 128 128 zs (Rd.lit W 5 zs (by rw [hzl]; omega)) hzl
  replace hzs := Lib.hid hzs
  replace hzl := Lib.hid hzl
  replace hcr := Lib.hid hcr.out
  go_loopw [12] (fun p wr => ∃ (k : Nat) (G : Nat → Nat × Nat × Nat), p = .int .i64 k ∧ k ≤ 37 ∧ MayAt wr w.heap.size mb G 37 k (fun _ => [zs]) ∧ DvX (fun b => b < w.heap.size ∨ MayB mb G k b) a g wr s1 ⟨0, 37, -1⟩ ∧ Below w.heap.size w wr)
    (fun p _ => (37 - intOf p).toNat)
  case atStart => exact ⟨0, _, by go_num, by omega, hM5, h5.mono fun b hb => hb.imp id fun h => h.elim id fun ⟨k, hk, _⟩ => absurd hk (by omega), hB5⟩
  case round =>
    obtain ⟨k, G, rfl, hk37, hM, hD, hB⟩ := hrel
    by_cases hlt : k < 37
    · have hal : Below wr.heap.size wr ((wr.alloc (.cells (bVs zs).toArray 5)).alloc (.cells #[.string ⟨zs.toArray⟩] 9)) := ((Below.refl _ _).alloc (Nat.le_refl _) _).alloc (by simp) _
      obtain ⟨r1, r2⟩ := (hM.below hal).room hlt
      obtain ⟨v0, r1⟩ := Option.isSome_iff_exists.1 r1
      have hms1 := hms wr
      have hM' := hM.set (w' := (wr.alloc (.cells (bVs zs).toArray 5)).alloc (.cells #[.string ⟨zs.toArray⟩] 9)) (n' := k + 1) hlt (fun j hj => by omega) (by simp; omega) (fun b hb _ => hal.block b hb) (l := [zs]) (m := 1) rfl (VlAt.lit (W := wr.alloc (.cells (bVs zs).toArray 5)) (.string ⟨zs.toArray⟩) (by have := hB.size; simp; omega)) (.inr (by simp))
      have hLL : updM (fun _ => [zs]) k [zs] = (fun _ => [zs] : Nat → List Bytes) := by funext j; unfold updM; split <;> rfl
      rw [hLL] at hM'
      have hD' := hD.turn (w' := ((wr.alloc (.cells (bVs zs).toArray 5)).alloc (.cells #[.string ⟨zs.toArray⟩] 9)).setCell ⟨mb, k, none⟩ (.slice (some ⟨wr.heap.size + 1, 0, none⟩) 1 1)) (by simp [World.setCell]; omega) (fun b hb hx => (heap_setCell_other _ ⟨mb, k, none⟩ b _ (fun e => hx (.inr (.inl e)))).trans (hal.block b hb))
        (Y := fun b => b < w.heap.size ∨ MayB mb (updM G k (wr.heap.size + 1, 0, 1)) (k + 1) b) (fun b hb => by
          have hs : (((wr.alloc (.cells (bVs zs).toArray 5)).alloc (.cells #[.string ⟨zs.toArray⟩] 9)).setCell ⟨mb, k, none⟩ (.slice (some ⟨wr.heap.size + 1, 0, none⟩) 1 1)).heap.size = wr.heap.size + 2 := by simp [World.setCell]
          rw [hs]
          have hw := hB.size
          rcases hb with hb | rfl | ⟨j, hj, rfl⟩
          · exact ⟨by omega, .inl (.inl hb)⟩
          · exact ⟨by have := hM.mblt; omega, .inl (.inr (.inl rfl))⟩
          · by_cases e : j = k
            · subst e
              rw [updM_same]
              exact ⟨by show wr.heap.size + 1 < _; omega, .inr (by show _ ≤ wr.heap.size + 1; omega)⟩
            · rw [updM_ne _ _ e]
              exact ⟨by have := (hM.el j (by omega)).1.lt; omega, .inl (.inr (.inr ⟨j, by omega, rfl⟩))⟩)
      have hB' := (((hB.alloc hB.size (.cells (bVs zs).toArray 5)).alloc (by have := hB.size; simp; omega) (.cells #[.string ⟨zs.toArray⟩] 9)).setCell (p := ⟨mb, k, none⟩) hM.low (.slice (some ⟨wr.heap.size + 1, 0, none⟩) 1 1))
      clear hal hLL
      simp only [World.size_alloc] at hM'
      go_wp2
      go_roundw
      case rel => exact ⟨k + 1, _, by go_num, by omega, hM', hD', hB'⟩
      case measure => simp [intOf]; omega
    · obtain rfl : k = 37 := by omega
      clear hmb hms hM5 h5 hB5
      go_wp2_with fail
      rename_i wr _
      have hBs0 := hB.size
      go_loopw [13] (fun p wr => ∃ (i : Nat) (s : ShM) (D : DevM) (G : Nat → Nat × Nat × Nat) (L : Nat → List Bytes), p = .int .i64 i ∧ i ≤ m ∧ i ≤ 500 ∧ Hid (CrI s D L) ∧ Hid (∀ k, (L k).length ≤ i + 1) ∧ MayAt wr w.heap.size mb G 37 37 L ∧ DvX (fun b => b < w.heap.size ∨ MayB mb G 37 b) a g wr s D ∧ Below w.heap.size w wr)
        (fun p _ => (m - intOf p).toNat)
      case atStart => exact ⟨0, s1, _, G, _, by go_num, by omega, by omega, hcr, Lib.hid (fun k => by simp), hM, hD, hB⟩
      case round =>
        clear hM hD hB hcr
        obtain ⟨i, s, D, G, L, rfl, him, hi5, hI, hLl, hM, hD, hB⟩ := hrel
        have hBs := hB.size
        by_cases hlt : i < m ∧ i < 500
        · obtain ⟨hlt1, hlt2⟩ := hlt
          have hkl : i < ops.length := by rw [hm.out]; exact hlt1
          have hget := hops.out.below hB (Nat.le_refl _)
          obtain ⟨b0, o0, rfl, hbl, c0, c1, c2, c3, c4, cK⟩ := hget.get hkl
          have hblt := World.block_lt_of_cell? wr _ c0
          generalize ops[i] = op at *
          clear hget c2 c4 cK
          generalize op.kind = kind at *
          generalize op.with_ = bx at *
          generalize op.n = nn at *
          clear op
          by_cases hk2 : kind = 2
          · subst hk2
            by_cases hn : 0 ≤ nn ∧ nn < 37
            · obtain ⟨hn0, hn37⟩ := hn
              obtain ⟨nk, rfl⟩ := Int.eq_ofNat_of_zero_le hn0
              have hnk : nk < 37 := by omega
              go_wp2_with fail
              refine (sector_any bx wr).mono ?_
              rintro e w5 ⟨A5, c5, rfl, ho5, hb5⟩
              have hown : ∀ ad, A5 = some ad → wr.heap.size ≤ ad.block ∧ ad.block < w5.heap.size := by
                intro ad e
                obtain ⟨A', c', hv, _, h2⟩ := ho5.form
                injection hv with e1
                subst e1
                obtain ⟨x, rfl, h4, h5⟩ := h2 ad e
                exact ⟨h4, h5⟩
              have hD5 := hD.more hb5 (Y := fun b => (b < w.heap.size ∨ MayB mb G 37 b) ∨ ∃ ad, A5 = some ad ∧ ad.block = b) fun b hx => by
                rcases hx with hx | ⟨ad, e, rfl⟩
                · exact ⟨Nat.lt_of_lt_of_le (hD.lt b hx) hb5.size, .inl hx⟩
                · exact ⟨(hown ad e).2, .inr (hown ad e).1⟩
              have hct := su_write hD5 (hI.out.room.mono (by omega)) nk (by omega) (by omega) A5 128 c5 (secOf bx) ho5.rd (secOf_len bx) (fun ad e => .inr ⟨ad, e, rfl⟩)
              go_wp2_with fail
              with_reducible refine hct.mono ?_
              rintro e w6 ⟨rfl, hD6, hK6⟩
              have hM6 := (hM.below hb5).kept (w' := w6) fun b hb => hK6.block b (.inl (.inr hb))
              have hB6 := (below_to hB hb5).trans (hK6.below fun b hb => .inl (.inl hb))
              have hBs6 := hB6.size
              have hrd6 := hK6.rd ho5.rd (fun ad e => .inr ⟨ad, e, rfl⟩)
              have hI6 := Lib.hid (hI.out.write hnk (secOf_len bx))
              replace hD6 := hD6.mono (Y := fun b => b < w.heap.size ∨ MayB mb G 37 b) fun b hb => .inl hb
              have hoG : ∀ ad, A5 = some ad → ad.block ≠ (G nk).1 := fun ad e h => by
                have h1 := (hown ad e).1
                have h2 := (hM.el nk hnk).1.lt
                omega
              have hlen : (L nk).length ≤ 501 := by have := hLl.out nk; omega
              have hfull := hI.out.full
              generalize (devWrite s D nk (secOf bx)).2.1 = s6 at *
              generalize (devWrite s D nk (secOf bx)).2.2 = D6 at *
              generalize (devWrite s D nk (secOf bx)).1 = r6 at *
              clear hct hD5 ho5 hb5 hK6 hM hD hB hown
              have hsl := Lib.hid (secOf_len bx)
              generalize secOf bx = sb at *
              have hcv : Hid (∀ W, (∀ ad, A5 = some ad → W.heap[ad.block]? = w6.heap[ad.block]?) → (convert 28 9 (.slice A5 128 c5)).run Try.prog W = .ok (.string ⟨sb.toArray⟩) W) := Lib.hid fun W hW =>
                run_string_rd (P := Try.prog) W 28 9 5 Try.underlying28 Try.underlying5 Try.underlying9 _ 128 c5 sb (hrd6.blk hW) hsl.out
              have hA5 : Hid (∀ ad, A5 = some ad → ad.block < w6.heap.size) := Lib.hid fun ad e => hrd6.blt (by rw [hsl.out]; omega) ad e
              obtain ⟨hd, hhd⟩ : ∃ v, v = Value.slice (some ⟨(G nk).1, (G nk).2.1, none⟩) (L nk).length (G nk).2.2 := ⟨_, rfl⟩
              have hh6 := hM6.head hnk
              have hv6 := (hM6.el nk hnk).1
              have hgm := (hM6.el nk hnk).2
              have hg6 := hv6.lt
              have hmb6 := hM6.mblt
              have hbsz := hM6.low
              replace hrd6 := Lib.hid hrd6
              replace hfull := Lib.hid hfull
              have hS0 : w6.drew.cell? ⟨mb, nk, none⟩ = some (.slice (some ⟨(G nk).1, (G nk).2.1, none⟩) (L nk).length (G nk).2.2) ∧ (convert 28 9 (.slice A5 128 c5)).run Try.prog w6.drew = .ok (.string ⟨sb.toArray⟩) w6.drew := ⟨hh6, hcv.out _ fun _ _ => rfl⟩
              have hS8 : (w6.drew.alloc (.cells #[.string ⟨sb.toArray⟩] 9)).cell? ⟨mb, nk, none⟩ = some (.slice (some ⟨(G nk).1, (G nk).2.1, none⟩) (L nk).length (G nk).2.2) ∧ (convert 28 9 (.slice A5 128 c5)).run Try.prog (w6.drew.alloc (.cells #[.string ⟨sb.toArray⟩] 9)) = .ok (.string ⟨sb.toArray⟩) (w6.drew.alloc (.cells #[.string ⟨sb.toArray⟩] 9)) :=
                ⟨(World.cell?_alloc_lt _ _ _ hmb6).trans hh6, hcv.out _ fun ad e => heap_alloc_old w6.drew _ (hA5.out ad e)⟩
              have hv8 : VlAt (w6.drew.alloc (.cells #[.string ⟨sb.toArray⟩] 9)) 9 w.heap.size (G nk).1 (G nk).2.1 (G nk).2.2 ((L nk).map strV) := hv6.kept (heap_alloc_old w6.drew _ hg6)
              have hx8 : (w6.drew.alloc (.cells #[.string ⟨sb.toArray⟩] 9)).cell? ⟨w6.heap.size, 0, none⟩ = some (.string ⟨sb.toArray⟩) := (cell_of_row _ _ 0 _ _ _ (heap_alloc_new w6.drew _)).trans rfl
              have hn0 : (0 : Int) ≤ (nk : Int) := by omega
              have h9s : (w6.drew.alloc (.cells #[.string ⟨sb.toArray⟩] 9)).heap.size = w6.heap.size + 1 := World.size_alloc _ _
              go_wp2_with fail
              refine wp_region_held_tail (S := (fun W => W.cell? ⟨mb, nk, none⟩ = some (.slice (some ⟨(G nk).1, (G nk).2.1, none⟩) (L nk).length (G nk).2.2) ∧ (convert 28 9 (.slice A5 128 c5)).run Try.prog W = .ok (.string ⟨sb.toArray⟩) W)) 10 (by kernel_rfl) (by decide) ?_ (fun hHeld => ?_)
              · (try dsimp only)
                exact hS0
              refine wt_take (i := 0) (oi := ⟨_, _, _, _, _, _⟩) (v := ?v1) rfl (by kernel_rfl) (by kernel_rfl) (fun _ _ _ h => h) (Or.inl ⟨by rfl, ?hy1⟩) (by assumption) ?rest1
              case hy1 => (intro w hSw; (try dsimp only at hSw); go_simp; try with_reducible rfl)
              (try simp only [Act.put, List.setIfInBounds_toArray, List.set_cons_zero, List.set_cons_succ])
              refine wt_take (i := 1) (oi := ⟨_, _, _, _, _, _⟩) (v := ?v2) rfl (by kernel_rfl) (by kernel_rfl) (fun _ _ _ h => h) (Or.inl ⟨by rfl, ?hy2⟩) (by assumption) ?rest2
              case hy2 => (intro w hSw; (try dsimp only at hSw); go_simp; try with_reducible rfl)
              (try simp only [Act.put, List.setIfInBounds_toArray, List.set_cons_zero, List.set_cons_succ])
              refine wt_take (i := 2) (oi := ⟨_, _, _, _, _, _⟩) (v := ?v3) rfl (by kernel_rfl) (by kernel_rfl) (fun _ _ _ h => h) (Or.inl ⟨by rfl, ?hy3⟩) (by assumption) ?rest3
              case hy3 => (intro w hSw; (try dsimp only at hSw); go_simp; try with_reducible rfl)
              (try simp only [Act.put, List.setIfInBounds_toArray, List.set_cons_zero, List.set_cons_succ])
              refine wt_take (i := 3) (oi := ⟨_, _, _, _, _, _⟩) (v := ?v4) rfl (by kernel_rfl) (by kernel_rfl) (fun _ _ _ h => h) (Or.inl ⟨by rfl, ?hy4⟩) (by assumption) ?rest4
              case hy4 => (intro w hSw; (try dsimp only at hSw); go_simp; try with_reducible rfl)
              (try simp only [Act.put, List.setIfInBounds_toArray, List.set_cons_zero, List.set_cons_succ])
              refine wt_take (i := 4) (oi := ⟨_, _, _, _, _, _⟩) (v := ?v5) rfl (by kernel_rfl) (by kernel_rfl) (fun _ _ _ h => h) (Or.inl ⟨by rfl, ?hy5⟩) (by assumption) ?rest5
              case hy5 => (intro w hSw; (try dsimp only at hSw); go_simp; try with_reducible rfl)
              (try simp only [Act.put, List.setIfInBounds_toArray, List.set_cons_zero, List.set_cons_succ])
              refine wt_take (i := 5) (oi := ⟨_, _, _, _, _, _⟩) (v := ?v6) rfl (by kernel_rfl) (by kernel_rfl) (fun _ _ _ h => h) (Or.inl ⟨by rfl, ?hy6⟩) (by assumption) ?rest6
              case hy6 => (intro w hSw; (try dsimp only at hSw); go_simp; try with_reducible rfl)
              (try simp only [Act.put, List.setIfInBounds_toArray, List.set_cons_zero, List.set_cons_succ])
              refine wt_take (i := 6) (oi := ⟨_, _, _, _, _, _⟩) (v := ?v7) rfl (by kernel_rfl) (by kernel_rfl) (fun _ _ _ h => h) (Or.inl ⟨by rfl, ?hy7⟩) (by assumption) ?rest7
              case hy7 => (intro w hSw; (try dsimp only at hSw); go_simp; try with_reducible rfl)
              (try simp only [Act.put, List.setIfInBounds_toArray, List.set_cons_zero, List.set_cons_succ])
              refine wt_take (i := 7) (oi := ⟨_, _, _, _, _, _⟩) (v := ?v8) rfl (by kernel_rfl) (by kernel_rfl) (fun _ _ _ h => h) (Or.inl ⟨by rfl, ?hy8⟩) (by assumption) ?rest8
              case hy8 => (intro w hSw; (try dsimp only at hSw); go_simp; try with_reducible rfl)
              (try simp only [Act.put, List.setIfInBounds_toArray, List.set_cons_zero, List.set_cons_succ])
              refine wt_ready (rs := [8]) (by kernel_rfl) (by simp) (by decide) ?_
              refine AllReadyT.cons (o := ⟨_, _, _, _, _, _⟩) rfl (fun K hK => ?_) AllReadyT.nil
              go_simp
              refine hK.out _ _ ?_ (fun hHeld2 => ?_)
              · (try dsimp only)
                (first | exact hS8 | exact hS9)
              clear hK K
              replace hHeld := hHeld2
              clear hHeld2
              (try simp only [Act.put, List.setIfInBounds_toArray, List.set_cons_zero, List.set_cons_succ])
              refine wt_ready (rs := [9]) (by kernel_rfl) (by simp) (by decide) ?_
              refine AllReadyT.cons (o := ⟨_, _, _, _, _, _⟩) rfl (fun K hK => ?_) AllReadyT.nil
              refine step_append_vl (by rfl) _ _ 54 rfl w.heap.size 9 (.string ⟨#[]⟩) 16 Try.underlying54 Try.infoStr1 rfl (G nk).1 (G nk).2.1 (L nk).length (G nk).2.2 ((L nk).map strV) hv8 (by simp) rfl (by omega) (by omega) ⟨w6.heap.size, 0, none⟩ 1 (.string ⟨sb.toArray⟩) rfl hx8 rfl (Nat.le_trans hBs6 (Nat.le_trans (Nat.le_succ _) (Nat.le_of_eq h9s.symm))) ?_
              intro g9 o9 p9 w9 hV9 hBt9 hg9
              have hS9 : w9.cell? ⟨mb, nk, none⟩ = some (.slice (some ⟨(G nk).1, (G nk).2.1, none⟩) (L nk).length (G nk).2.2) ∧ (convert 28 9 (.slice A5 128 c5)).run Try.prog w9 = .ok (.string ⟨sb.toArray⟩) w9 := ⟨(World.cell?_of_block (hBt9.after.block mb hmb6 (fun e => hgm e.symm))).trans hh6, hcv.out _ fun ad e => hBt9.after.block _ (hA5.out ad e) (hoG ad e)⟩
              refine hK.out _ _ ?_ (fun hHeld2 => ?_)
              · (try dsimp only)
                (first | exact hS8 | exact hS9)
              clear hK K
              replace hHeld := hHeld2
              clear hHeld2
              (try simp only [Act.put, List.setIfInBounds_toArray, List.set_cons_zero, List.set_cons_succ])
              refine wt_tail (by kernel_rfl) ?_
              simp only [List.drop_succ_cons, List.drop_zero]
              obtain ⟨hc9, _⟩ := hHeld
              have hf9 : w9.frozen? ⟨mb, nk, none⟩ = false := (World.frozen?_of_block (hBt9.after.block mb hmb6 (fun e => hgm e.symm))).trans (hM6.room hnk).2
              obtain ⟨hM', hD', hB'⟩ := may_put hM6 hD6 hB6 hnk hBt9.after (l := L nk ++ [sb]) (m := (L nk).length + 1) (by simp) (by rw [List.map_append]; exact hV9) (hg9.imp id fun h => Nat.le_trans (Nat.le_trans (Nat.le_succ _) (Nat.le_of_eq h9s.symm)) h) hBs6
              have hLl' : ∀ k, (updM L nk (L nk ++ [sb]) k).length ≤ i + 1 + 1 := fun k => by
                unfold updM
                split
                · have := hLl.out nk
                  simp only [List.length_append, List.length_singleton]
                  omega
                · have := hLl.out k
                  omega
              replace hLl' := Lib.hid hLl'
              clear hS0 hS8 hv8 hx8 h9s hv6 hh6 hV9 hg9
              go_wp2
              go_roundw
              case rel =>
                try (refine (⟨_, _, _, _, _, _, _, _, _, _, _, _, _, _, _, _, _, _, _, _, _, _, _, _, _, _, _, _, _, _, _, _, _, _, _, _, _, _, _, _, _, _, _, _, _, _, _, _, _, _, _, _, _, _, _, _, _, _, _, _, _, _, _, _, _, _, _, _, _, _, _, _, _, _, _, _, _, _, _, _, ?_, rfl⟩))
                exact ⟨i + 1, _, _, _, _, by go_num, by omega, by omega, hI6, hLl', hM', hD', hB'⟩
              case measure => simp [intOf]; omega
            · have hx : nn < 0 ∨ (0 ≤ nn ∧ 37 ≤ nn) := by omega
              clear hn
              have hLl' : Hid (∀ k, (L k).length ≤ i + 1 + 1) := Lib.hid fun k => by have := hLl.out k; omega
              rcases hx with hx | ⟨hx, hx2⟩
              all_goals
                go_wp2
                go_roundw
                case rel =>
                  try (refine (⟨_, _, _, _, _, _, _, _, _, _, _, _, _, _, _, _, _, _, _, _, _, _, _, _, _, _, _, _, _, _, _, _, _, _, _, _, _, _, _, _, _, _, _, _, _, _, _, _, _, _, _, _, _, _, _, _, _, _, _, _, _, _, _, _, _, _, _, _, _, _, _, _, _, _, _, _, _, _, _, _, ?_, rfl⟩))
                  exact ⟨i + 1, _, _, _, _, by go_num, by omega, by omega, hI, hLl', hM, hD, hB⟩
                case measure => simp [intOf]; omega
          · have hk2' : (kind == 2) = false := beq_eq_false_iff_ne.2 hk2
            have hLl' : Hid (∀ k, (L k).length ≤ i + 1 + 1) := Lib.hid fun k => by have := hLl.out k; omega
            by_cases hk3 : kind = 3
            · subst hk3
              have hct := su_flush hD
              have hIf := Lib.hid hI.out.flush
              go_wp2_with fail
              with_reducible refine hct.mono ?_
              rintro e w6 ⟨rfl, hD6, hK6⟩
              have hM6 := hM.kept (w' := w6) fun b hb => hK6.block b (.inr hb)
              have hB6 := hB.trans (hK6.below fun b hb => .inl hb)
              generalize (devFlush s D).2.1 = s6 at *
              generalize (devFlush s D).2.2 = D6 at *
              generalize (devFlush s D).1 = r6 at *
              clear hct hK6 hM hD hB
              rcases hIf.out with ⟨rfl, hI6⟩ | ⟨rfl, hI6⟩
              · replace hI6 := Lib.hid hI6
                go_wp2
                go_roundw
                case rel =>
                  try (refine (⟨_, _, _, _, _, _, _, _, _, _, _, _, _, _, _, _, _, _, _, _, _, _, _, _, _, _, _, _, _, _, _, _, _, _, _, _, _, _, _, _, _, _, _, _, _, _, _, _, _, _, _, _, _, _, _, _, _, _, _, _, _, _, _, _, _, _, _, _, _, _, _, _, _, _, _, _, _, _, _, _, ?_, rfl⟩))
                  exact ⟨i + 1, _, _, _, _, by go_num, by omega, by omega, hI6, hLl', hM6, hD6, hB6⟩
                case measure => simp [intOf]; omega
              · replace hI6 := Lib.hid hI6
                have hfull := Lib.hid hI.out.full
                clear hI hIf
                go_wp2_with fail
                rename_i w6' _ _
                go_loopw [16] (fun p wr => ∃ (k : Nat) (G : Nat → Nat × Nat × Nat) (L' : Nat → List Bytes), p = .int .i64 k ∧ k ≤ 37 ∧ Hid (∀ j, L' j = if j < k then (L j).drop ((L j).length - 1) else L j) ∧ MayAt wr w.heap.size mb G 37 37 L' ∧ DvX (fun b => b < w.heap.size ∨ MayB mb G 37 b) a g wr s6 D6 ∧ Below w.heap.size w wr)
                  (fun p _ => (37 - intOf p).toNat)
                case atStart => exact ⟨0, G, L, by go_num, by omega, Lib.hid (fun j => by simp), hM6, hD6, hB6⟩
                case round =>
                  clear hM6 hD6 hB6
                  obtain ⟨k, G, L', rfl, hk37, hL', hM, hD, hB⟩ := hrel
                  by_cases hlk : k < 37
                  · have hhd := hM.head hlk
                    obtain ⟨_, hfz⟩ := hM.room hlk
                    have hLk : L' k = L k := by rw [hL'.out k, if_neg (by omega)]
                    have hf1 : 0 < (L' k).length := by rw [hLk]; exact hfull.out k
                    have hl1 : (L' k).length ≤ 501 := by rw [hLk]; have := hLl'.out k; omega
                    have hv := (hM.el k hlk).1
                    have hvc := hv.2.1
                    rw [List.length_map] at hvc
                    have hvm := hv.2.2.1
                    simp only [maxLen] at hvm
                    obtain ⟨q, hq⟩ : ∃ q, (L' k).length = q + 1 := ⟨(L' k).length - 1, by omega⟩
                    have hq1 : ((q + 1 : Nat) : Int) - 1 = (q : Int) := by omega
                    have hput := may_put hM hD hB hlk (w' := wr.drew) ⟨rfl, rfl, rfl, Nat.le_refl _, fun _ _ _ => rfl⟩ (l := (L' k).drop q) (m := 1) (by rw [List.length_drop]; omega) (by rw [List.map_drop]; exact hv.drop q (by rw [List.length_map]; omega)) (.inl rfl) hB.size
                    rw [hq] at hhd hvc
                    replace hq := Lib.hid hq
                    go_wp2_with fail
                    have hn0 : (0 : Int) ≤ (k : Int) := by omega
                    have hwq : IntKind.i64.wrap (q : Int) = (q : Int) := IntWalk.i64_in _ (by omega)
                    have hqq : (0 : Int) ≤ (q : Int) ∧ (q : Int) ≤ (q : Int) + 1 := by omega
                    have hqn : ((G k).2.2 = q) = False := by simp; omega
                    refine wp_region_held_tail (S := (fun W => W.cell? ⟨mb, k, none⟩ = some (.slice (some ⟨(G k).1, (G k).2.1, none⟩) (q + 1) (G k).2.2))) 13 (by kernel_rfl) (by decide) ?_ (fun hHeld => ?_)
                    · (try dsimp only)
                      exact hhd
                    refine wt_take (i := 0) (oi := ⟨_, _, _, _, _, _⟩) (v := ?v9) rfl (by kernel_rfl) (by kernel_rfl) (fun _ _ _ h => h) (Or.inl ⟨by rfl, ?hy9⟩) (by assumption) ?rest9
                    case hy9 => (intro w hSw; (try dsimp only at hSw); go_simp; try with_reducible rfl)
                    (try simp only [Act.put, List.setIfInBounds_toArray, List.set_cons_zero, List.set_cons_succ])
                    refine wt_take (i := 1) (oi := ⟨_, _, _, _, _, _⟩) (v := ?v10) rfl (by kernel_rfl) (by kernel_rfl) (fun _ _ _ h => h) (Or.inl ⟨by rfl, ?hy10⟩) (by assumption) ?rest10
                    case hy10 => (intro w hSw; (try dsimp only at hSw); go_simp; try with_reducible rfl)
                    (try simp only [Act.put, List.setIfInBounds_toArray, List.set_cons_zero, List.set_cons_succ])
                    refine wt_take (i := 2) (oi := ⟨_, _, _, _, _, _⟩) (v := ?v11) rfl (by kernel_rfl) (by kernel_rfl) (fun _ _ _ h => h) (Or.inl ⟨by rfl, ?hy11⟩) (by assumption) ?rest11
                    case hy11 => (intro w hSw; (try dsimp only at hSw); go_simp; try with_reducible rfl)
                    (try simp only [Act.put, List.setIfInBounds_toArray, List.set_cons_zero, List.set_cons_succ])
                    refine wt_take (i := 3) (oi := ⟨_, _, _, _, _, _⟩) (v := ?v12) rfl (by kernel_rfl) (by kernel_rfl) (fun _ _ _ h => h) (Or.inl ⟨by rfl, ?hy12⟩) (by assumption) ?rest12
                    case hy12 => (intro w hSw; (try dsimp only at hSw); go_simp; try with_reducible rfl)
                    (try simp only [Act.put, List.setIfInBounds_toArray, List.set_cons_zero, List.set_cons_succ])
                    refine wt_take (i := 4) (oi := ⟨_, _, _, _, _, _⟩) (v := ?v13) rfl (by kernel_rfl) (by kernel_rfl) (fun _ _ _ h => h) (Or.inl ⟨by rfl, ?hy13⟩) (by assumption) ?rest13
                    case hy13 => (intro w hSw; (try dsimp only at hSw); go_simp; try with_reducible rfl)
                    (try simp only [Act.put, List.setIfInBounds_toArray, List.set_cons_zero, List.set_cons_succ])
                    refine wt_take (i := 5) (oi := ⟨_, _, _, _, _, _⟩) (v := ?v14) rfl (by kernel_rfl) (by kernel_rfl) (fun _ _ _ h => h) (Or.inl ⟨by rfl, ?hy14⟩) (by assumption) ?rest14
                    case hy14 => (intro w hSw; (try dsimp only at hSw); go_simp; try with_reducible rfl)
                    (try simp only [Act.put, List.setIfInBounds_toArray, List.set_cons_zero, List.set_cons_succ])
                    refine wt_take (i := 6) (oi := ⟨_, _, _, _, _, _⟩) (v := ?v15) rfl (by kernel_rfl) (by kernel_rfl) (fun _ _ _ h => h) (Or.inl ⟨by rfl, ?hy15⟩) (by assumption) ?rest15
                    case hy15 => (intro w hSw; (try dsimp only at hSw); go_simp; try with_reducible rfl)
                    (try simp only [Act.put, List.setIfInBounds_toArray, List.set_cons_zero, List.set_cons_succ])
                    refine wt_take (i := 7) (oi := ⟨_, _, _, _, _, _⟩) (v := ?v16) rfl (by kernel_rfl) (by kernel_rfl) (fun _ _ _ h => h) (Or.inl ⟨by rfl, ?hy16⟩) (by assumption) ?rest16
                    case hy16 => (intro w hSw; (try dsimp only at hSw); go_simp; try with_reducible rfl)
                    (try simp only [Act.put, List.setIfInBounds_toArray, List.set_cons_zero, List.set_cons_succ])
                    refine wt_take (i := 8) (oi := ⟨_, _, _, _, _, _⟩) (v := ?v17) rfl (by kernel_rfl) (by kernel_rfl) (fun _ _ _ h => h) (Or.inl ⟨by rfl, ?hy17⟩) (by assumption) ?rest17
                    case hy17 => (intro w hSw; (try dsimp only at hSw); go_simp; try with_reducible rfl)
                    (try simp only [Act.put, List.setIfInBounds_toArray, List.set_cons_zero, List.set_cons_succ])
                    refine wt_take (i := 9) (oi := ⟨_, _, _, _, _, _⟩) (v := ?v18) rfl (by kernel_rfl) (by kernel_rfl) (fun _ _ _ h => h) (Or.inl ⟨by rfl, ?hy18⟩) (by assumption) ?rest18
                    case hy18 => (intro w hSw; (try dsimp only at hSw); go_simp; try with_reducible rfl)
                    (try simp only [Act.put, List.setIfInBounds_toArray, List.set_cons_zero, List.set_cons_succ])
                    refine wt_take (i := 10) (oi := ⟨_, _, _, _, _, _⟩) (v := ?v19) rfl (by kernel_rfl) (by kernel_rfl) (fun _ _ _ h => h) (Or.inl ⟨by rfl, ?hy19⟩) (by assumption) ?rest19
                    case hy19 => (intro w hSw; (try dsimp only at hSw); go_simp; try with_reducible rfl)
                    (try simp only [Act.put, List.setIfInBounds_toArray, List.set_cons_zero, List.set_cons_succ])
                    refine wt_take (i := 11) (oi := ⟨_, _, _, _, _, _⟩) (v := ?v20) rfl (by kernel_rfl) (by kernel_rfl) (fun _ _ _ h => h) (Or.inl ⟨by rfl, ?hy20⟩) (by assumption) ?rest20
                    case hy20 => (intro w hSw; (try dsimp only at hSw); go_simp; try with_reducible rfl)
                    (try simp only [Act.put, List.setIfInBounds_toArray, List.set_cons_zero, List.set_cons_succ])
                    refine wt_take (i := 12) (oi := ⟨_, _, _, _, _, _⟩) (v := ?v21) rfl (by kernel_rfl) (by kernel_rfl) (fun _ _ _ h => h) (Or.inl ⟨by rfl, ?hy21⟩) (by assumption) ?rest21
                    case hy21 => (intro w hSw; (try dsimp only at hSw); go_simp; try with_reducible rfl)
                    (try simp only [Act.put, List.setIfInBounds_toArray, List.set_cons_zero, List.set_cons_succ])
                    refine wt_tail (by kernel_rfl) ?_
                    simp only [List.drop_succ_cons, List.drop_zero]
                    obtain ⟨hM', hD', hB'⟩ := hput
                    have hL2 : Hid (∀ j, updM L' k ((L' k).drop q) j = if j < k + 1 then (L j).drop ((L j).length - 1) else L j) := Lib.hid fun j => by
                      unfold updM
                      by_cases e : j = k
                      · subst e
                        have := hq.out
                        rw [if_pos rfl, if_pos (by omega), ← hLk, this]
                        rfl
                      · rw [if_neg e, hL'.out j]
                        by_cases e2 : j < k
                        · rw [if_pos e2, if_pos (by omega)]
                        · rw [if_neg e2, if_neg (by omega)]
                    have hhd' : wr.drew.cell? ⟨mb, k, none⟩ = _ := hhd
                    have hfz' : wr.drew.frozen? ⟨mb, k, none⟩ = false := hfz
                    go_wp2
                    go_roundw
                    case rel => exact ⟨k + 1, _, _, by go_num, by omega, hL2, hM', hD', hB'⟩
                    case measure => simp [intOf]; omega
                  · obtain rfl : k = 37 := by omega
                    have hI7 : Hid (CrI s6 D6 L') := Lib.hid (hI6.out.mono (fun j hj => by rw [hL'.out j, if_pos hj]) fun j => by
                      rw [hL'.out j]
                      have := hfull.out j
                      split
                      · rw [List.length_drop]; omega
                      · exact this)
                    have hL7 : Hid (∀ j, (L' j).length ≤ i + 1 + 1) := Lib.hid fun j => by
                      rw [hL'.out j]
                      have := hLl'.out j
                      split
                      · rw [List.length_drop]; omega
                      · exact this
                    clear hI6 hL' hLl' hfull
                    go_wp2
                    go_roundw
                    case rel =>
                      try (refine (⟨_, _, _, _, _, _, _, _, _, _, _, _, _, _, _, _, _, _, _, _, _, _, _, _, _, _, _, _, _, _, _, _, _, _, _, _, _, _, _, _, _, _, _, _, _, _, _, _, _, _, _, _, _, _, _, _, _, _, _, _, _, _, _, _, _, _, _, _, _, _, _, _, _, _, _, _, _, _, _, _, ?_, rfl⟩))
                      exact ⟨i + 1, _, _, _, _, by go_num, by omega, by omega, hI7, hL7, hM, hD, hB⟩
                    case measure => simp [intOf]; omega
            · have hk3' : (kind == 3) = false := beq_eq_false_iff_ne.2 hk3
              go_wp2
              go_roundw
              case rel =>
                try (refine (⟨_, _, _, _, _, _, _, _, _, _, _, _, _, _, _, _, _, _, _, _, _, _, _, _, _, _, _, _, _, _, _, _, _, _, _, _, _, _, _, _, _, _, _, _, _, _, _, _, _, _, _, _, _, _, _, _, _, _, _, _, _, _, _, _, _, _, _, _, _, _, _, _, _, _, _, _, _, _, _, _, ?_, rfl⟩))
                exact ⟨i + 1, _, _, _, _, by go_num, by omega, by omega, hI, hLl', hM, hD, hB⟩
              case measure => simp [intOf]; omega
        · have hx : (m : Int) ≤ (i : Int) ∨ ((i : Int) < (m : Int) ∧ 500 ≤ (i : Int)) := by omega
          have hKw := hK.out.below hB (Nat.le_refl _)
          have hct := dx_crash hD KA kn kc keep hKw (fun b hb => .inl hb) hkn.out
          have hrc : Room 100 (s.crash keep) := room_crash s keep 100
          obtain ⟨hrun, hsec, hgood⟩ := hI.out.crash keep
          have hfull := hI.out.full
          have hlen := hLl.out
          generalize s.crash keep = sc at *
          replace hrun := Lib.hid hrun
          replace hsec := Lib.hid hsec
          replace hgood := Lib.hid hgood
          replace hrc := Lib.hid hrc
          replace hfull := Lib.hid hfull
          replace hlen := Lib.hid hlen
          clear hI hLl hlt hK hkn hops hm hKw
          rcases hx with hx | ⟨hx, hx2⟩
          · go_wp2_with fail
            with_reducible refine hct.mono ?_
            rintro e w6 ⟨rfl, hD6, hK6⟩
            have hM6 := hM.kept (w' := w6) fun b hb => hK6.block b (.inr hb)
            have hB6 := hB.trans (hK6.below fun b hb => .inl hb)
            have hct := ls_open hD6.shelf 0 hrun.out hrc.out
            rw [show ((0 : Nat) : Int) = 0 from rfl] at hct
            clear hK6 hM hD hB hrc
            go_wp2_with fail
            with_reducible refine hct.mono ?_
            rintro e w7 ⟨a7, rfl, _, h7, hb7⟩
            have hM7 := hM6.below hb7
            have hB7 := below_to hB6 hb7
            clear hct hD6 hM6 hB6 hb7
            go_wp2_with fail
            rename_i w7' _ _
            have hz0 : Hid (∀ n, rdS sc 0 n = rdS sc 0 n) := Lib.hid fun _ => rfl
            have hDf : (freshDev sc 0).disk = 0 := rfl
            have hDs : (freshDev sc 0).size = 37 := by
              show (blocksI (sc.sectors : Int)).toNat = 37
              rw [hsec.out]
              decide
            generalize freshDev sc 0 = D7 at *
            go_loopw [19] (fun p wr => ∃ (k : Nat) (s' : ShM), p = .int .i64 k ∧ k ≤ 37 ∧ Hid (∀ n, rdS s' 0 n = rdS sc 0 n) ∧ MayAt wr w.heap.size mb G 37 37 L ∧ LawS (fun b => b < w.heap.size ∨ MayB mb G 37 b) a7 g wr s' D7 ∧ Below w.heap.size w wr)
              (fun p _ => (37 - intOf p).toNat)
            case atStart => exact ⟨0, sc, by go_num, by omega, hz0, hM7, h7, hB7⟩
            case round =>
              clear hM7 h7 hB7 hz0
              obtain ⟨k, s', rfl, hk37, hzz, hM, hD, hB⟩ := hrel
              by_cases hlk : k < 37
              · have hct := ls_read hD k (by rw [hDs]; exact hlk)
                obtain ⟨hg1, hg2⟩ := hgood.out k hlk
                rw [hDf, hzz.out, hzz.out, hg1] at hct
                simp only [if_true] at hct
                have hbl : Hid ((rdS sc 0 (dataAt k)).length = 128) := Lib.hid (hrun.out.len (by rw [hsec.out]; unfold dataAt; omega))
                generalize rdS sc 0 (dataAt k) = bs at *
                clear hg1
                go_wp2_with fail
                with_reducible refine hct.mono ?_
                rintro e w8 ⟨v8, rfl, hf8, h8, hK8⟩
                obtain ⟨A8, c8, rfl, hr8, _⟩ := hf8.form (by rw [hbl.out]; omega)
                replace h8 := h8.mono (Y := fun b => b < w.heap.size ∨ MayB mb G 37 b) fun b hb => .inl hb
                have hM8 := hM.kept (w' := w8) fun b hb => hK8.block b (.inr hb)
                have hB8 := hB.trans (hK8.below fun b hb => .inl hb)
                have hzz8 : Hid (∀ n, rdS s'.tick.tick 0 n = rdS sc 0 n) := Lib.hid fun n => hzz.out n
                have hcv := run_string_rd (P := Try.prog) w8 28 9 5 Try.underlying28 Try.underlying5 Try.underlying9 A8 bs.length c8 bs hr8 rfl
                rw [hbl.out]
                clear hct hf8 hK8 hM hD hB hzz hcv
                generalize s'.tick.tick = s8 at *
                have hln := hlen.out k
                have hcv0 : Hid (∀ W, Below w8.heap.size w8 W → (convert 28 9 (.slice A8 128 c8)).run Try.prog W = .ok (.string ⟨bs.toArray⟩) W) := Lib.hid fun W hW =>
                  run_string_rd (P := Try.prog) W 28 9 5 Try.underlying28 Try.underlying5 Try.underlying9 A8 128 c8 bs (hr8.below hW) hbl.out
                replace hg2 := Lib.hid hg2
                replace hM8 := Lib.hid hM8
                replace h8 := Lib.hid h8
                replace hr8 := Lib.hid hr8
                go_wp2_with fail
                go_loopw [22, 23] (fun p q wr => ∃ (i : Nat) (b : Bool), p = .bool b ∧ q = .int .i64 i ∧ i ≤ (L k).length ∧ Hid (b = ((L k).take i).contains bs) ∧ Below w8.heap.size w8 wr)
                  (fun p q _ => ((L k).length - intOf q).toNat)
                case atStart => exact ⟨0, false, rfl, by go_num, by omega, Lib.hid (by simp), by first | exact Below.refl _ _ | exact (Below.refl _ _).drew⟩
                case round =>
                  obtain ⟨i, b, rfl, rfl, hil, hbb, hbel⟩ := hrel
                  have hMw := hM8.out.below hbel
                  have hhd := hMw.head hlk
                  by_cases hi : i < (L k).length
                  · have hst := hMw.str hlk hi
                    have htk : (L k).take (i + 1) = (L k).take i ++ [(L k)[i]] := by rw [List.take_succ, List.getElem?_eq_getElem hi]; rfl
                    have hcw := hcv0.out _ hbel.drew
                    have hbw := hbel.drew
                    generalize (L k)[i] = x at *
                    replace hst : wr.cell? ⟨(G k).1, (G k).2.1 + i, none⟩ = some (.string ⟨x.toArray⟩) := hst
                    replace htk := Lib.hid htk
                    replace hMw := Lib.hid hMw
                    have hig : ((L k).length : Int) ≤ 501 := by omega
                    cases b with
                    | true =>
                      go_wp2_with fail
                      refine wp_region_held_drew (S := (fun W => W.cell? ⟨mb, k, none⟩ = some (.slice (some ⟨(G k).1, (G k).2.1, none⟩) (L k).length (G k).2.2) ∧ W.cell? ⟨(G k).1, (G k).2.1 + i, none⟩ = some (.string ⟨x.toArray⟩) ∧ (convert 28 9 (.slice A8 128 c8)).run Try.prog W = .ok (.string ⟨bs.toArray⟩) W)) (by kernel_rfl) ?_ (fun hHeld => ?_)
                      · (try dsimp only)
                        exact ⟨hhd, hst, hcw⟩
                      refine wpAnyH_take (i := 0) (oi := ⟨_, _, _, _, _, _⟩) (v := ?v22) rfl (by kernel_rfl) (by kernel_rfl) (by kernel_rfl) (fun _ _ _ h => h) (Or.inl ⟨by rfl, ?hy22⟩) (by assumption) ?rest22
                      case hy22 => (intro w hSw; (try dsimp only at hSw); go_simp; try with_reducible rfl)
                      (try simp only [Act.put, List.setIfInBounds_toArray, List.set_cons_zero, List.set_cons_succ])
                      refine wpAnyH_take (i := 1) (oi := ⟨_, _, _, _, _, _⟩) (v := ?v23) rfl (by kernel_rfl) (by kernel_rfl) (by kernel_rfl) (fun _ _ _ h => h) (Or.inl ⟨by rfl, ?hy23⟩) (by assumption) ?rest23
                      case hy23 => (intro w hSw; (try dsimp only at hSw); go_simp; try with_reducible rfl)
                      (try simp only [Act.put, List.setIfInBounds_toArray, List.set_cons_zero, List.set_cons_succ])
                      refine wpAnyH_take (i := 2) (oi := ⟨_, _, _, _, _, _⟩) (v := undef) rfl (by kernel_rfl) (by kernel_rfl) (by kernel_rfl) (fun _ _ _ h => h) (Or.inr ⟨by rfl, rfl⟩) (by assumption) ?_
                      (try simp only [Act.put, List.setIfInBounds_toArray, List.set_cons_zero, List.set_cons_succ])
                      refine wpAnyH_take (i := 3) (oi := ⟨_, _, _, _, _, _⟩) (v := undef) rfl (by kernel_rfl) (by kernel_rfl) (by kernel_rfl) (fun _ _ _ h => h) (Or.inr ⟨by rfl, rfl⟩) (by assumption) ?_
                      (try simp only [Act.put, List.setIfInBounds_toArray, List.set_cons_zero, List.set_cons_succ])
                      refine wpAnyH_take (i := 4) (oi := ⟨_, _, _, _, _, _⟩) (v := undef) rfl (by kernel_rfl) (by kernel_rfl) (by kernel_rfl) (fun _ _ _ h => h) (Or.inr ⟨by rfl, rfl⟩) (by assumption) ?_
                      (try simp only [Act.put, List.setIfInBounds_toArray, List.set_cons_zero, List.set_cons_succ])
                      refine wpAnyH_take (i := 5) (oi := ⟨_, _, _, _, _, _⟩) (v := undef) rfl (by kernel_rfl) (by kernel_rfl) (by kernel_rfl) (fun _ _ _ h => h) (Or.inr ⟨by rfl, rfl⟩) (by assumption) ?_
                      (try simp only [Act.put, List.setIfInBounds_toArray, List.set_cons_zero, List.set_cons_succ])
                      refine wpAnyH_take (i := 6) (oi := ⟨_, _, _, _, _, _⟩) (v := undef) rfl (by kernel_rfl) (by kernel_rfl) (by kernel_rfl) (fun _ _ _ h => h) (Or.inr ⟨by rfl, rfl⟩) (by assumption) ?_
                      (try simp only [Act.put, List.setIfInBounds_toArray, List.set_cons_zero, List.set_cons_succ])
                      refine wpAnyH_take (i := 7) (oi := ⟨_, _, _, _, _, _⟩) (v := undef) rfl (by kernel_rfl) (by kernel_rfl) (by kernel_rfl) (fun _ _ _ h => h) (Or.inr ⟨by rfl, rfl⟩) (by assumption) ?_
                      (try simp only [Act.put, List.setIfInBounds_toArray, List.set_cons_zero, List.set_cons_succ])
                      refine wpAnyH_take (i := 8) (oi := ⟨_, _, _, _, _, _⟩) (v := undef) rfl (by kernel_rfl) (by kernel_rfl) (by kernel_rfl) (fun _ _ _ h => h) (Or.inr ⟨by rfl, rfl⟩) (by assumption) ?_
                      (try simp only [Act.put, List.setIfInBounds_toArray, List.set_cons_zero, List.set_cons_succ])
                      refine wpAnyH_take (i := 9) (oi := ⟨_, _, _, _, _, _⟩) (v := undef) rfl (by kernel_rfl) (by kernel_rfl) (by kernel_rfl) (fun _ _ _ h => h) (Or.inr ⟨by rfl, rfl⟩) (by assumption) ?_
                      (try simp only [Act.put, List.setIfInBounds_toArray, List.set_cons_zero, List.set_cons_succ])
                      refine wpAnyH_take (i := 10) (oi := ⟨_, _, _, _, _, _⟩) (v := undef) rfl (by kernel_rfl) (by kernel_rfl) (by kernel_rfl) (fun _ _ _ h => h) (Or.inr ⟨by rfl, rfl⟩) (by assumption) ?_
                      (try simp only [Act.put, List.setIfInBounds_toArray, List.set_cons_zero, List.set_cons_succ])
                      refine wpAnyH_take (i := 11) (oi := ⟨_, _, _, _, _, _⟩) (v := undef) rfl (by kernel_rfl) (by kernel_rfl) (by kernel_rfl) (fun _ _ _ h => h) (Or.inr ⟨by rfl, rfl⟩) (by assumption) ?_
                      (try simp only [Act.put, List.setIfInBounds_toArray, List.set_cons_zero, List.set_cons_succ])
                      refine wpAnyH_take (i := 12) (oi := ⟨_, _, _, _, _, _⟩) (v := ?v34) rfl (by kernel_rfl) (by kernel_rfl) (by kernel_rfl) (fun _ _ _ h => h) (Or.inl ⟨by rfl, ?hy34⟩) (by assumption) ?rest34
                      case hy34 => (intro w hSw; (try dsimp only at hSw); go_simp; try with_reducible rfl)
                      (try simp only [Act.put, List.setIfInBounds_toArray, List.set_cons_zero, List.set_cons_succ])
                      refine wpAnyH_take (i := 13) (oi := ⟨_, _, _, _, _, _⟩) (v := ?v35) rfl (by kernel_rfl) (by kernel_rfl) (by kernel_rfl) (fun _ _ _ h => h) (Or.inl ⟨by rfl, ?hy35⟩) (by assumption) ?rest35
                      case hy35 => (intro w hSw; (try dsimp only at hSw); go_simp; try with_reducible rfl)
                      (try simp only [Act.put, List.setIfInBounds_toArray, List.set_cons_zero, List.set_cons_succ])
                      refine wpAnyH_done (by kernel_rfl) ?_ _
                      go_wp2
                      go_roundw
                      case rel => exact ⟨i + 1, _, rfl, by go_num, by omega, Lib.hid (by rw [htk.out, List.contains_append, ← hbb.out, List.contains_cons, List.contains_nil, Bool.or_false]; first | rfl | (rw [Bool.false_or]; rfl) | (rw [Bool.true_or]; rfl)), hbw⟩
                      case measure => simp [intOf]; omega
                    | false =>
                      go_wp2_with fail
                      refine wp_region_held_drew (S := (fun W => W.cell? ⟨mb, k, none⟩ = some (.slice (some ⟨(G k).1, (G k).2.1, none⟩) (L k).length (G k).2.2) ∧ W.cell? ⟨(G k).1, (G k).2.1 + i, none⟩ = some (.string ⟨x.toArray⟩) ∧ (convert 28 9 (.slice A8 128 c8)).run Try.prog W = .ok (.string ⟨bs.toArray⟩) W)) (by kernel_rfl) ?_ (fun hHeld => ?_)
                      · (try dsimp only)
                        exact ⟨hhd, hst, hcw⟩
                      refine wpAnyH_take (i := 0) (oi := ⟨_, _, _, _, _, _⟩) (v := ?v36) rfl (by kernel_rfl) (by kernel_rfl) (by kernel_rfl) (fun _ _ _ h => h) (Or.inl ⟨by rfl, ?hy36⟩) (by assumption) ?rest36
                      case hy36 => (intro w hSw; (try dsimp only at hSw); go_simp; try with_reducible rfl)
                      (try simp only [Act.put, List.setIfInBounds_toArray, List.set_cons_zero, List.set_cons_succ])
                      refine wpAnyH_take (i := 1) (oi := ⟨_, _, _, _, _, _⟩) (v := ?v37) rfl (by kernel_rfl) (by kernel_rfl) (by kernel_rfl) (fun _ _ _ h => h) (Or.inl ⟨by rfl, ?hy37⟩) (by assumption) ?rest37
                      case hy37 => (intro w hSw; (try dsimp only at hSw); go_simp; try with_reducible rfl)
                      (try simp only [Act.put, List.setIfInBounds_toArray, List.set_cons_zero, List.set_cons_succ])
                      refine wpAnyH_take (i := 2) (oi := ⟨_, _, _, _, _, _⟩) (v := ?v38) rfl (by kernel_rfl) (by kernel_rfl) (by kernel_rfl) (fun _ _ _ h => h) (Or.inl ⟨by rfl, ?hy38⟩) (by assumption) ?rest38
                      case hy38 => (intro w hSw; (try dsimp only at hSw); go_simp; try with_reducible rfl)
                      (try simp only [Act.put, List.setIfInBounds_toArray, List.set_cons_zero, List.set_cons_succ])
                      refine wpAnyH_take (i := 3) (oi := ⟨_, _, _, _, _, _⟩) (v := ?v39) rfl (by kernel_rfl) (by kernel_rfl) (by kernel_rfl) (fun _ _ _ h => h) (Or.inl ⟨by rfl, ?hy39⟩) (by assumption) ?rest39
                      case hy39 => (intro w hSw; (try dsimp only at hSw); go_simp; try with_reducible rfl)
                      (try simp only [Act.put, List.setIfInBounds_toArray, List.set_cons_zero, List.set_cons_succ])
                      refine wpAnyH_take (i := 4) (oi := ⟨_, _, _, _, _, _⟩) (v := ?v40) rfl (by kernel_rfl) (by kernel_rfl) (by kernel_rfl) (fun _ _ _ h => h) (Or.inl ⟨by rfl, ?hy40⟩) (by assumption) ?rest40
                      case hy40 => (intro w hSw; (try dsimp only at hSw); go_simp; try with_reducible rfl)
                      (try simp only [Act.put, List.setIfInBounds_toArray, List.set_cons_zero, List.set_cons_succ])
                      refine wpAnyH_take (i := 5) (oi := ⟨_, _, _, _, _, _⟩) (v := ?v41) rfl (by kernel_rfl) (by kernel_rfl) (by kernel_rfl) (fun _ _ _ h => h) (Or.inl ⟨by rfl, ?hy41⟩) (by assumption) ?rest41
                      case hy41 => (intro w hSw; (try dsimp only at hSw); go_simp; try with_reducible rfl)
                      (try simp only [Act.put, List.setIfInBounds_toArray, List.set_cons_zero, List.set_cons_succ])
                      refine wpAnyH_take (i := 6) (oi := ⟨_, _, _, _, _, _⟩) (v := ?v42) rfl (by kernel_rfl) (by kernel_rfl) (by kernel_rfl) (fun _ _ _ h => h) (Or.inl ⟨by rfl, ?hy42⟩) (by assumption) ?rest42
                      case hy42 => (intro w hSw; (try dsimp only at hSw); go_simp; try with_reducible rfl)
                      (try simp only [Act.put, List.setIfInBounds_toArray, List.set_cons_zero, List.set_cons_succ])
                      refine wpAnyH_take (i := 7) (oi := ⟨_, _, _, _, _, _⟩) (v := ?v43) rfl (by kernel_rfl) (by kernel_rfl) (by kernel_rfl) (fun _ _ _ h => h) (Or.inl ⟨by rfl, ?hy43⟩) (by assumption) ?rest43
                      case hy43 => (intro w hSw; (try dsimp only at hSw); go_simp; try with_reducible rfl)
                      (try simp only [Act.put, List.setIfInBounds_toArray, List.set_cons_zero, List.set_cons_succ])
                      refine wpAnyH_take (i := 8) (oi := ⟨_, _, _, _, _, _⟩) (v := ?v44) rfl (by kernel_rfl) (by kernel_rfl) (by kernel_rfl) (fun _ _ _ h => h) (Or.inl ⟨by rfl, ?hy44⟩) (by assumption) ?rest44
                      case hy44 => (intro w hSw; (try dsimp only at hSw); go_simp; try with_reducible rfl)
                      (try simp only [Act.put, List.setIfInBounds_toArray, List.set_cons_zero, List.set_cons_succ])
                      refine wpAnyH_take (i := 9) (oi := ⟨_, _, _, _, _, _⟩) (v := ?v45) rfl (by kernel_rfl) (by kernel_rfl) (by kernel_rfl) (fun _ _ _ h => h) (Or.inl ⟨by rfl, ?hy45⟩) (by assumption) ?rest45
                      case hy45 => (intro w hSw; (try dsimp only at hSw); go_simp; try with_reducible rfl)
                      (try simp only [Act.put, List.setIfInBounds_toArray, List.set_cons_zero, List.set_cons_succ])
                      refine wpAnyH_take (i := 10) (oi := ⟨_, _, _, _, _, _⟩) (v := ?v46) rfl (by kernel_rfl) (by kernel_rfl) (by kernel_rfl) (fun _ _ _ h => h) (Or.inl ⟨by rfl, ?hy46⟩) (by assumption) ?rest46
                      case hy46 => (intro w hSw; (try dsimp only at hSw); go_simp; try with_reducible rfl)
                      (try simp only [Act.put, List.setIfInBounds_toArray, List.set_cons_zero, List.set_cons_succ])
                      refine wpAnyH_take (i := 11) (oi := ⟨_, _, _, _, _, _⟩) (v := ?v47) rfl (by kernel_rfl) (by kernel_rfl) (by kernel_rfl) (fun _ _ _ h => h) (Or.inl ⟨by rfl, ?hy47⟩) (by assumption) ?rest47
                      case hy47 => (intro w hSw; (try dsimp only at hSw); go_simp; try with_reducible rfl)
                      (try simp only [Act.put, List.setIfInBounds_toArray, List.set_cons_zero, List.set_cons_succ])
                      refine wpAnyH_take (i := 12) (oi := ⟨_, _, _, _, _, _⟩) (v := ?v48) rfl (by kernel_rfl) (by kernel_rfl) (by kernel_rfl) (fun _ _ _ h => h) (Or.inl ⟨by rfl, ?hy48⟩) (by assumption) ?rest48
                      case hy48 => (intro w hSw; (try dsimp only at hSw); go_simp; try with_reducible rfl)
                      (try simp only [Act.put, List.setIfInBounds_toArray, List.set_cons_zero, List.set_cons_succ])
                      refine wpAnyH_take (i := 13) (oi := ⟨_, _, _, _, _, _⟩) (v := ?v49) rfl (by kernel_rfl) (by kernel_rfl) (by kernel_rfl) (fun _ _ _ h => h) (Or.inl ⟨by rfl, ?hy49⟩) (by assumption) ?rest49
                      case hy49 => (intro w hSw; (try dsimp only at hSw); go_simp; try with_reducible rfl)
                      (try simp only [Act.put, List.setIfInBounds_toArray, List.set_cons_zero, List.set_cons_succ])
                      refine wpAnyH_done (by kernel_rfl) ?_ _
                      go_wp2
                      go_roundw
                      case rel => exact ⟨i + 1, _, rfl, by go_num, by omega, Lib.hid (by rw [htk.out, List.contains_append, ← hbb.out, List.contains_cons, List.contains_nil, Bool.or_false]; first | rfl | (rw [Bool.false_or]; rfl) | (rw [Bool.true_or]; rfl)), hbw⟩
                      case measure => simp [intOf]; omega
                  · obtain rfl : i = (L k).length := by omega
                    have hbt : b = true := by rw [hbb.out, List.take_length]; simpa using hg2.out
                    subst hbt
                    have h8w := h8.out.below hbel
                    have hB8w := below_to hB8 hbel
                    clear hbb hcv0 hr8 h8 hM8 hB8 hbel
                    go_wp2
                    go_roundw
                    case rel => exact ⟨k + 1, s8, by go_num, by omega, hzz8, hMw, h8w, hB8w⟩
                    case measure => simp [intOf]; omega
              · obtain rfl : k = 37 := by omega
                clear hzz hM hD hgood
                go_wp2
                go_ret
                exact ⟨by simp, hB⟩
          · go_wp2_with fail
            with_reducible refine hct.mono ?_
            rintro e w6 ⟨rfl, hD6, hK6⟩
            have hM6 := hM.kept (w' := w6) fun b hb => hK6.block b (.inr hb)
            have hB6 := hB.trans (hK6.below fun b hb => .inl hb)
            have hct := ls_open hD6.shelf 0 hrun.out hrc.out
            rw [show ((0 : Nat) : Int) = 0 from rfl] at hct
            clear hK6 hM hD hB hrc
            go_wp2_with fail
            with_reducible refine hct.mono ?_
            rintro e w7 ⟨a7, rfl, _, h7, hb7⟩
            have hM7 := hM6.below hb7
            have hB7 := below_to hB6 hb7
            clear hct hD6 hM6 hB6 hb7
            go_wp2_with fail
            rename_i w7' _ _
            have hz0 : Hid (∀ n, rdS sc 0 n = rdS sc 0 n) := Lib.hid fun _ => rfl
            have hDf : (freshDev sc 0).disk = 0 := rfl
            have hDs : (freshDev sc 0).size = 37 := by
              show (blocksI (sc.sectors : Int)).toNat = 37
              rw [hsec.out]
              decide
            generalize freshDev sc 0 = D7 at *
            go_loopw [19] (fun p wr => ∃ (k : Nat) (s' : ShM), p = .int .i64 k ∧ k ≤ 37 ∧ Hid (∀ n, rdS s' 0 n = rdS sc 0 n) ∧ MayAt wr w.heap.size mb G 37 37 L ∧ LawS (fun b => b < w.heap.size ∨ MayB mb G 37 b) a7 g wr s' D7 ∧ Below w.heap.size w wr)
              (fun p _ => (37 - intOf p).toNat)
            case atStart => exact ⟨0, sc, by go_num, by omega, hz0, hM7, h7, hB7⟩
            case round =>
              clear hM7 h7 hB7 hz0
              obtain ⟨k, s', rfl, hk37, hzz, hM, hD, hB⟩ := hrel
              by_cases hlk : k < 37
              · have hct := ls_read hD k (by rw [hDs]; exact hlk)
                obtain ⟨hg1, hg2⟩ := hgood.out k hlk
                rw [hDf, hzz.out, hzz.out, hg1] at hct
                simp only [if_true] at hct
                have hbl : Hid ((rdS sc 0 (dataAt k)).length = 128) := Lib.hid (hrun.out.len (by rw [hsec.out]; unfold dataAt; omega))
                generalize rdS sc 0 (dataAt k) = bs at *
                clear hg1
                go_wp2_with fail
                with_reducible refine hct.mono ?_
                rintro e w8 ⟨v8, rfl, hf8, h8, hK8⟩
                obtain ⟨A8, c8, rfl, hr8, _⟩ := hf8.form (by rw [hbl.out]; omega)
                replace h8 := h8.mono (Y := fun b => b < w.heap.size ∨ MayB mb G 37 b) fun b hb => .inl hb
                have hM8 := hM.kept (w' := w8) fun b hb => hK8.block b (.inr hb)
                have hB8 := hB.trans (hK8.below fun b hb => .inl hb)
                have hzz8 : Hid (∀ n, rdS s'.tick.tick 0 n = rdS sc 0 n) := Lib.hid fun n => hzz.out n
                have hcv := run_string_rd (P := Try.prog) w8 28 9 5 Try.underlying28 Try.underlying5 Try.underlying9 A8 bs.length c8 bs hr8 rfl
                rw [hbl.out]
                clear hct hf8 hK8 hM hD hB hzz hcv
                generalize s'.tick.tick = s8 at *
                have hln := hlen.out k
                have hcv0 : Hid (∀ W, Below w8.heap.size w8 W → (convert 28 9 (.slice A8 128 c8)).run Try.prog W = .ok (.string ⟨bs.toArray⟩) W) := Lib.hid fun W hW =>
                  run_string_rd (P := Try.prog) W 28 9 5 Try.underlying28 Try.underlying5 Try.underlying9 A8 128 c8 bs (hr8.below hW) hbl.out
                replace hg2 := Lib.hid hg2
                replace hM8 := Lib.hid hM8
                replace h8 := Lib.hid h8
                replace hr8 := Lib.hid hr8
                go_wp2_with fail
                go_loopw [22, 23] (fun p q wr => ∃ (i : Nat) (b : Bool), p = .bool b ∧ q = .int .i64 i ∧ i ≤ (L k).length ∧ Hid (b = ((L k).take i).contains bs) ∧ Below w8.heap.size w8 wr)
                  (fun p q _ => ((L k).length - intOf q).toNat)
                case atStart => exact ⟨0, false, rfl, by go_num, by omega, Lib.hid (by simp), by first | exact Below.refl _ _ | exact (Below.refl _ _).drew⟩
                case round =>
                  obtain ⟨i, b, rfl, rfl, hil, hbb, hbel⟩ := hrel
                  have hMw := hM8.out.below hbel
                  have hhd := hMw.head hlk
                  by_cases hi : i < (L k).length
                  · have hst := hMw.str hlk hi
                    have htk : (L k).take (i + 1) = (L k).take i ++ [(L k)[i]] := by rw [List.take_succ, List.getElem?_eq_getElem hi]; rfl
                    have hcw := hcv0.out _ hbel.drew
                    have hbw := hbel.drew
                    generalize (L k)[i] = x at *
                    replace hst : wr.cell? ⟨(G k).1, (G k).2.1 + i, none⟩ = some (.string ⟨x.toArray⟩) := hst
                    replace htk := Lib.hid htk
                    replace hMw := Lib.hid hMw
                    have hig : ((L k).length : Int) ≤ 501 := by omega
                    cases b with
                    | true =>
                      go_wp2_with fail
                      refine wp_region_held_drew (S := (fun W => W.cell? ⟨mb, k, none⟩ = some (.slice (some ⟨(G k).1, (G k).2.1, none⟩) (L k).length (G k).2.2) ∧ W.cell? ⟨(G k).1, (G k).2.1 + i, none⟩ = some (.string ⟨x.toArray⟩) ∧ (convert 28 9 (.slice A8 128 c8)).run Try.prog W = .ok (.string ⟨bs.toArray⟩) W)) (by kernel_rfl) ?_ (fun hHeld => ?_)
                      · (try dsimp only)
                        exact ⟨hhd, hst, hcw⟩
                      refine wpAnyH_take (i := 0) (oi := ⟨_, _, _, _, _, _⟩) (v := ?v50) rfl (by kernel_rfl) (by kernel_rfl) (by kernel_rfl) (fun _ _ _ h => h) (Or.inl ⟨by rfl, ?hy50⟩) (by assumption) ?rest50
                      case hy50 => (intro w hSw; (try dsimp only at hSw); go_simp; try with_reducible rfl)
                      (try simp only [Act.put, List.setIfInBounds_toArray, List.set_cons_zero, List.set_cons_succ])
                      refine wpAnyH_take (i := 1) (oi := ⟨_, _, _, _, _, _⟩) (v := ?v51) rfl (by kernel_rfl) (by kernel_rfl) (by kernel_rfl) (fun _ _ _ h => h) (Or.inl ⟨by rfl, ?hy51⟩) (by assumption) ?rest51
                      case hy51 => (intro w hSw; (try dsimp only at hSw); go_simp; try with_reducible rfl)
                      (try simp only [Act.put, List.setIfInBounds_toArray, List.set_cons_zero, List.set_cons_succ])
                      refine wpAnyH_take (i := 2) (oi := ⟨_, _, _, _, _, _⟩) (v := undef) rfl (by kernel_rfl) (by kernel_rfl) (by kernel_rfl) (fun _ _ _ h => h) (Or.inr ⟨by rfl, rfl⟩) (by assumption) ?_
                      (try simp only [Act.put, List.setIfInBounds_toArray, List.set_cons_zero, List.set_cons_succ])
                      refine wpAnyH_take (i := 3) (oi := ⟨_, _, _, _, _, _⟩) (v := undef) rfl (by kernel_rfl) (by kernel_rfl) (by kernel_rfl) (fun _ _ _ h => h) (Or.inr ⟨by rfl, rfl⟩) (by assumption) ?_
                      (try simp only [Act.put, List.setIfInBounds_toArray, List.set_cons_zero, List.set_cons_succ])
                      refine wpAnyH_take (i := 4) (oi := ⟨_, _, _, _, _, _⟩) (v := undef) rfl (by kernel_rfl) (by kernel_rfl) (by kernel_rfl) (fun _ _ _ h => h) (Or.inr ⟨by rfl, rfl⟩) (by assumption) ?_
                      (try simp only [Act.put, List.setIfInBounds_toArray, List.set_cons_zero, List.set_cons_succ])
                      refine wpAnyH_take (i := 5) (oi := ⟨_, _, _, _, _, _⟩) (v := undef) rfl (by kernel_rfl) (by kernel_rfl) (by kernel_rfl) (fun _ _ _ h => h) (Or.inr ⟨by rfl, rfl⟩) (by assumption) ?_
                      (try simp only [Act.put, List.setIfInBounds_toArray, List.set_cons_zero, List.set_cons_succ])
                      refine wpAnyH_take (i := 6) (oi := ⟨_, _, _, _, _, _⟩) (v := undef) rfl (by kernel_rfl) (by kernel_rfl) (by kernel_rfl) (fun _ _ _ h => h) (Or.inr ⟨by rfl, rfl⟩) (by assumption) ?_
                      (try simp only [Act.put, List.setIfInBounds_toArray, List.set_cons_zero, List.set_cons_succ])
                      refine wpAnyH_take (i := 7) (oi := ⟨_, _, _, _, _, _⟩) (v := undef) rfl (by kernel_rfl) (by kernel_rfl) (by kernel_rfl) (fun _ _ _ h => h) (Or.inr ⟨by rfl, rfl⟩) (by assumption) ?_
                      (try simp only [Act.put, List.setIfInBounds_toArray, List.set_cons_zero, List.set_cons_succ])
                      refine wpAnyH_take (i := 8) (oi := ⟨_, _, _, _, _, _⟩) (v := undef) rfl (by kernel_rfl) (by kernel_rfl) (by kernel_rfl) (fun _ _ _ h => h) (Or.inr ⟨by rfl, rfl⟩) (by assumption) ?_
                      (try simp only [Act.put, List.setIfInBounds_toArray, List.set_cons_zero, List.set_cons_succ])
                      refine wpAnyH_take (i := 9) (oi := ⟨_, _, _, _, _, _⟩) (v := undef) rfl (by kernel_rfl) (by kernel_rfl) (by kernel_rfl) (fun _ _ _ h => h) (Or.inr ⟨by rfl, rfl⟩) (by assumption) ?_
                      (try simp only [Act.put, List.setIfInBounds_toArray, List.set_cons_zero, List.set_cons_succ])
                      refine wpAnyH_take (i := 10) (oi := ⟨_, _, _, _, _, _⟩) (v := undef) rfl (by kernel_rfl) (by kernel_rfl) (by kernel_rfl) (fun _ _ _ h => h) (Or.inr ⟨by rfl, rfl⟩) (by assumption) ?_
                      (try simp only [Act.put, List.setIfInBounds_toArray, List.set_cons_zero, List.set_cons_succ])
                      refine wpAnyH_take (i := 11) (oi := ⟨_, _, _, _, _, _⟩) (v := undef) rfl (by kernel_rfl) (by kernel_rfl) (by kernel_rfl) (fun _ _ _ h => h) (Or.inr ⟨by rfl, rfl⟩) (by assumption) ?_
                      (try simp only [Act.put, List.setIfInBounds_toArray, List.set_cons_zero, List.set_cons_succ])
                      refine wpAnyH_take (i := 12) (oi := ⟨_, _, _, _, _, _⟩) (v := ?v62) rfl (by kernel_rfl) (by kernel_rfl) (by kernel_rfl) (fun _ _ _ h => h) (Or.inl ⟨by rfl, ?hy62⟩) (by assumption) ?rest62
                      case hy62 => (intro w hSw; (try dsimp only at hSw); go_simp; try with_reducible rfl)
                      (try simp only [Act.put, List.setIfInBounds_toArray, List.set_cons_zero, List.set_cons_succ])
                      refine wpAnyH_take (i := 13) (oi := ⟨_, _, _, _, _, _⟩) (v := ?v63) rfl (by kernel_rfl) (by kernel_rfl) (by kernel_rfl) (fun _ _ _ h => h) (Or.inl ⟨by rfl, ?hy63⟩) (by assumption) ?rest63
                      case hy63 => (intro w hSw; (try dsimp only at hSw); go_simp; try with_reducible rfl)
                      (try simp only [Act.put, List.setIfInBounds_toArray, List.set_cons_zero, List.set_cons_succ])
                      refine wpAnyH_done (by kernel_rfl) ?_ _
                      go_wp2
                      go_roundw
                      case rel => exact ⟨i + 1, _, rfl, by go_num, by omega, Lib.hid (by rw [htk.out, List.contains_append, ← hbb.out, List.contains_cons, List.contains_nil, Bool.or_false]; first | rfl | (rw [Bool.false_or]; rfl) | (rw [Bool.true_or]; rfl)), hbw⟩
                      case measure => simp [intOf]; omega
                    | false =>
                      go_wp2_with fail
                      refine wp_region_held_drew (S := (fun W => W.cell? ⟨mb, k, none⟩ = some (.slice (some ⟨(G k).1, (G k).2.1, none⟩) (L k).length (G k).2.2) ∧ W.cell? ⟨(G k).1, (G k).2.1 + i, none⟩ = some (.string ⟨x.toArray⟩) ∧ (convert 28 9 (.slice A8 128 c8)).run Try.prog W = .ok (.string ⟨bs.toArray⟩) W)) (by kernel_rfl) ?_ (fun hHeld => ?_)
                      · (try dsimp only)
                        exact ⟨hhd, hst, hcw⟩
                      refine wpAnyH_take (i := 0) (oi := ⟨_, _, _, _, _, _⟩) (v := ?v64) rfl (by kernel_rfl) (by kernel_rfl) (by kernel_rfl) (fun _ _ _ h => h) (Or.inl ⟨by rfl, ?hy64⟩) (by assumption) ?rest64
                      case hy64 => (intro w hSw; (try dsimp only at hSw); go_simp; try with_reducible rfl)
                      (try simp only [Act.put, List.setIfInBounds_toArray, List.set_cons_zero, List.set_cons_succ])
                      refine wpAnyH_take (i := 1) (oi := ⟨_, _, _, _, _, _⟩) (v := ?v65) rfl (by kernel_rfl) (by kernel_rfl) (by kernel_rfl) (fun _ _ _ h => h) (Or.inl ⟨by rfl, ?hy65⟩) (by assumption) ?rest65
                      case hy65 => (intro w hSw; (try dsimp only at hSw); go_simp; try with_reducible rfl)
                      (try simp only [Act.put, List.setIfInBounds_toArray, List.set_cons_zero, List.set_cons_succ])
                      refine wpAnyH_take (i := 2) (oi := ⟨_, _, _, _, _, _⟩) (v := ?v66) rfl (by kernel_rfl) (by kernel_rfl) (by kernel_rfl) (fun _ _ _ h => h) (Or.inl ⟨by rfl, ?hy66⟩) (by assumption) ?rest66
                      case hy66 => (intro w hSw; (try dsimp only at hSw); go_simp; try with_reducible rfl)
                      (try simp only [Act.put, List.setIfInBounds_toArray, List.set_cons_zero, List.set_cons_succ])
                      refine wpAnyH_take (i := 3) (oi := ⟨_, _, _, _, _, _⟩) (v := ?v67) rfl (by kernel_rfl) (by kernel_rfl) (by kernel_rfl) (fun _ _ _ h => h) (Or.inl ⟨by rfl, ?hy67⟩) (by assumption) ?rest67
                      case hy67 => (intro w hSw; (try dsimp only at hSw); go_simp; try with_reducible rfl)
                      (try simp only [Act.put, List.setIfInBounds_toArray, List.set_cons_zero, List.set_cons_succ])
                      refine wpAnyH_take (i := 4) (oi := ⟨_, _, _, _, _, _⟩) (v := ?v68) rfl (by kernel_rfl) (by kernel_rfl) (by kernel_rfl) (fun _ _ _ h => h) (Or.inl ⟨by rfl, ?hy68⟩) (by assumption) ?rest68
                      case hy68 => (intro w hSw; (try dsimp only at hSw); go_simp; try with_reducible rfl)
                      (try simp only [Act.put, List.setIfInBounds_toArray, List.set_cons_zero, List.set_cons_succ])
                      refine wpAnyH_take (i := 5) (oi := ⟨_, _, _, _, _, _⟩) (v := ?v69) rfl (by kernel_rfl) (by kernel_rfl) (by kernel_rfl) (fun _ _ _ h => h) (Or.inl ⟨by rfl, ?hy69⟩) (by assumption) ?rest69
                      case hy69 => (intro w hSw; (try dsimp only at hSw); go_simp; try with_reducible rfl)
                      (try simp only [Act.put, List.setIfInBounds_toArray, List.set_cons_zero, List.set_cons_succ])
                      refine wpAnyH_take (i := 6) (oi := ⟨_, _, _, _, _, _⟩) (v := ?v70) rfl (by kernel_rfl) (by kernel_rfl) (by kernel_rfl) (fun _ _ _ h => h) (Or.inl ⟨by rfl, ?hy70⟩) (by assumption) ?rest70
                      case hy70 => (intro w hSw; (try dsimp only at hSw); go_simp; try with_reducible rfl)
                      (try simp only [Act.put, List.setIfInBounds_toArray, List.set_cons_zero, List.set_cons_succ])
                      refine wpAnyH_take (i := 7) (oi := ⟨_, _, _, _, _, _⟩) (v := ?v71) rfl (by kernel_rfl) (by kernel_rfl) (by kernel_rfl) (fun _ _ _ h => h) (Or.inl ⟨by rfl, ?hy71⟩) (by assumption) ?rest71
                      case hy71 => (intro w hSw; (try dsimp only at hSw); go_simp; try with_reducible rfl)
                      (try simp only [Act.put, List.setIfInBounds_toArray, List.set_cons_zero, List.set_cons_succ])
                      refine wpAnyH_take (i := 8) (oi := ⟨_, _, _, _, _, _⟩) (v := ?v72) rfl (by kernel_rfl) (by kernel_rfl) (by kernel_rfl) (fun _ _ _ h => h) (Or.inl ⟨by rfl, ?hy72⟩) (by assumption) ?rest72
                      case hy72 => (intro w hSw; (try dsimp only at hSw); go_simp; try with_reducible rfl)
                      (try simp only [Act.put, List.setIfInBounds_toArray, List.set_cons_zero, List.set_cons_succ])
                      refine wpAnyH_take (i := 9) (oi := ⟨_, _, _, _, _, _⟩) (v := ?v73) rfl (by kernel_rfl) (by kernel_rfl) (by kernel_rfl) (fun _ _ _ h => h) (Or.inl ⟨by rfl, ?hy73⟩) (by assumption) ?rest73
                      case hy73 => (intro w hSw; (try dsimp only at hSw); go_simp; try with_reducible rfl)
                      (try simp only [Act.put, List.setIfInBounds_toArray, List.set_cons_zero, List.set_cons_succ])
                      refine wpAnyH_take (i := 10) (oi := ⟨_, _, _, _, _, _⟩) (v := ?v74) rfl (by kernel_rfl) (by kernel_rfl) (by kernel_rfl) (fun _ _ _ h => h) (Or.inl ⟨by rfl, ?hy74⟩) (by assumption) ?rest74
                      case hy74 => (intro w hSw; (try dsimp only at hSw); go_simp; try with_reducible rfl)
                      (try simp only [Act.put, List.setIfInBounds_toArray, List.set_cons_zero, List.set_cons_succ])
                      refine wpAnyH_take (i := 11) (oi := ⟨_, _, _, _, _, _⟩) (v := ?v75) rfl (by kernel_rfl) (by kernel_rfl) (by kernel_rfl) (fun _ _ _ h => h) (Or.inl ⟨by rfl, ?hy75⟩) (by assumption) ?rest75
                      case hy75 => (intro w hSw; (try dsimp only at hSw); go_simp; try with_reducible rfl)
                      (try simp only [Act.put, List.setIfInBounds_toArray, List.set_cons_zero, List.set_cons_succ])
                      refine wpAnyH_take (i := 12) (oi := ⟨_, _, _, _, _, _⟩) (v := ?v76) rfl (by kernel_rfl) (by kernel_rfl) (by kernel_rfl) (fun _ _ _ h => h) (Or.inl ⟨by rfl, ?hy76⟩) (by assumption) ?rest76
                      case hy76 => (intro w hSw; (try dsimp only at hSw); go_simp; try with_reducible rfl)
                      (try simp only [Act.put, List.setIfInBounds_toArray, List.set_cons_zero, List.set_cons_succ])
                      refine wpAnyH_take (i := 13) (oi := ⟨_, _, _, _, _, _⟩) (v := ?v77) rfl (by kernel_rfl) (by kernel_rfl) (by kernel_rfl) (fun _ _ _ h => h) (Or.inl ⟨by rfl, ?hy77⟩) (by assumption) ?rest77
                      case hy77 => (intro w hSw; (try dsimp only at hSw); go_simp; try with_reducible rfl)
                      (try simp only [Act.put, List.setIfInBounds_toArray, List.set_cons_zero, List.set_cons_succ])
                      refine wpAnyH_done (by kernel_rfl) ?_ _
                      go_wp2
                      go_roundw
                      case rel => exact ⟨i + 1, _, rfl, by go_num, by omega, Lib.hid (by rw [htk.out, List.contains_append, ← hbb.out, List.contains_cons, List.contains_nil, Bool.or_false]; first | rfl | (rw [Bool.false_or]; rfl) | (rw [Bool.true_or]; rfl)), hbw⟩
                      case measure => simp [intOf]; omega
                  · obtain rfl : i = (L k).length := by omega
                    have hbt : b = true := by rw [hbb.out, List.take_length]; simpa using hg2.out
                    subst hbt
                    have h8w := h8.out.below hbel
                    have hB8w := below_to hB8 hbel
                    clear hbb hcv0 hr8 h8 hM8 hB8 hbel
                    go_wp2
                    go_roundw
                    case rel => exact ⟨k + 1, s8, by go_num, by omega, hzz8, hMw, h8w, hB8w⟩
                    case measure => simp [intOf]; omega
              · obtain rfl : k = 37 := by omega
                clear hzz hM hD hgood
                go_wp2
                go_ret
                exact ⟨by simp, hB⟩
end Go.Proofs.Ytikfbhepnnbdoaa

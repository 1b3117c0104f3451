/-
  THE WALK over the shelf's Crash.
-/
import Derived.Test.YtikfbhepnnbdoaaShD
namespace Go.Proofs.Ytikfbhepnnbdoaa
set_option linter.all false
open Go.RowKit

/-- a slice of slices of numbers that reads as keep; none of its blocks is in B -/
structure KeepAt (w : World) (B : List Nat) (A : Option Addr) (keep : List (List Int)) : Prop where
  rows : ∃ vs : List Value, RdV w A vs ∧ vs.length = keep.length ∧ ∀ i (h : i < keep.length), ∃ Ai ci, vs[i]? = some (.slice Ai (keep[i]).length ci) ∧ RdV w Ai (intsV keep[i]) ∧ ∀ ad, Ai = some ad → 0 < (intsV keep[i]).length → ad.block ∉ B
  out : ∀ vs : List Value, vs.length = keep.length → ∀ ad, A = some ad → 0 < vs.length → ad.block ∉ B
theorem RdV.turns {w W : World} {B : List Nat} {A : Option Addr} {vs : List Value} (h : RdV w A vs) (hT : Turns B w W) (hB : ∀ ad, A = some ad → 0 < vs.length → ad.block ∉ B) : RdV W A vs :=
  ⟨h.1, h.2.1, fun ad e i hi => (World.cell?_of_block (hT.block _ (World.block_lt_of_cell? w _ (h.2.2 ad e i hi)) (by rw [add_block]; exact hB ad e (Nat.lt_of_le_of_lt (Nat.zero_le _) hi)))).trans (h.2.2 ad e i hi)⟩
theorem KeepAt.turns {w W : World} {B : List Nat} {A : Option Addr} {keep : List (List Int)} (h : KeepAt w B A keep) (hT : Turns B w W) : KeepAt W B A keep := by
  obtain ⟨⟨vs, h1, h2, h3⟩, h4⟩ := h
  refine ⟨⟨vs, h1.turns hT (h4 vs h2), h2, fun i hi => ?_⟩, h4⟩
  obtain ⟨Ai, ci, g1, g2, g3⟩ := h3 i hi
  exact ⟨Ai, ci, g1, g2.turns hT g3, g3⟩

def crashTo (keep : List (List Int)) (k : Nat) (s : ShM) : ShM := { s with left := 0, stops := false, disks := s.disks.mapIdx fun d x => if d < k then x.settle (keepsOf keep d) else x }
theorem crashTo_len (keep : List (List Int)) (k : Nat) (s : ShM) : (crashTo keep k s).disks.length = s.disks.length := by simp [crashTo]
theorem crashTo_disk (keep : List (List Int)) (k : Nat) (s : ShM) : (crashTo keep k s).disk k = s.disk k := by
  simp only [crashTo, ShM.disk, List.getD_eq_getElem?_getD, List.getElem?_mapIdx]
  cases s.disks[k]? <;> simp
theorem crashTo_zero (keep : List (List Int)) (s : ShM) : crashTo keep 0 s = { s with left := 0, stops := false } := by
  simp only [crashTo, Nat.not_lt_zero, if_false]
  congr 1
  apply List.ext_getElem?
  intro i
  simp only [List.getElem?_mapIdx]
  cases s.disks[i]? <;> rfl
theorem crashTo_all (keep : List (List Int)) (s : ShM) : crashTo keep s.disks.length s = s.crash keep := by
  simp only [crashTo, ShM.crash]
  congr 1
  apply List.ext_getElem?
  intro i
  simp only [List.getElem?_mapIdx]
  by_cases h : i < s.disks.length
  · simp [h]
  · rw [List.getElem?_eq_none (Nat.le_of_not_lt h)]
    rfl
theorem crashTo_succ (keep : List (List Int)) (k : Nat) (s : ShM) : crashTo keep (k + 1) s = (crashTo keep k s).setDisk k ((s.disk k).settle (keepsOf keep k)) := by
  simp only [crashTo, ShM.setDisk]
  congr 1
  apply List.ext_getElem?
  intro i
  simp only [List.getElem?_mapIdx, List.getElem?_set, List.length_mapIdx]
  by_cases hi : k = i
  · subst hi
    by_cases h : k < s.disks.length
    · simp [h, ShM.disk, List.getD_eq_getElem?_getD]
    · simp [List.getElem?_eq_none (Nat.le_of_not_lt h), h]
  · simp only [hi, if_false]
    cases s.disks[i]? with
    | none => rfl
    | some x =>
      simp only [Option.map_some, Option.some.injEq]
      by_cases h : i < k
      · simp [h, Nat.lt_succ_of_lt h]
      · have : ¬ i < k + 1 := by omega
        simp [h, this]

section
variable {w : World} {F : ShF} {s : ShM}
set_option maxHeartbeats 1000000 in
theorem sh_crash (hS : ShAt w F s) (KA : Option Addr) (kn kc : Nat) (keep : List (List Int)) (hK : KeepAt w F.blocks KA keep) (hkn : keep.length = kn) :
    Calls Try.prog 31 #[.pointer (some ⟨F.g, 0, none⟩), .slice KA kn kc] w fun e w' =>
      ∃ F', e = .returned (.tuple #[]) ∧ ShAt w' F' (s.crash keep) ∧ ShTo w F w' F' := by
  have h0 := hS.c0
  have h1 := hS.c1
  have h2 := hS.c2
  have hlt := hS.lt _ F.mem_g
  have hf0 := hS.frozen 0
  have hf1 := hS.frozen 1
  have hle17 := hS.ok.disks17
  go_enter Try.func31, Try.ntmps31
  go_wp2_with fail
  have hS0 := (hS.setLeft 0).setStops false
  have hT0 : Turns F.blocks w ((w.setCell ⟨F.g, 0, none⟩ (.int .i64 0)).setCell ⟨F.g, 1, none⟩ (.bool false)) := ((Turns.refl _ _).setCell F.mem_g _).setCell F.mem_g _
  have hS1 : ShAt ((w.setCell ⟨F.g, 0, none⟩ (.int .i64 0)).setCell ⟨F.g, 1, none⟩ (.bool false)) F (crashTo keep 0 s) := by
    rw [crashTo_zero]
    exact hS0
  have hlens : ∀ k, (crashTo keep k s).disks.length = s.disks.length := fun k => crashTo_len keep k s
  have hLen := Lib.hid hlens
  clear hS0 h0 h1 h2 hf0 hf1 hlens
  generalize (w.setCell ⟨F.g, 0, none⟩ (.int .i64 0)).setCell ⟨F.g, 1, none⟩ (.bool false) = w1 at *
  replace hkn := Lib.hid hkn
  have hHK := Lib.hid hK
  clear hK
  go_loopw [17] (fun p wr => ∃ (k : Nat) (G : ShF), k ≤ s.disks.length ∧ p = .int .i64 k ∧ ShAt wr G (crashTo keep k s) ∧ ShTo w F wr G)
    (fun p _ => (s.disks.length - intOf p).toNat)
  case atStart => exact ⟨0, F, by omega, by go_num, hS1, ShTo.same hT0⟩
  case round =>
    obtain ⟨k, G, hk, rfl, hSk, hTk⟩ := hrel
    have hGg := Lib.hid hTk.g.symm
    by_cases hlt2 : k < s.disks.length
    · have hkd : k < (crashTo keep k s).disks.length := by rw [hLen.out]; exact hlt2
      have hbn : wr.heap.size ∉ G.blocks := fun hm => by
        have := hSk.lt _ hm
        omega
      by_cases hkk : k < kn
      · have hkk' : k < keep.length := by rw [hkn.out]; exact hkk
        obtain ⟨vs, r1, r2, r3⟩ := hHK.out.rows
        obtain ⟨Ai, ci, hv1, hv2, hv3⟩ := r3 k hkk'
        obtain ⟨ad, rfl⟩ := r1.some_ (i := k) (by rw [r2]; exact hkk')
        have hc := (r1.turns hTk.turns (hHK.out.out vs r2)).cell k (by rw [r2]; exact hkk')
        have hv1' : vs[k]'(by rw [r2]; exact hkk') = .slice Ai (keep[k]).length ci := by
          rw [List.getElem?_eq_getElem (by rw [r2]; exact hkk')] at hv1
          injection hv1
        rw [hv1'] at hc
        have hkeepk : keepsOf keep k = fun i : Nat => (keep[k]).contains (i : Int) := by
          funext i
          simp only [keepsOf, List.getD_eq_getElem?_getD, List.getElem?_eq_getElem hkk', Option.getD_some]
        generalize keep[k] = xs at *
        replace hkeepk := Lib.hid hkeepk
        have hV2 := Lib.hid hv2
        have hV3 := Lib.hid hv3
        clear hv1 hv1' hv2 hv3 r1 r2 r3
        have hclt : (ad.add k).block < wr.heap.size := World.block_lt_of_cell? wr _ hc
        go_wp2_with fail
        have hX := hSk.alloc (.cells #[.slice Ai xs.length ci] 96)
        have hTX := hTk.then_ (Turns.alloc (Turns.refl G.blocks wr) (.cells #[.slice Ai xs.length ci] 96))
        have hcb := cell_of_row _ wr.heap.size 0 _ _ _ (heap_alloc_new wr (.cells #[.slice Ai xs.length ci] 96))
        have hbl : wr.heap.size < (wr.alloc (.cells #[.slice Ai xs.length ci] 96)).heap.size := by simp
        simp only [List.getElem?_toArray, List.getElem?_cons_zero] at hcb
        generalize wr.alloc (.cells #[.slice Ai xs.length ci] 96) = X at *
        generalize wr.heap.size = kb at *
        have hset := sh_settle2 hX k hkd (fun i : Nat => xs.contains (i : Int)) kb (fun W hW i _ => crash1 W kb Ai xs.length ci xs (i : Int)
          ((World.cell?_of_block (hW.block kb hbl hbn)).trans hcb) (hV2.out.turns (hTX.then_ hW).turns hV3.out) rfl)
        rw [← hkeepk.out, crashTo_disk, ← crashTo_succ, ← hGg.out] at hset
        refine hset.mono ?_
        rintro e w3 ⟨G', rfl, hS3, hT3⟩
        have hto : ShTo w F w3 G' := hTX.trans hT3
        go_wp2
        go_roundw
        case rel => exact ⟨k + 1, G', by omega, by go_num, hS3, hto⟩
        case measure => simp [intOf]; omega
      · have hkeepk : keepsOf keep k = fun i : Nat => ([] : List Int).contains (i : Int) := by
          funext i
          have : keep.length ≤ k := by rw [hkn.out]; omega
          simp only [keepsOf, List.getD_eq_getElem?_getD, List.getElem?_eq_none this, Option.getD_none]
        replace hkeepk := Lib.hid hkeepk
        go_wp2_with fail
        have hX := hSk.alloc (.cells #[.slice none 0 0] 96)
        have hTX := hTk.then_ (Turns.alloc (Turns.refl G.blocks wr) (.cells #[.slice none 0 0] 96))
        have hcb := cell_of_row _ wr.heap.size 0 _ _ _ (heap_alloc_new wr (.cells #[.slice none 0 0] 96))
        have hbl : wr.heap.size < (wr.alloc (.cells #[.slice none 0 0] 96)).heap.size := by simp
        simp only [List.getElem?_toArray, List.getElem?_cons_zero] at hcb
        generalize wr.alloc (.cells #[.slice none 0 0] 96) = X at *
        generalize wr.heap.size = kb at *
        have hset := sh_settle2 hX k hkd (fun i : Nat => ([] : List Int).contains (i : Int)) kb (fun W hW i _ => crash1 W kb none 0 0 [] (i : Int)
          ((World.cell?_of_block (hW.block kb hbl hbn)).trans hcb) (RdV.nil W) rfl)
        rw [← hkeepk.out, crashTo_disk, ← crashTo_succ, ← hGg.out] at hset
        refine hset.mono ?_
        rintro e w3 ⟨G', rfl, hS3, hT3⟩
        have hto : ShTo w F w3 G' := hTX.trans hT3
        go_wp2
        go_roundw
        case rel => exact ⟨k + 1, G', by omega, by go_num, hS3, hto⟩
        case measure => simp [intOf]; omega
    · have hkn2 : k = s.disks.length := by omega
      subst hkn2
      rw [crashTo_all] at hSk
      go_wp2
      go_end0
      exact ⟨G, rfl, hSk, hTk⟩
theorem sh_crash_nil (w : World) (v : Value) : Calls Try.prog 31 #[.pointer none, v] w fun e w' => e = .returned (.tuple #[]) ∧ w = w' := by
  go_enter Try.func31, Try.ntmps31
  go_wp2
  refine bodyPost_ret (results_none rfl _ _ _) rfl ?_
  exact ⟨rfl, rfl⟩
end
end Go.Proofs.Ytikfbhepnnbdoaa

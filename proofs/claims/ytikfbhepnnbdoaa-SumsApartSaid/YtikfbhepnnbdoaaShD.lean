/-
  THE WALKS over slices.Index, slices.Contains at numbers, the two closures, and the shelf's Flush.
-/
import Derived.Test.YtikfbhepnnbdoaaShC
namespace Go.Proofs.Ytikfbhepnnbdoaa
set_option linter.all false
open Go.RowKit

def intV (x : Int) : Value := .int .i64 x
def intsV (l : List Int) : List Value := l.map intV
theorem intsV_len (l : List Int) : (intsV l).length = l.length := by simp [intsV]

theorem int_cell {w : World} {ad : Addr} {xs : List Int} (h : RdV w (some ad) (intsV xs)) (i : Nat) (hi : i < xs.length) : w.cell? (ad.add i) = some (.int .i64 xs[i]) := by
  have := h.cell i (by rw [intsV_len]; exact hi)
  simpa [intsV, intV] using this

theorem sl_index (w : World) (A : Option Addr) (n c : Nat) (xs : List Int) (v : Int) (hr : RdV w A (intsV xs)) (hn : xs.length = n) :
    Calls Try.prog 58 #[.slice A n c, .int .i64 v] w fun e w' => (∃ r : Int, e = .returned (.int .i64 r) ∧ (decide (0 ≤ r) = xs.contains v)) ∧ w = w' := by
  subst hn
  have hle := hr.le
  rw [intsV_len] at hle
  have hnil : ∀ l : List Int, (∀ j (h : j < l.length), l[j] ≠ v) → l.contains v = false := by
    intro l h
    rw [Bool.eq_false_iff]
    intro hc
    rw [List.contains_iff_mem] at hc
    obtain ⟨j, hj, e⟩ := List.getElem_of_mem hc
    exact h j hj e
  replace hnil := Lib.hid hnil
  go_enter Try.func58, Try.ntmps58
  go_wp2_with fail
  go_loopw [8] (fun p wr => ∃ k : Nat, k ≤ xs.length ∧ p = .int .i64 k ∧ (∀ j (h : j < xs.length), j < k → xs[j] ≠ v) ∧ w = wr) (fun p _ => (xs.length - intOf p).toNat)
  case atStart => exact ⟨0, by omega, by go_num, fun j _ h => by omega, rfl⟩
  case round =>
    obtain ⟨k, hkn, rfl, hno, rfl⟩ := hrel
    replace hno := Lib.hid hno
    by_cases hlt : k < xs.length
    · obtain ⟨ad, rfl⟩ := hr.some_ (i := k) (by rw [intsV_len]; exact hlt)
      have hc := int_cell hr k hlt
      by_cases hx : xs[k] = v
      · have hin : xs.contains v = true := by rw [List.contains_iff_mem]; exact hx ▸ List.getElem_mem hlt
        rw [hx] at hc
        clear hx
        replace hin := Lib.hid hin
        go_wp2
        go_ret
        refine ⟨⟨_, rfl, ?_⟩, rfl⟩
        rw [hin.out]
        simp
      · have hno2 : ∀ j (h : j < xs.length), j < k + 1 → xs[j] ≠ v := fun j h hj => by
          by_cases hjk : j = k
          · subst hjk; exact hx
          · exact hno.out j h (by omega)
        have hb : (v == xs[k]) = false := beq_eq_false_iff_ne.2 (fun e => hx e.symm)
        generalize xs[k] = x at *
        replace hno2 := Lib.hid hno2
        clear hx
        go_wp2
        go_roundw
        case rel => exact ⟨k + 1, by omega, by go_num, hno2.out, trivial⟩
        case measure => simp [intOf]; omega
    · go_wp2
      go_ret
      refine ⟨⟨_, rfl, ?_⟩, rfl⟩
      rw [hnil.out xs (fun j h => hno.out j h (by omega))]
      simp

theorem sl_contains (w : World) (A : Option Addr) (n c : Nat) (xs : List Int) (v : Int) (hr : RdV w A (intsV xs)) (hn : xs.length = n) :
    Calls Try.prog 51 #[.slice A n c, .int .i64 v] w fun e w' => e = .returned (.bool (xs.contains v)) ∧ w = w' := by
  go_enter Try.func51, Try.ntmps51
  go_wp2_with fail
  refine (sl_index w A n c xs v hr hn).mono ?_
  rintro e w' ⟨⟨r, rfl, h2⟩, rfl⟩
  replace h2 := Lib.hid h2
  by_cases h : 0 ≤ r
  · go_wp2
    go_ret
    exact ⟨by rw [← h2.out]; simp <;> omega, rfl⟩
  · go_wp2
    go_ret
    exact ⟨by rw [← h2.out]; simp <;> omega, rfl⟩

theorem flush1 (w : World) (i : Int) : Calls Try.prog 55 #[.int .i64 i] w fun e w' => e = .returned (.bool true) ∧ w = w' := by
  go_enter Try.func55, Try.ntmps55
  go_wp2
  go_ret
  exact ⟨by simp, rfl⟩

theorem crash1 (w : World) (kb : Nat) (A : Option Addr) (n c : Nat) (xs : List Int) (i : Int) (hb : w.cell? ⟨kb, 0, none⟩ = some (.slice A n c)) (hr : RdV w A (intsV xs)) (hn : xs.length = n) :
    Calls Try.prog 50 #[.int .i64 i, .pointer (some ⟨kb, 0, none⟩)] w fun e w' => e = .returned (.bool (xs.contains i)) ∧ w = w' := by
  have hlt := World.block_lt_of_cell? w _ hb
  go_enter Try.func50, Try.ntmps50
  go_wp2_with fail
  refine (sl_contains w A n c xs i hr hn).mono ?_
  rintro e w' ⟨rfl, rfl⟩
  go_wp2
  go_ret
  exact ⟨by simp, rfl⟩

section
variable {w : World} {F : ShF} {s : ShM} {f : Nat → Nat → Nat}
theorem has0 (s : ShM) (d : Int) (h1 : 1 ≤ s.sectors) : s.has d 0 = decide (0 ≤ d ∧ d < s.disks.length) := by
  simp only [ShM.has]
  congr 1
  apply propext
  constructor <;> intro h <;> omega

set_option maxHeartbeats 1000000 in
theorem sh_flush (hS : ShAt w F s) (d : Int) :
    Calls Try.prog 42 #[.pointer (some ⟨F.g, 0, none⟩), .int .i64 d] w fun e w' =>
      ∃ F', e = .returned (.int .i64 (s.flushR d).1) ∧ ShAt w' F' (s.flushR d).2 ∧ ShTo w F w' F' ∧ ((s.flushR d).1 ≠ 0 → F' = F) := by
  have hhas := sh_has hS d 0
  have hlt := hS.lt _ F.mem_g
  by_cases hh : s.has d 0 = true
  · obtain ⟨⟨hd0, hd1⟩, _⟩ := has_of hh
    obtain ⟨d, rfl⟩ := Int.eq_ofNat_of_zero_le hd0
    have hd' : d < s.disks.length := by omega
    have hready := sh_ready hS d hd' true
    have hres : s.flushR d = (if s.why d = 0 then (0, (s.spend.tick).setDisk d ((s.disk d).settle fun _ => true)) else (s.why d, s)) := by
      simp [ShM.flushR, hh]
    rw [hres]
    rw [hh] at hhas
    by_cases hw : s.why d = 0
    · rw [if_pos hw]
      simp only [hw, true_and, if_true] at hready
      go_enter Try.func42, Try.ntmps42
      go_wp2_with fail
      refine hhas.mono ?_
      rintro e w' ⟨rfl, rfl⟩
      go_wp2_with fail
      refine hready.mono ?_
      rintro e w1 ⟨rfl, hS1, hT1⟩
      have hc4 := hS1.c4
      have hf4 := hS1.frozen 4
      go_wp2_with fail
      have hS2 := hS1.setCount (wrap64 (s.spend.count + 1))
      have hT2 := hT1.setCell (a := ⟨F.g, 4, none⟩) F.mem_g (.int .i64 (wrap64 (s.spend.count + 1)))
      have hs2 : { s.spend with count := wrap64 (s.spend.count + 1) } = s.spend.tick := rfl
      rw [hs2] at hS2
      have hdisks : s.spend.tick.disks = s.disks := by simp only [ShM.tick, ShM.spend]; split <;> rfl
      have hsn : seenF s = seenF s.spend.tick := by funext x y; simp only [seenF, ShM.disk, hdisks]
      have hdk : s.spend.tick.disk d = s.disk d := by simp only [ShM.disk, hdisks]
      rw [hsn] at hS2
      have hset := sh_settle1 hS2 d (by rw [hdisks]; exact hd') (fun _ => true) (fun W _ i _ => flush1 W i)
      rw [hdk] at hset
      refine hset.mono ?_
      rintro e w3 ⟨F', rfl, hS3, hT3⟩
      have hto : ShTo w F w3 F' := (ShTo.same hT2).trans hT3
      go_wp2
      go_ret
      exact ⟨F', by simp, hS3, hto, fun h => absurd rfl h⟩
    · rw [if_neg hw]
      simp only [hw, false_and, if_false] at hready
      have hb : (s.why d != 0) = true := by simpa using hw
      clear hres
      generalize s.why d = y at *
      go_enter Try.func42, Try.ntmps42
      go_wp2_with fail
      refine hhas.mono ?_
      rintro e w' ⟨rfl, rfl⟩
      go_wp2_with fail
      refine hready.mono ?_
      rintro e w1 ⟨rfl, hS1, hT1⟩
      go_wp2
      go_ret
      exact ⟨F, by simp, hS1, ShTo.same hT1, fun _ => rfl⟩
  · have hres : s.flushR d = (1, s) := by simp only [ShM.flushR, if_neg hh]
    rw [hres]
    have hs' : s.has d 0 = false := by simpa using hh
    rw [hs'] at hhas
    clear hh hres
    go_enter Try.func42, Try.ntmps42
    go_wp2_with fail
    refine hhas.mono ?_
    rintro e w' ⟨rfl, rfl⟩
    go_wp2
    go_ret
    exact ⟨F, by simp, hS, ShTo.refl _ _, fun _ => rfl⟩
theorem sh_flush_nil (w : World) (d : Int) : Calls Try.prog 42 #[.pointer none, .int .i64 d] w fun e w' => e = .returned (.int .i64 2) ∧ w = w' := by
  go_enter Try.func42, Try.ntmps42
  go_wp2
  go_ret
  exact ⟨by simp, rfl⟩
end
end Go.Proofs.Ytikfbhepnnbdoaa

/-
  THE WALKS over the small methods of the shelf: Off, has, ready, Waits, Size, Count, Dead, Kill, Stop.
-/
import Derived.Test.YtikfbhepnnbdoaaProg
import Derived.Test.YtikfbhepnnbdoaaShP
namespace Go.Proofs.Ytikfbhepnnbdoaa
set_option linter.all false
open Go.RowKit

section
variable {w : World} {F : ShF} {s : ShM} {f : Nat → Nat → Nat}

theorem sh_off (h : ShAtM w F s f) : Calls Try.prog 48 #[.pointer (some ⟨F.g, 0, none⟩)] w fun e w' => e = .returned (.bool s.off) ∧ w = w' := by
  have h0 := h.c0
  have h1 := h.c1
  have hlt := h.lt _ F.mem_g
  unfold ShM.off
  obtain ⟨l, st, ds, se, co⟩ := s
  clear h
  dsimp only at *
  go_enter Try.func48, Try.ntmps48
  cases st
  · go_wp2
    go_ret
    exact ⟨by simp, rfl⟩
  · by_cases hl : l = 0
    · subst hl
      go_wp2
      go_ret
      exact ⟨by simp, rfl⟩
    · have hb : (l == 0) = false := beq_eq_false_iff_ne.2 hl
      go_wp2
      go_ret
      exact ⟨by simp [hl], rfl⟩

theorem sh_off_nil (w : World) : Calls Try.prog 48 #[.pointer none] w fun e w' => e = .returned (.bool false) ∧ w = w' := by
  go_enter Try.func48, Try.ntmps48
  go_wp2
  go_ret
  exact ⟨by simp, rfl⟩

theorem sh_has (h : ShAtM w F s f) (d n : Int) : Calls Try.prog 43 #[.pointer (some ⟨F.g, 0, none⟩), .int .i64 d, .int .i64 n] w fun e w' => e = .returned (.bool (s.has d n)) ∧ w = w' := by
  have h2 := h.c2
  have h3 := h.c3
  have hlt := h.lt _ F.mem_g
  unfold ShM.has
  obtain ⟨l, st, ds, se, co⟩ := s
  clear h
  dsimp only at *
  generalize ds.length = m at *
  go_enter Try.func43, Try.ntmps43
  by_cases a1 : 0 ≤ d
  · by_cases a2 : d < m
    · by_cases a3 : 0 ≤ n
      · by_cases a4 : n < se
        · go_wp2
          go_ret
          exact ⟨by simp <;> omega, rfl⟩
        · go_wp2
          go_ret
          exact ⟨by simp <;> omega, rfl⟩
      · go_wp2
        go_ret
        exact ⟨by simp <;> omega, rfl⟩
    · go_wp2
      go_ret
      exact ⟨by simp <;> omega, rfl⟩
  · go_wp2
    go_ret
    exact ⟨by simp <;> omega, rfl⟩

theorem sh_ready (hS : ShAtM w F s f) (d : Nat) (hd : d < s.disks.length) (sp : Bool) :
    Calls Try.prog 44 #[.pointer (some ⟨F.g, 0, none⟩), .int .i64 d, .bool sp] w fun e w' =>
      e = .returned (.int .i64 (s.why d)) ∧ ShAtM w' F (if s.why d = 0 ∧ sp = true then s.spend else s) f ∧ Turns F.blocks w w' := by
  have h0 := hS.c0
  have h1 := hS.c1
  have h2 := hS.c2
  have hf0 := hS.frozen 0
  have hdd := hS.d2 hd
  have hlt := hS.lt _ F.mem_g
  have hgm := F.mem_g
  have hle17 := hS.ok.disks17
  have hoff := sh_off hS
  have hdk : s.disk d = s.disks[d] := by simp [ShM.disk, hd]
  unfold ShM.why
  rw [hdk]
  generalize hkd : (s.disks[d]).dead = dead at *
  generalize hso : s.off = off at *
  replace hso := Lib.hid hso
  replace hkd := Lib.hid hkd
  go_enter Try.func44, Try.ntmps44
  go_wp2_with fail
  refine hoff.mono ?_
  rintro e w' ⟨rfl, rfl⟩
  cases off
  · cases dead
    · cases sp
      · go_wp2
        go_ret
        exact ⟨by simp, by simpa using hS, Turns.refl _ _⟩
      · generalize hst : s.stops = st at *
        replace hst := Lib.hid hst
        cases st
        · go_wp2
          go_ret
          exact ⟨by simp, by simpa [ShM.spend, hst.out] using hS, Turns.refl _ _⟩
        · go_wp2
          go_ret
          refine ⟨by simp, ?_, (Turns.refl _ _).setCell hgm _⟩
          have := hS.setLeft (wrap64 (s.left - 1))
          simpa [ShM.spend, hst.out] using this
    · go_wp2
      go_ret
      exact ⟨by simp, by simpa using hS, Turns.refl _ _⟩
  · go_wp2
    go_ret
    exact ⟨by simp, by simpa using hS, Turns.refl _ _⟩

theorem sh_size (h : ShAtM w F s f) : Calls Try.prog 37 #[.pointer (some ⟨F.g, 0, none⟩)] w fun e w' => e = .returned (.tuple #[.int .i64 (s.disks.length : Nat), .int .i64 (s.sectors : Nat)]) ∧ Below w.heap.size w w' := by
  have h2 := h.c2
  have h3 := h.c3
  have hlt := h.lt _ F.mem_g
  go_enter Try.func37, Try.ntmps37
  go_wp2_with fail
  go_quiet (fail)
  go_wp2
  go_ret2
  exact ⟨by simp, below_drewN (Below.refl _ _) _⟩
theorem sh_size_nil (w : World) : Calls Try.prog 37 #[.pointer none] w fun e w' => e = .returned (.tuple #[.int .i64 0, .int .i64 0]) ∧ w = w' := by
  go_enter Try.func37, Try.ntmps37
  go_wp2
  go_ret2
  exact ⟨by simp, rfl⟩

theorem sh_dead (h : ShAtM w F s f) (d : Int) : Calls Try.prog 47 #[.pointer (some ⟨F.g, 0, none⟩), .int .i64 d] w fun e w' => e = .returned (.bool (s.deadR d)) ∧ w = w' := by
  have h2 := h.c2
  have hlt := h.lt _ F.mem_g
  have hle17 := h.ok.disks17
  have hhas := sh_has h d 0
  unfold ShM.deadR
  go_enter Try.func47, Try.ntmps47
  go_wp2_with fail
  refine hhas.mono ?_
  rintro e w' ⟨rfl, rfl⟩
  by_cases hh : s.has d 0 = true
  · have hd : 0 ≤ d ∧ d < s.disks.length := by
      simp only [ShM.has, decide_eq_true_eq] at hh
      omega
    obtain ⟨d, rfl⟩ := Int.eq_ofNat_of_zero_le hd.1
    have hd' : d < s.disks.length := by omega
    have h1 := h.d2 hd'
    have hdk : s.disk d = s.disks[d] := by simp [ShM.disk, hd']
    rw [hh]
    go_wp2
    go_ret
    exact ⟨by simp [hdk, hh], rfl⟩
  · have hh' : s.has d 0 = false := by simpa using hh
    rw [hh']
    go_wp2
    go_ret
    exact ⟨by simp [hh'], rfl⟩
theorem sh_dead_nil (w : World) (d : Int) : Calls Try.prog 47 #[.pointer none, .int .i64 d] w fun e w' => e = .returned (.bool false) ∧ w = w' := by
  go_enter Try.func47, Try.ntmps47
  go_wp2
  go_ret
  exact ⟨by simp, rfl⟩

theorem sh_stop (hS : ShAtM w F s f) (n : Int) : Calls Try.prog 30 #[.pointer (some ⟨F.g, 0, none⟩), .int .i64 n] w fun e w' =>
    e = .returned (.tuple #[]) ∧ ShAtM w' F (s.stop n) f ∧ Turns F.blocks w w' := by
  have h0 := hS.c0
  have h1 := hS.c1
  have hlt := hS.lt _ F.mem_g
  have hf0 := hS.frozen 0
  have hf1 := hS.frozen 1
  have hoff := sh_off hS
  unfold ShM.stop
  go_enter Try.func30, Try.ntmps30
  go_wp2_with fail
  refine hoff.mono ?_
  rintro e w' ⟨rfl, rfl⟩
  by_cases hh : s.off = true
  · rw [hh]
    go_wp2
    go_end0
    exact ⟨by simp, by simpa using hS, Turns.refl _ _⟩
  · have hh' : s.off = false := by simpa using hh
    rw [hh']
    by_cases hn : 0 ≤ n
    · go_wp2_with fail
      go_end0
      refine ⟨by simp, ?_, ((Turns.refl _ _).setCell F.mem_g _).setCell F.mem_g _⟩
      have := (hS.setLeft n).setStops true
      rw [show max n 0 = n from by omega]
      exact this
    · go_wp2_with fail
      go_end0
      refine ⟨by simp, ?_, ((Turns.refl _ _).setCell F.mem_g _).setCell F.mem_g _⟩
      have := (hS.setLeft 0).setStops false
      rw [show max n 0 = 0 from by omega, show decide (0 ≤ n) = false from by simp; omega]
      exact this
theorem sh_stop_nil (w : World) (n : Int) : Calls Try.prog 30 #[.pointer none, .int .i64 n] w fun e w' => e = .returned (.tuple #[]) ∧ w = w' := by
  go_enter Try.func30, Try.ntmps30
  go_wp2
  go_end0
  exact ⟨by simp, rfl⟩
end
end Go.Proofs.Ytikfbhepnnbdoaa

/-
  The shelf's contracts as a law uses them: where it lies is hidden; all its blocks lie at base or beyond.
-/
import Derived.Test.YtikfbhepnnbdoaaShV
namespace Go.Proofs.Ytikfbhepnnbdoaa
set_option linter.all false
open Go.RowKit

def Sh (base g : Nat) (w : World) (s : ShM) : Prop := base ≤ w.heap.size ∧ ∃ F, ShAt w F s ∧ F.g = g ∧ ∀ b ∈ F.blocks, base ≤ b
theorem Sh.ok {base g : Nat} {w : World} {s : ShM} (h : Sh base g w s) : s.Ok := h.2.choose_spec.1.ok
theorem Sh.size {base g : Nat} {w : World} {s : ShM} (h : Sh base g w s) : base ≤ w.heap.size := h.1
theorem Sh.below {base g : Nat} {w w' : World} {s : ShM} (h : Sh base g w s) (hb : Below w.heap.size w w') : Sh base g w' s := by
  obtain ⟨h0, F, h1, h2, h3⟩ := h
  exact ⟨Nat.le_trans h0 hb.size, F, h1.below hb, h2, h3⟩
theorem Sh.drew {base g : Nat} {w : World} {s : ShM} (h : Sh base g w s) : Sh base g w.drew s := h.below (Below.refl _ _).drew
theorem Sh.drewN {base g : Nat} {w : World} {s : ShM} (h : Sh base g w s) (n : Nat) : Sh base g (w.drewN n) s := h.below (below_drewN (Below.refl _ _) n)
theorem Sh.alloc {base g : Nat} {w : World} {s : ShM} (h : Sh base g w s) (o : Obj) : Sh base g (w.alloc o) s := h.below ((Below.refl _ _).alloc (Nat.le_refl _) _)

/-- a slice of slices of numbers below base -/
def KeepL (w : World) (base : Nat) (A : Option Addr) (keep : List (List Int)) : Prop := ∀ B : List Nat, (∀ b ∈ B, base ≤ b) → KeepAt w B A keep
theorem KeepL.nil (w : World) (base : Nat) : KeepL w base none [] := fun _ _ => ⟨⟨[], RdV.nil w, rfl, fun i h => absurd h (by simp)⟩, fun _ _ _ e => by cases e⟩
theorem KeepL.below {w w' : World} {base : Nat} {A : Option Addr} {keep : List (List Int)} (h : KeepL w base A keep) (hb : Below base w w') (hs : base ≤ w.heap.size) : KeepL w' base A keep := by
  intro B hB
  -- everything at base or beyond may have turned
  obtain ⟨⟨vs, h1, h2, h3⟩, h4⟩ := h ((List.range (w'.heap.size + 1)).map (· + base) ++ B) (fun b hb => by
    rcases List.mem_append.1 hb with hb | hb
    · obtain ⟨x, _, rfl⟩ := List.mem_map.1 hb
      exact Nat.le_add_left _ _
    · exact hB b hb)
  have hlow : ∀ (A : Option Addr) (us : List Value), RdV w A us → (∀ ad, A = some ad → 0 < us.length → ad.block ∉ (List.range (w'.heap.size + 1)).map (· + base) ++ B) → RdV w' A us := by
    intro A us hr ho
    refine ⟨hr.1, hr.2.1, fun ad e i hi => ?_⟩
    have hc := hr.2.2 ad e i hi
    have hlt := World.block_lt_of_cell? w _ hc
    rw [add_block] at hlt
    have hn := ho ad e (Nat.lt_of_le_of_lt (Nat.zero_le _) hi)
    have hlb : ad.block < base := by
      rcases Nat.lt_or_ge ad.block base with h | h
      · exact h
      · exfalso
        apply hn
        refine List.mem_append.2 (.inl (List.mem_map.2 ⟨ad.block - base, List.mem_range.2 ?_, by omega⟩))
        have := hb.size
        omega
    exact (hb.cell (p := ad.add i) (by rw [add_block]; exact hlb)).trans hc
  refine ⟨⟨vs, hlow A vs h1 (h4 vs h2), h2, fun i hi => ?_⟩, fun us hu ad e h0 hm => h4 us hu ad e h0 (List.mem_append.2 (.inr hm))⟩
  obtain ⟨Ai, ci, g1, g2, g3⟩ := h3 i hi
  exact ⟨Ai, ci, g1, hlow Ai _ g2 g3, fun ad e h0 hm => g3 ad e h0 (List.mem_append.2 (.inr hm))⟩

section
variable {base g : Nat} {w w1 : World} {s s' : ShM}

theorem lw_new (w : World) (d n : Nat) (h1 : 1 ≤ d) (h17 : d ≤ 17) (n1 : 1 ≤ n) (n4 : n ≤ 4096) :
    Calls Try.prog 18 #[.int .i64 d, .int .i64 n] w fun e w' =>
      ∃ g, e = .returned (.tuple #[.pointer (some ⟨g, 0, none⟩), .int .i64 0]) ∧ Sh w.heap.size g w' (freshSh d n) ∧ Below w.heap.size w w' := by
  refine (sh_new w d n h1 h17 n1 n4).mono ?_
  rintro e w' ⟨F, h1, h2, h3, h4⟩
  exact ⟨F.g, h1, ⟨h3.size, F, h2, rfl, h4⟩, h3⟩

theorem lw_write (hS : Sh base g w1 s) (hb : Below w1.heap.size w1 w) (d n : Int) (A : Option Addr) (m c : Nat) (bs : Bytes) (E : Nat) (ho : Own w E w1.heap.size (.slice A m c) bs) (hm : bs.length = m) (hroom : (s.disk d.toNat).waits.length ≤ 1000000000000) :
    Calls Try.prog 25 #[.pointer (some ⟨g, 0, none⟩), .int .i64 d, .int .i64 n, .slice A m c] w fun e w' =>
      e = .returned (.int .i64 (s.writeR d n bs).1) ∧ Sh base g w' (s.writeR d n bs).2 ∧ Below base w1 w' := by
  obtain ⟨h0, F, h1, rfl, h3⟩ := hS
  have hout : ∀ ad, A = some ad → ad.block ∉ F.blocks := by
    intro ad e hm
    obtain ⟨A', c', hv, _, h2⟩ := ho.form
    injection hv with e1
    subst e1
    obtain ⟨x, rfl, h4, _⟩ := h2 ad e
    have h5 := h1.lt _ hm
    have h6 : w1.heap.size ≤ x := h4
    exact absurd h5 (Nat.not_lt_of_ge h6)
  refine (sh_write (h1.below hb) d n A m c bs ho.rd hm hout hroom).mono ?_
  rintro e w' ⟨F', r1, r2, r3, _⟩
  have hb' := hb.mono h0
  obtain ⟨r4, r5⟩ := r3.base h3 (Nat.le_trans h0 hb.size)
  exact ⟨r1, ⟨Nat.le_trans (Nat.le_trans h0 hb.size) r4.size, F', r2, r3.g, r5⟩, hb'.trans r4⟩

theorem lw_flush (hS : Sh base g w s) (d : Int) : Calls Try.prog 42 #[.pointer (some ⟨g, 0, none⟩), .int .i64 d] w fun e w' =>
      e = .returned (.int .i64 (s.flushR d).1) ∧ Sh base g w' (s.flushR d).2 ∧ Below base w w' := by
  obtain ⟨h0, F, h1, rfl, h3⟩ := hS
  refine (sh_flush h1 d).mono ?_
  rintro e w' ⟨F', r1, r2, r3, _⟩
  obtain ⟨r4, r5⟩ := r3.base h3 h0
  exact ⟨r1, ⟨Nat.le_trans h0 r4.size, F', r2, r3.g, r5⟩, r4⟩

theorem lw_crash (hS : Sh base g w s) (KA : Option Addr) (kn kc : Nat) (keep : List (List Int)) (hK : KeepL w base KA keep) (hkn : keep.length = kn) :
    Calls Try.prog 31 #[.pointer (some ⟨g, 0, none⟩), .slice KA kn kc] w fun e w' =>
      e = .returned (.tuple #[]) ∧ Sh base g w' (s.crash keep) ∧ Below base w w' := by
  obtain ⟨h0, F, h1, rfl, h3⟩ := hS
  refine (sh_crash h1 KA kn kc keep (hK F.blocks h3) hkn).mono ?_
  rintro e w' ⟨F', r1, r2, r3⟩
  obtain ⟨r4, r5⟩ := r3.base h3 h0
  exact ⟨r1, ⟨Nat.le_trans h0 r4.size, F', r2, r3.g, r5⟩, r4⟩
theorem lw_crash_new (hS : Sh base g w1 s) (hb : Below w1.heap.size w1 w) (KA : Option Addr) (kn kc : Nat) (keep : List (List Int)) (hK : ∀ B : List Nat, (∀ b ∈ B, b < w1.heap.size) → KeepAt w B KA keep) (hkn : keep.length = kn) :
    Calls Try.prog 31 #[.pointer (some ⟨g, 0, none⟩), .slice KA kn kc] w fun e w' =>
      e = .returned (.tuple #[]) ∧ Sh base g w' (s.crash keep) ∧ Below base w1 w' := by
  obtain ⟨h0, F, h1, rfl, h3⟩ := hS
  refine (sh_crash (h1.below hb) KA kn kc keep (hK F.blocks h1.lt) hkn).mono ?_
  rintro e w' ⟨F', r1, r2, r3⟩
  obtain ⟨r4, r5⟩ := r3.base h3 (Nat.le_trans h0 hb.size)
  exact ⟨r1, ⟨Nat.le_trans (Nat.le_trans h0 hb.size) r4.size, F', r2, r3.g, r5⟩, (hb.mono h0).trans r4⟩

theorem Sh.same {F : ShF} {w' : World} {s' : ShM} (h0 : base ≤ w.heap.size) (h3 : ∀ b ∈ F.blocks, base ≤ b) (h : ShAt w' F s') (hT : Turns F.blocks w w') : Sh base F.g w' s' ∧ Below base w w' :=
  ⟨⟨Nat.le_trans h0 hT.size, F, h, rfl, h3⟩, hT.below h3 h0⟩

theorem lw_read (hS : Sh base g w s) (d n : Int) (hroom : (s.disk d.toNat).waits.length ≤ 1000000000000) :
    Calls Try.prog 24 #[.pointer (some ⟨g, 0, none⟩), .int .i64 d, .int .i64 n] w fun e w' =>
      ∃ v, e = .returned (.tuple #[v, .int .i64 (s.readR d n).2.1]) ∧ Fresh w w' v (s.readR d n).1 ∧ Sh base g w' (s.readR d n).2.2 ∧ Below base w w' := by
  obtain ⟨h0, F, h1, rfl, h3⟩ := hS
  refine (sh_read h1 d n hroom).mono ?_
  rintro e w' ⟨v, r1, r2, r3, r4⟩
  obtain ⟨r5, r6⟩ := Sh.same h0 h3 r3 r4
  exact ⟨v, r1, r2, r5, r6⟩
/-- two reads, one behind the other -/
theorem lw_read2 (hS : Sh base g w s) (d n : Int) (hroom : (s.disk d.toNat).waits.length ≤ 1000000000000) :
    Calls Try.prog 24 #[.pointer (some ⟨g, 0, none⟩), .int .i64 d, .int .i64 n] w fun e w' =>
      ∃ v F, e = .returned (.tuple #[v, .int .i64 (s.readR d n).2.1]) ∧ Fresh w w' v (s.readR d n).1 ∧ Sh base g w' (s.readR d n).2.2 ∧ Below base w w' ∧
        (ShAt w' F (s.readR d n).2.2 ∧ F.g = g ∧ (∀ b ∈ F.blocks, base ≤ b) ∧ ∀ b ∈ F.blocks, b < w.heap.size) := by
  obtain ⟨h0, F, h1, rfl, h3⟩ := hS
  refine (sh_read h1 d n hroom).mono ?_
  rintro e w' ⟨v, r1, r2, r3, r4⟩
  obtain ⟨r5, r6⟩ := Sh.same h0 h3 r3 r4
  exact ⟨v, F, r1, r2, r5, r6, r3, rfl, h3, h1.lt⟩
theorem Fresh.turns {v0 w w' : World} {F : ShF} {u : Value} {bs : Bytes} (hu : Fresh v0 w u bs) (hlt : ∀ b ∈ F.blocks, b < v0.heap.size) (hT : Turns F.blocks w w') : Fresh v0 w' u bs := by
  obtain ⟨A, c, rfl, hA⟩ := hu
  refine ⟨A, c, rfl, ?_⟩
  rcases hA with hA | ⟨x, rfl, hx, hr⟩
  · exact .inl hA
  · refine .inr ⟨x, rfl, hx, hr.of_block (hT.block x hr.lt fun hm => ?_)⟩
    have := hlt x hm
    omega
theorem lw_corrupt (hS : Sh base g w s) (d n a : Int) (b : UInt8) : Calls Try.prog 29 #[.pointer (some ⟨g, 0, none⟩), .int .i64 d, .int .i64 n, .int .i64 a, .int .u8 (b.toNat : Int)] w fun e w' =>
      e = .returned (.int .i64 (s.corruptR d n a b).1) ∧ Sh base g w' (s.corruptR d n a b).2 ∧ Below base w w' := by
  obtain ⟨h0, F, h1, rfl, h3⟩ := hS
  refine (sh_corrupt h1 d n a b).mono ?_
  rintro e w' ⟨r1, r3, r4⟩
  obtain ⟨r5, r6⟩ := Sh.same h0 h3 r3 r4
  exact ⟨r1, r5, r6⟩
theorem lw_stop (hS : Sh base g w s) (n : Int) : Calls Try.prog 30 #[.pointer (some ⟨g, 0, none⟩), .int .i64 n] w fun e w' =>
      e = .returned (.tuple #[]) ∧ Sh base g w' (s.stop n) ∧ Below base w w' := by
  obtain ⟨h0, F, h1, rfl, h3⟩ := hS
  refine (sh_stop h1 n).mono ?_
  rintro e w' ⟨r1, r3, r4⟩
  have hsn : seenF s = seenF (s.stop n) := by
    simp only [ShM.stop]
    split <;> rfl
  rw [hsn] at r3
  obtain ⟨r5, r6⟩ := Sh.same h0 h3 r3 r4
  exact ⟨r1, r5, r6⟩
theorem lw_off (hS : Sh base g w s) : Calls Try.prog 48 #[.pointer (some ⟨g, 0, none⟩)] w fun e w' => e = .returned (.bool s.off) ∧ w = w' := by
  obtain ⟨h0, F, h1, rfl, h3⟩ := hS
  exact sh_off h1
theorem lw_dead (hS : Sh base g w s) (d : Int) : Calls Try.prog 47 #[.pointer (some ⟨g, 0, none⟩), .int .i64 d] w fun e w' => e = .returned (.bool (s.deadR d)) ∧ w = w' := by
  obtain ⟨h0, F, h1, rfl, h3⟩ := hS
  exact sh_dead h1 d
theorem lw_size (hS : Sh base g w s) : Calls Try.prog 37 #[.pointer (some ⟨g, 0, none⟩)] w fun e w' => e = .returned (.tuple #[.int .i64 (s.disks.length : Nat), .int .i64 (s.sectors : Nat)]) ∧ Below w.heap.size w w' := by
  obtain ⟨h0, F, h1, rfl, h3⟩ := hS
  exact sh_size h1
end
end Go.Proofs.Ytikfbhepnnbdoaa

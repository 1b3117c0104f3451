/-
  The shelf's contracts beside blocks of others: whatever lies in X stays.
-/
import Derived.Test.YtikfbhepnnbdoaaShW
import Derived.Test.YtikfbhepnnbdoaaShS
namespace Go.Proofs.Ytikfbhepnnbdoaa
set_option linter.all false
open Go.RowKit

/-- the blocks in X stay, and the outer world -/
structure Kept (X : Nat → Prop) (w w' : World) : Prop where
  os : w'.os = w.os
  tape : w'.tape = w.tape
  output : w'.output = w.output
  size : w.heap.size ≤ w'.heap.size
  block : ∀ k, X k → w'.heap[k]? = w.heap[k]?
theorem Kept.refl (X : Nat → Prop) (w : World) : Kept X w w := ⟨rfl, rfl, rfl, Nat.le_refl _, fun _ _ => rfl⟩
theorem Kept.trans {X : Nat → Prop} {a b c : World} (h : Kept X a b) (k : Kept X b c) : Kept X a c :=
  ⟨k.os.trans h.os, k.tape.trans h.tape, k.output.trans h.output, Nat.le_trans h.size k.size, fun i hi => (k.block i hi).trans (h.block i hi)⟩
theorem Kept.drew (X : Nat → Prop) (w : World) : Kept X w w.drew := ⟨rfl, rfl, rfl, Nat.le_refl _, fun _ _ => rfl⟩
theorem Kept.mono {X Y : Nat → Prop} {w w' : World} (h : Kept X w w') (hY : ∀ b, Y b → X b) : Kept Y w w' := ⟨h.os, h.tape, h.output, h.size, fun k hk => h.block k (hY k hk)⟩
theorem Kept.below {X : Nat → Prop} {w w' : World} (h : Kept X w w') {base : Nat} (hb : ∀ b, b < base → X b) : Below base w w' := ⟨h.os, h.tape, h.output, h.size, fun k hk => h.block k (hb k hk)⟩
theorem Kept.of_below {X : Nat → Prop} {w w' : World} (h : Below w.heap.size w w') (hX : ∀ b, X b → b < w.heap.size) : Kept X w w' := ⟨h.os, h.tape, h.output, h.size, fun k hk => h.block k (hX k hk)⟩
theorem Turns.kept {B : List Nat} {w w' : World} {X : Nat → Prop} (h : Turns B w w') (hX : ∀ b, X b → b < w.heap.size) (hB : ∀ b ∈ B, ¬ X b) : Kept X w w' :=
  ⟨h.os, h.tape, h.output, h.size, fun k hk => h.block k (hX k hk) fun hm => hB k hm hk⟩
theorem Kept.rd {X : Nat → Prop} {w w' : World} (h : Kept X w w') {A : Option Addr} {bs : List UInt8} (hr : Rd w A bs) (hX : ∀ ad, A = some ad → X ad.block) : Rd w' A bs :=
  ⟨hr.1, hr.2.1, fun ad e i hi => (World.cell?_of_block (h.block _ (by rw [add_block]; exact hX ad e))).trans (hr.2.2 ad e i hi)⟩

def ShX (X : Nat → Prop) (g : Nat) (w : World) (s : ShM) : Prop := (∀ b, X b → b < w.heap.size) ∧ ∃ F, ShAt w F s ∧ F.g = g ∧ ∀ b ∈ F.blocks, ¬ X b
section
variable {X Y : Nat → Prop} {base g : Nat} {w w1 w' : World} {s s' : ShM}
theorem ShX.lt (h : ShX X g w s) : ∀ b, X b → b < w.heap.size := h.1
theorem ShX.ok (h : ShX X g w s) : s.Ok := h.2.choose_spec.1.ok
theorem ShX.mono (h : ShX X g w s) (hY : ∀ b, Y b → X b) : ShX Y g w s := by
  obtain ⟨h0, F, h1, h2, h3⟩ := h
  exact ⟨fun b hb => h0 b (hY b hb), F, h1, h2, fun b hb hy => h3 b hb (hY b hy)⟩
/-- others' blocks may turn, and new ones may come -/
theorem ShX.other (h : ShX X g w s) (hs : w.heap.size ≤ w'.heap.size) (hb : ∀ b, b < w.heap.size → ¬ X b → w'.heap[b]? = w.heap[b]?) : ShX X g w' s := by
  obtain ⟨h0, F, h1, h2, h3⟩ := h
  exact ⟨fun b hX => Nat.lt_of_lt_of_le (h0 b hX) hs, F, h1.of_blocks fun b hm => hb b (h1.lt b hm) (h3 b hm), h2, h3⟩
/-- .. and X may take up what came since -/
theorem ShX.more (h : ShX X g w s) (hs : w.heap.size ≤ w'.heap.size) (hb : ∀ b, b < w.heap.size → ¬ X b → w'.heap[b]? = w.heap[b]?) (hY : ∀ b, Y b → b < w'.heap.size ∧ (X b ∨ w.heap.size ≤ b)) : ShX Y g w' s := by
  obtain ⟨h0, F, h1, h2, h3⟩ := h
  refine ⟨fun b hy => (hY b hy).1, F, h1.of_blocks fun b hm => hb b (h1.lt b hm) (h3 b hm), h2, fun b hm hy => ?_⟩
  rcases (hY b hy).2 with hx | hx
  · exact h3 b hm hx
  · have := h1.lt b hm
    omega
theorem ShX.below (h : ShX X g w s) (hb : Below w.heap.size w w') : ShX X g w' s := h.other hb.size fun b hlt _ => hb.block b hlt
theorem ShX.drew (h : ShX X g w s) : ShX X g w.drew s := h.below (Below.refl _ _).drew
theorem ShX.alloc (h : ShX X g w s) (o : Obj) : ShX X g (w.alloc o) s := h.below ((Below.refl _ _).alloc (Nat.le_refl _) _)
theorem ShX.of_sh (h : Sh base g w s) : ShX (· < base) g w s := by
  obtain ⟨h0, F, h1, h2, h3⟩ := h
  exact ⟨fun b hb => Nat.lt_of_lt_of_le hb h0, F, h1, h2, fun b hb hx => by have := h3 b hb; omega⟩
theorem ShX.sh (h : ShX X g w s) (hX : ∀ b, b < base → X b) (h0 : base ≤ w.heap.size) : Sh base g w s := by
  obtain ⟨_, F, h1, h2, h3⟩ := h
  refine ⟨h0, F, h1, h2, fun b hb => ?_⟩
  rcases Nat.lt_or_ge b base with hl | hl
  · exact absurd (hX b hl) (h3 b hb)
  · exact hl
/-- what a call leaves -/
theorem ShX.to {F F' : ShF} (h0 : ∀ b, X b → b < w.heap.size) (h3 : ∀ b ∈ F.blocks, ¬ X b) (h : ShAt w' F' s') (hT : ShTo w F w' F') : ShX X F.g w' s' ∧ Kept X w w' := by
  refine ⟨⟨fun b hb => Nat.lt_of_lt_of_le (h0 b hb) hT.turns.size, F', h, hT.g, fun b hb hx => ?_⟩, hT.turns.kept h0 h3⟩
  rcases hT.news b hb with h1 | h1
  · exact h3 b h1 hx
  · have := h0 b hx
    omega

theorem lx_new (hX : ∀ b, X b → b < w.heap.size) (d n : Nat) (h1 : 1 ≤ d) (h17 : d ≤ 17) (n1 : 1 ≤ n) (n4 : n ≤ 4096) :
    Calls Try.prog 18 #[.int .i64 d, .int .i64 n] w fun e w' =>
      ∃ g, e = .returned (.tuple #[.pointer (some ⟨g, 0, none⟩), .int .i64 0]) ∧ ShX X g w' (freshSh d n) ∧ Below w.heap.size w w' := by
  refine (sh_new w d n h1 h17 n1 n4).mono ?_
  rintro e w' ⟨F, h1, h2, h3, h4⟩
  exact ⟨F.g, h1, ⟨fun b hb => Nat.lt_of_lt_of_le (hX b hb) h3.size, F, h2, rfl, fun b hb hx => by have := h4 b hb; have := hX b hx; omega⟩, h3⟩
theorem lx_write (hS : ShX X g w1 s) (hb : Below w1.heap.size w1 w) (d n : Int) (A : Option Addr) (m c : Nat) (bs : Bytes) (E : Nat) (ho : Own w E w1.heap.size (.slice A m c) bs) (hm : bs.length = m) (hroom : (s.disk d.toNat).waits.length ≤ 1000000000000) :
    Calls Try.prog 25 #[.pointer (some ⟨g, 0, none⟩), .int .i64 d, .int .i64 n, .slice A m c] w fun e w' =>
      e = .returned (.int .i64 (s.writeR d n bs).1) ∧ ShX X g w' (s.writeR d n bs).2 ∧ Kept X w1 w' := by
  obtain ⟨h0, F, h1, rfl, h3⟩ := hS
  have hout : ∀ ad, A = some ad → ad.block ∉ F.blocks := by
    intro ad e hm
    obtain ⟨A', c', hv, _, h2⟩ := ho.form
    injection hv with e1
    subst e1
    obtain ⟨x, rfl, h4, _⟩ := h2 ad e
    have h5 := h1.lt _ hm
    have h6 : w1.heap.size ≤ x := h4
    exact absurd h5 (Nat.not_lt_of_ge h6)
  refine (sh_write (h1.below hb) d n A m c bs ho.rd hm hout hroom).mono ?_
  rintro e w' ⟨F', r1, r2, r3, _⟩
  obtain ⟨r4, r5⟩ := ShX.to (fun b hx => Nat.lt_of_lt_of_le (h0 b hx) hb.size) h3 r2 r3
  exact ⟨r1, r4, (Kept.of_below hb h0).trans r5⟩
/-- .. of whatever lies in X -/
theorem lx_write_in (hS : ShX X g w s) (d n : Int) (A : Option Addr) (m c : Nat) (bs : Bytes) (hr : Rd w A bs) (hA : ∀ ad, A = some ad → X ad.block) (hm : bs.length = m) (hroom : (s.disk d.toNat).waits.length ≤ 1000000000000) :
    Calls Try.prog 25 #[.pointer (some ⟨g, 0, none⟩), .int .i64 d, .int .i64 n, .slice A m c] w fun e w' =>
      e = .returned (.int .i64 (s.writeR d n bs).1) ∧ ShX X g w' (s.writeR d n bs).2 ∧ Kept X w w' := by
  obtain ⟨h0, F, h1, rfl, h3⟩ := hS
  refine (sh_write h1 d n A m c bs hr hm (fun ad e hm => h3 _ hm (hA ad e)) hroom).mono ?_
  rintro e w' ⟨F', r1, r2, r3, _⟩
  obtain ⟨r4, r5⟩ := ShX.to h0 h3 r2 r3
  exact ⟨r1, r4, r5⟩
theorem lx_flush (hS : ShX X g w s) (d : Int) : Calls Try.prog 42 #[.pointer (some ⟨g, 0, none⟩), .int .i64 d] w fun e w' =>
      e = .returned (.int .i64 (s.flushR d).1) ∧ ShX X g w' (s.flushR d).2 ∧ Kept X w w' := by
  obtain ⟨h0, F, h1, rfl, h3⟩ := hS
  refine (sh_flush h1 d).mono ?_
  rintro e w' ⟨F', r1, r2, r3, _⟩
  obtain ⟨r4, r5⟩ := ShX.to h0 h3 r2 r3
  exact ⟨r1, r4, r5⟩
theorem lx_crash (hS : ShX X g w s) (KA : Option Addr) (kn kc : Nat) (keep : List (List Int)) (hK : KeepL w base KA keep) (hX : ∀ b, b < base → X b) (hkn : keep.length = kn) :
    Calls Try.prog 31 #[.pointer (some ⟨g, 0, none⟩), .slice KA kn kc] w fun e w' =>
      e = .returned (.tuple #[]) ∧ ShX X g w' (s.crash keep) ∧ Kept X w w' := by
  obtain ⟨h0, F, h1, rfl, h3⟩ := hS
  refine (sh_crash h1 KA kn kc keep (hK F.blocks fun b hb => ?_) hkn).mono ?_
  · rcases Nat.lt_or_ge b base with hl | hl
    · exact absurd (hX b hl) (h3 b hb)
    · exact hl
  rintro e w' ⟨F', r1, r2, r3⟩
  obtain ⟨r4, r5⟩ := ShX.to h0 h3 r2 r3
  exact ⟨r1, r4, r5⟩
theorem ShX.same {F : ShF} (h0 : ∀ b, X b → b < w.heap.size) (h3 : ∀ b ∈ F.blocks, ¬ X b) (h : ShAt w' F s') (hT : Turns F.blocks w w') : ShX X F.g w' s' ∧ Kept X w w' := ShX.to h0 h3 h (ShTo.same hT)
theorem lx_read (hS : ShX X g w s) (d n : Int) (hroom : (s.disk d.toNat).waits.length ≤ 1000000000000) :
    Calls Try.prog 24 #[.pointer (some ⟨g, 0, none⟩), .int .i64 d, .int .i64 n] w fun e w' =>
      ∃ v, e = .returned (.tuple #[v, .int .i64 (s.readR d n).2.1]) ∧ Fresh w w' v (s.readR d n).1 ∧ ShX (fun b => X b ∨ v.ownBlock = some b) g w' (s.readR d n).2.2 ∧ Kept X w w' := by
  obtain ⟨h0, F, h1, rfl, h3⟩ := hS
  refine (sh_read h1 d n hroom).mono ?_
  rintro e w' ⟨v, r1, r2, r3, r4⟩
  refine ⟨v, r1, r2, ⟨fun b hb => ?_, F, r3, rfl, fun b hb hx => ?_⟩, r4.kept h0 h3⟩
  · rcases hb with hb | hb
    · exact Nat.lt_of_lt_of_le (h0 b hb) r4.size
    · obtain ⟨A, c, rfl, hA⟩ := r2
      rcases hA with ⟨rfl, _⟩ | ⟨x, rfl, hx, hr⟩
      · cases hb
      · injection hb with hb
        subst hb
        exact hr.lt
  · rcases hx with hx | hx
    · exact h3 b hb hx
    · obtain ⟨A, c, rfl, hA⟩ := r2
      rcases hA with ⟨rfl, _⟩ | ⟨x, rfl, hx', hr⟩
      · cases hx
      · injection hx with hx
        subst hx
        have := h1.lt _ hb
        simp only at this
        omega
theorem lx_corrupt (hS : ShX X g w s) (d n a : Int) (b : UInt8) : Calls Try.prog 29 #[.pointer (some ⟨g, 0, none⟩), .int .i64 d, .int .i64 n, .int .i64 a, .int .u8 (b.toNat : Int)] w fun e w' =>
      e = .returned (.int .i64 (s.corruptR d n a b).1) ∧ ShX X g w' (s.corruptR d n a b).2 ∧ Kept X w w' := by
  obtain ⟨h0, F, h1, rfl, h3⟩ := hS
  refine (sh_corrupt h1 d n a b).mono ?_
  rintro e w' ⟨r1, r3, r4⟩
  obtain ⟨r5, r6⟩ := ShX.same h0 h3 r3 r4
  exact ⟨r1, r5, r6⟩
theorem lx_stop (hS : ShX X g w s) (n : Int) : Calls Try.prog 30 #[.pointer (some ⟨g, 0, none⟩), .int .i64 n] w fun e w' =>
      e = .returned (.tuple #[]) ∧ ShX X g w' (s.stop n) ∧ Kept X w w' := by
  obtain ⟨h0, F, h1, rfl, h3⟩ := hS
  refine (sh_stop h1 n).mono ?_
  rintro e w' ⟨r1, r3, r4⟩
  have hsn : seenF s = seenF (s.stop n) := by
    simp only [ShM.stop]
    split <;> rfl
  rw [hsn] at r3
  obtain ⟨r5, r6⟩ := ShX.same h0 h3 r3 r4
  exact ⟨r1, r5, r6⟩
theorem lx_off (hS : ShX X g w s) : Calls Try.prog 48 #[.pointer (some ⟨g, 0, none⟩)] w fun e w' => e = .returned (.bool s.off) ∧ w = w' := by
  obtain ⟨h0, F, h1, rfl, h3⟩ := hS
  exact sh_off h1
theorem lx_dead (hS : ShX X g w s) (d : Int) : Calls Try.prog 47 #[.pointer (some ⟨g, 0, none⟩), .int .i64 d] w fun e w' => e = .returned (.bool (s.deadR d)) ∧ w = w' := by
  obtain ⟨h0, F, h1, rfl, h3⟩ := hS
  exact sh_dead h1 d
theorem lx_size (hS : ShX X g w s) : Calls Try.prog 37 #[.pointer (some ⟨g, 0, none⟩)] w fun e w' => e = .returned (.tuple #[.int .i64 (s.disks.length : Nat), .int .i64 (s.sectors : Nat)]) ∧ Below w.heap.size w w' := by
  obtain ⟨h0, F, h1, rfl, h3⟩ := hS
  exact sh_size h1
end
end Go.Proofs.Ytikfbhepnnbdoaa

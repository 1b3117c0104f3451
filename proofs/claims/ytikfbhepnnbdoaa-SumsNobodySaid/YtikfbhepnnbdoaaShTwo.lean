/-
  Two shelves beside each other.
-/
import Derived.Test.YtikfbhepnnbdoaaShX
namespace Go.Proofs.Ytikfbhepnnbdoaa
set_option linter.all false
open Go.RowKit

/-- two shelves that share no block, and none with X -/
def TwoX (X : Nat → Prop) (g1 g2 : Nat) (w : World) (s t : ShM) : Prop :=
  (∀ b, X b → b < w.heap.size) ∧ ∃ F G, ShAt w F s ∧ ShAt w G t ∧ F.g = g1 ∧ G.g = g2 ∧ (∀ b ∈ F.blocks, ¬ X b) ∧ (∀ b ∈ G.blocks, ¬ X b) ∧ ∀ b ∈ F.blocks, b ∉ G.blocks
section
variable {X : Nat → Prop} {g1 g2 : Nat} {w w' : World} {s t : ShM}
theorem TwoX.swap (h : TwoX X g1 g2 w s t) : TwoX X g2 g1 w t s := by
  obtain ⟨h0, F, G, h1, h2, h3, h4, h5, h6, h7⟩ := h
  exact ⟨h0, G, F, h2, h1, h4, h3, h6, h5, fun b hb hx => h7 b hx hb⟩
theorem TwoX.lt (h : TwoX X g1 g2 w s t) : ∀ b, X b → b < w.heap.size := h.1
theorem TwoX.ok (h : TwoX X g1 g2 w s t) : s.Ok ∧ t.Ok := by
  obtain ⟨h0, F, G, h1, h2, h3⟩ := h
  exact ⟨h1.ok, h2.ok⟩
theorem TwoX.mono (h : TwoX X g1 g2 w s t) {Y : Nat → Prop} (hY : ∀ b, Y b → X b) : TwoX Y g1 g2 w s t := by
  obtain ⟨h0, F, G, h1, h2, h3, h4, h5, h6, h7⟩ := h
  exact ⟨fun b hb => h0 b (hY b hb), F, G, h1, h2, h3, h4, fun b hb hx => h5 b hb (hY b hx), fun b hb hx => h6 b hb (hY b hx), h7⟩
theorem TwoX.below (h : TwoX X g1 g2 w s t) (hb : Below w.heap.size w w') : TwoX X g1 g2 w' s t := by
  obtain ⟨h0, F, G, h1, h2, h3, h4, h5, h6, h7⟩ := h
  exact ⟨fun b hx => Nat.lt_of_lt_of_le (h0 b hx) hb.size, F, G, h1.below hb, h2.below hb, h3, h4, h5, h6, h7⟩
theorem TwoX.drew (h : TwoX X g1 g2 w s t) : TwoX X g1 g2 w.drew s t := h.below (Below.refl _ _).drew
/-- .. beside more blocks that are new -/
theorem TwoX.more (h : TwoX X g1 g2 w s t) (hb : Below w.heap.size w w') {Y : Nat → Prop} (hY : ∀ b, Y b → b < w'.heap.size ∧ (X b ∨ w.heap.size ≤ b)) : TwoX Y g1 g2 w' s t := by
  obtain ⟨h0, F, G, h1, h2, h3, h4, h5, h6, h7⟩ := h
  refine ⟨fun b hx => (hY b hx).1, F, G, h1.below hb, h2.below hb, h3, h4, fun b hm hx => ?_, fun b hm hx => ?_, h7⟩
  · rcases (hY b hx).2 with hx | hx
    · exact h5 b hm hx
    · have := h1.lt b hm; omega
  · rcases (hY b hx).2 with hx | hx
    · exact h6 b hm hx
    · have := h2.lt b hm; omega
/-- a call of the first one -/
theorem TwoX.left (h : TwoX X g1 g2 w s t) : ∃ Y : Nat → Prop, ShX Y g1 w s ∧ (∀ b, X b → Y b) ∧
    ∀ (w' : World) (s' : ShM) (Z : Nat → Prop), (∀ b, Z b → w.heap.size ≤ b) → ShX (fun b => Y b ∨ Z b) g1 w' s' → Kept Y w w' → TwoX (fun b => X b ∨ Z b) g1 g2 w' s' t ∧ Kept X w w' := by
  obtain ⟨h0, F, G, h1, h2, h3, h4, h5, h6, h7⟩ := h
  refine ⟨fun b => X b ∨ b ∈ G.blocks, ⟨?_, F, h1, h3, ?_⟩, fun b hb => .inl hb, ?_⟩
  · rintro b (hb | hb)
    · exact h0 b hb
    · exact h2.lt b hb
  · rintro b hb (hx | hx)
    · exact h5 b hb hx
    · exact h7 b hb hx
  · rintro w' s' Z hZ ⟨k0, F', k1, k2, k3⟩ hK
    refine ⟨⟨?_, F', G, k1, h2.of_blocks fun b hb => hK.block b (.inr hb), k2, h4, ?_, ?_, ?_⟩, hK.mono fun b hb => .inl hb⟩
    · rintro b (hb | hb)
      · exact k0 b (.inl (.inl hb))
      · exact k0 b (.inr hb)
    · rintro b hb (hx | hx)
      · exact k3 b hb (.inl (.inl hx))
      · exact k3 b hb (.inr hx)
    · rintro b hb (hx | hx)
      · exact h6 b hb hx
      · have := hZ b hx
        have := h2.lt b hb
        omega
    · intro b hb hx
      exact k3 b hb (.inl (.inr hx))
theorem TwoX.left0 (h : TwoX X g1 g2 w s t) : ∃ Y : Nat → Prop, ShX Y g1 w s ∧ (∀ b, X b → Y b) ∧ ∀ (w' : World) (s' : ShM), ShX Y g1 w' s' → Kept Y w w' → TwoX X g1 g2 w' s' t ∧ Kept X w w' := by
  obtain ⟨Y, h1, h2, h3⟩ := h.left
  refine ⟨Y, h1, h2, fun w' s' k1 k2 => ?_⟩
  obtain ⟨r1, r2⟩ := h3 w' s' (fun _ => False) (fun _ hf => hf.elim) (k1.mono fun b hb => hb.elim id fun hf => hf.elim) k2
  exact ⟨r1.mono fun b hb => .inl hb, r2⟩
theorem TwoX.made (h1 : ShX X g1 w s) (h2 : ShX (fun b => b < w.heap.size) g2 w' t) (hb : Below w.heap.size w w') : TwoX X g1 g2 w' s t := by
  obtain ⟨k0, F, k1, k2, k3⟩ := h1
  obtain ⟨l0, G, l1, l2, l3⟩ := h2
  exact ⟨fun b hx => Nat.lt_of_lt_of_le (k0 b hx) hb.size, F, G, k1.below hb, l1, k2, l2, k3, fun b hb hx => l3 b hb (k0 b hx), fun b hb hx => l3 b hx (k1.lt b hb)⟩
theorem Fresh.form2 {v : Value} {bs : Bytes} (h : Fresh w w' v bs) (hl : bs.length ≤ 9223372036854775807) :
    ∃ A c, v = .slice A bs.length c ∧ Rd w' A bs ∧ (∀ ad, A = some ad → v.ownBlock = some ad.block) ∧ ∀ b, v.ownBlock = some b → w.heap.size ≤ b := by
  obtain ⟨A, c, rfl, h2, h3⟩ := h.form hl
  obtain ⟨A', c', e, hA⟩ := h
  injection e with e1 e2 e3
  subst e1
  rcases hA with ⟨rfl, _⟩ | ⟨x, rfl, hx, hr⟩
  · exact ⟨none, c, rfl, h2, (fun _ e => by cases e), (fun _ e => by cases e)⟩
  · refine ⟨_, c, rfl, h2, fun ad e => ?_, fun b e => ?_⟩
    · injection e with e
      subst e
      rfl
    · injection e with e
      subst e
      exact hx.1
end
end Go.Proofs.Ytikfbhepnnbdoaa

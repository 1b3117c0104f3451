/-
  A disk's blocks and their shelf, as a law uses them.
-/
import Derived.Test.YtikfbhepnnbdoaaSuW
namespace Go.Proofs.Ytikfbhepnnbdoaa
set_option linter.all false
open Go.RowKit

section
variable {X : Nat → Prop} {a g : Nat} {w w1 w' : World} {s s' : ShM} {D : DevM}
theorem WrPost.from_ {r : Int × ShM × DevM} {e : Ending} (h : WrPost X a g w1 r e w') (hK : Kept X w w1) : WrPost X a g w r e w' := ⟨h.1, h.2.1, hK.trans h.2.2⟩
/-- bytes that were just made are written -/
theorem su_write_new (h : DvX X a g w s D) (hb : Below w.heap.size w w1) (hroom : Room 999999999990 s) (n : Int) (hn0 : -9223372036854775808 ≤ n) (hn1 : n ≤ 9223372036854775807) (A : Option Addr) (L c E : Nat) (bs : Bytes) (ho : Own w1 E w.heap.size (.slice A L c) bs) (hL : bs.length = L) :
    Calls Try.prog 21 #[.pointer (some ⟨a, 0, none⟩), .int .i64 n, .slice A L c] w1 (WrPost X a g w (devWrite s D n bs)) := by
  have hown : ∀ ad, A = some ad → w.heap.size ≤ ad.block ∧ ad.block < w1.heap.size := by
    intro ad e
    obtain ⟨A', c', hv, _, h2⟩ := ho.form
    injection hv with e1
    subst e1
    obtain ⟨x, rfl, h4, h5⟩ := h2 ad e
    exact ⟨h4, h5⟩
  have h1 : DvX (fun b => X b ∨ ∃ ad, A = some ad ∧ ad.block = b) a g w1 s D := h.more hb fun b hx => by
    rcases hx with hx | ⟨ad, e, rfl⟩
    · exact ⟨Nat.lt_of_lt_of_le (h.lt b hx) hb.size, .inl hx⟩
    · exact ⟨(hown ad e).2, .inr (hown ad e).1⟩
  refine (su_write h1 hroom n hn0 hn1 A L c bs ho.rd hL (fun ad e => .inr ⟨ad, e, rfl⟩)).mono ?_
  rintro e w' ⟨r1, r2, r3⟩
  exact ⟨r1, r2.mono fun b hx => .inl hx, (Kept.of_below hb h.lt).trans (r3.mono fun b hx => .inl hx)⟩
theorem dx_stop (h : DvX X a g w s D) (n : Int) : Calls Try.prog 30 #[.pointer (some ⟨g, 0, none⟩), .int .i64 n] w fun e w' => e = .returned (.tuple #[]) ∧ DvX X a g w' (s.stop n) D ∧ Kept X w w' := by
  refine (lx_stop h.sh n).mono ?_
  rintro e w' ⟨r1, r2, r3⟩
  obtain ⟨r4, r5⟩ := h.step r2 r3 (by simp only [ShM.stop]; split <;> rfl)
  exact ⟨r1, r4, r5⟩
theorem dx_corrupt (h : DvX X a g w s D) (d n at_ : Int) (b : UInt8) : Calls Try.prog 29 #[.pointer (some ⟨g, 0, none⟩), .int .i64 d, .int .i64 n, .int .i64 at_, .int .u8 (b.toNat : Int)] w fun e w' =>
    e = .returned (.int .i64 (s.corruptR d n at_ b).1) ∧ DvX X a g w' (s.corruptR d n at_ b).2 D ∧ Kept X w w' := by
  refine (lx_corrupt h.sh d n at_ b).mono ?_
  rintro e w' ⟨r1, r2, r3⟩
  obtain ⟨r4, r5⟩ := h.step r2 r3 (by
    simp only [ShM.corruptR]
    split
    · split
      · rw [ShM.set_len]
      · rfl
    · rfl)
  exact ⟨r1, r4, r5⟩
theorem dx_crash {base : Nat} (h : DvX X a g w s D) (KA : Option Addr) (kn kc : Nat) (keep : List (List Int)) (hK : KeepL w base KA keep) (hX : ∀ b, b < base → X b) (hkn : keep.length = kn) :
    Calls Try.prog 31 #[.pointer (some ⟨g, 0, none⟩), .slice KA kn kc] w fun e w' => e = .returned (.tuple #[]) ∧ DvX X a g w' (s.crash keep) D ∧ Kept X w w' := by
  refine (lx_crash h.sh KA kn kc keep hK (fun b hb => .inl (hX b hb)) hkn).mono ?_
  rintro e w' ⟨r1, r2, r3⟩
  obtain ⟨r4, r5⟩ := h.step r2 r3 (by simp [ShM.crash])
  exact ⟨r1, r4, r5⟩
theorem dx_read (h : DvX X a g w s D) (d n : Int) (hroom : Room 1000000000000 s) : Calls Try.prog 24 #[.pointer (some ⟨g, 0, none⟩), .int .i64 d, .int .i64 n] w fun e w' =>
    ∃ v, e = .returned (.tuple #[v, .int .i64 (s.readR d n).2.1]) ∧ Fresh w w' v (s.readR d n).1 ∧ DvX (fun b => X b ∨ v.ownBlock = some b) a g w' (s.readR d n).2.2 D ∧ Kept X w w' := by
  refine (lx_read h.sh d n (hroom _)).mono ?_
  rintro e w' ⟨v, r1, r2, r3, r4⟩
  obtain ⟨r5, r6⟩ := h.stepV r2 r3 r4 (readR_len2 s d n)
  exact ⟨v, r1, r2, r5, r6⟩
theorem DvX.shelf (h : DvX X a g w s D) : ShX X g w s := h.sh.mono fun b hb => .inl hb
end
end Go.Proofs.Ytikfbhepnnbdoaa

/-
  Two disks' blocks on one shelf.
-/
import Derived.Test.YtikfbhepnnbdoaaSuJ
namespace Go.Proofs.Ytikfbhepnnbdoaa
set_option linter.all false
open Go.RowKit

section
variable {X : Nat → Prop} {a1 a2 g : Nat} {w w' : World} {s s' : ShM} {D1 D2 : DevM}
theorem DvX.swap (h : DvX (fun b => X b ∨ b = a1) a2 g w s D2) (hr : w.heap[a1]? = some (.cells (devR g D1) 78)) (hx : ¬ X a1) (hd : D1.disk < s.disks.length) (hz : D1.size < 4096) : DvX (fun b => X b ∨ b = a2) a1 g w s D1 :=
  ⟨h.sh.mono fun b hb => by
      rcases hb with (hb | hb) | hb
      · exact .inl (.inl hb)
      · exact .inr hb
      · exact .inl (.inr hb), hr, fun hb => by
      rcases hb with hb | hb
      · exact hx hb
      · exact h.out (.inr hb.symm), hd, hz⟩
theorem LawS.swap (h : LawS (fun b => X b ∨ b = a1) a2 g w s D2) (hr : w.heap[a1]? = some (.cells (devR g D1) 78)) (hx : ¬ X a1) (hz : D1.size < 4096) (hrun : DRun s D1) : LawS (fun b => X b ∨ b = a2) a1 g w s D1 :=
  ⟨h.dv.swap hr hx hrun.run.disk hz, hrun, h.room⟩
theorem Run.move {d e : Nat} (h : Run s d) (he : e < s.disks.length) (ha : (s.disk e).dead = false) : Run s e := ⟨h.ok, h.on, he, ha⟩
theorem ls_swrite (h : LawS X a1 g w s D1) (n : Nat) (hn : n < s.sectors) (A : Option Addr) (c : Nat) (bs : Bytes) (hr : Rd w A bs) (hA : ∀ ad, A = some ad → X ad.block) (hL : bs.length = 128) :
    Calls Try.prog 25 #[.pointer (some ⟨g, 0, none⟩), .int .i64 (D1.disk : Int), .int .i64 (n : Int), .slice A 128 c] w fun e w' =>
      e = .returned (.int .i64 0) ∧ ∃ s', Wrote s s' D1.disk n bs ∧ DvX X a1 g w' s' D1 ∧ DRun s' D1 ∧ Room 101 s' ∧ Kept X w w' := by
  obtain ⟨s', e1, hw⟩ := run_write h.run.run hn hL
  have hct := lx_write_in h.dv.sh D1.disk n A 128 c bs hr (fun ad e => .inl (hA ad e)) hL ((h.room.mono (by omega)) _)
  rw [e1] at hct
  refine hct.mono ?_
  rintro e w' ⟨r1, r2, r3⟩
  obtain ⟨r4, r5⟩ := h.dv.step r2 r3 hw.len
  refine ⟨r1, s', hw, r4, ⟨hw.run, by rw [hw.sec]; exact h.run.size⟩, fun e => ?_, r5⟩
  by_cases he : e = D1.disk
  · subst he
    rw [hw.waits, List.length_append]
    have := h.room D1.disk
    simp only [List.length_singleton]
    omega
  · rw [hw.other e he]
    exact Nat.le_succ_of_le (h.room e)
end
end Go.Proofs.Ytikfbhepnnbdoaa

/-
 What RaidForeign keeps of its shelf: nobody dies, the power stays. No program in sight.
-/
import Derived.Test.YtajnlhalanhicaaCo
namespace Go.Proofs.Ytajnlhalanhicaa
set_option linter.all false
set_option maxRecDepth 20000
open Go.RowKit
section
variable {s s' : ShM} {V V' : VolM} {n r k : Nat}
structure FoOk (s : ShM) (n r : Nat) : Prop where
 ok : s.Ok
 on : s.stops = false
 len : s.disks.length = n
 sec : s.sectors = 40
 live : ∀ j, (s.disk j).dead = false
 room : Room r s
theorem FoOk.st (h : FoOk s n r) (g : St k s s') (o : s'.Ok) : FoOk s' n (r + k) :=
 ⟨o, g.stops.trans h.on, g.len.trans h.len, g.sec.trans h.sec, fun j => (g.dead j).trans (h.live j), g.room h.room⟩
theorem FoOk.mono (h : FoOk s n r) (hk : r ≤ k) : FoOk s n k := ⟨h.ok, h.on, h.len, h.sec, h.live, h.room.mono hk⟩
theorem FoOk.off (h : FoOk s n r) : s.off = false := by simp [ShM.off, h.on]
theorem fo_fresh {n : Nat} (h1 : 1 ≤ n) (h17 : n ≤ 17) : FoOk (freshSh n 40) n 0 := by
 refine ⟨freshSh_ok n 40 h1 h17 (by omega) (by omega), rfl, by simp [freshSh], rfl, fun j => ?_, room_fresh n 40⟩
 by_cases hj : j < n
 ·have he : (freshSh n 40).disk j = freshDisk 40 := by simp [ShM.disk, freshSh, List.getD_eq_getElem?_getD, List.getElem?_replicate, hj]
  rw [he]
  rfl
 ·have he : (freshSh n 40).disk j = noDisk := by simp [ShM.disk, freshSh, List.getD_eq_getElem?_getD, List.getElem?_replicate, hj]
  rw [he]
  rfl
theorem FoOk.said (h : FoOk s n r) {d : Nat} (hd : d < n) {k : Nat} (hk : k < 2) {b : Bytes} (hb : b.length = 128) :
  FoOk (devFlush (devWrite s (freshDev s d) (k : Int) b).2.1 (devWrite s (freshDev s d) (k : Int) b).2.2).2.1 n (r + 9) := by
 have hD : DevOk s (freshDev s d) := ⟨h.ok, by rw [h.len]; exact hd, rfl⟩
 have hz : (freshDev s d).size = 37 := by
  show (blocksI s.sectors).toNat = 37
  rw [h.sec]
  decide
 have a := dd_write hD (n := k) (by rw [hz]; omega) hb
 have b := dd_flush (hD.dd a)
 have c := a.after b
 exact h.st c.st c.ok
theorem FoOk.wr (h : FoOk s n r) (d k : Int) {b : Bytes} : FoOk (s.writeR d k b).2 n (r + 1) := h.st (st_write _ _ _ _) (ok_write h.ok _ _ _)
theorem FoOk.open_ (h : FoOk s n r) : ((volOpen s).1 = 0 ∨ (volOpen s).1 = 8) ∧ FoOk (volOpen s).2.1 n (r + 10000) := by
 obtain ⟨a, b, c⟩ := open_any h.ok h.on
 exact ⟨a, h.st b c⟩
theorem FoOk.read (h : FoOk s n r) (hv : Vd s V) {b : Nat} (hb : b < V.size) :
  ((volRead s V b).2.1 = 0 ∧ (volRead s V b).1.length = 128 ∨ (volRead s V b).2.1 = 10) ∧ FoOk (volRead s V b).2.2.1 n (r + 42) ∧ (volRead s V b).2.2.2.sup = V.sup := by
 obtain ⟨g, h2, h3, _⟩ := vs_read hv hb
 have h16 := hv.m16
 have hf : FoOk (volRead s V b).2.2.1 n (r + 42) := h.st (g.st.mono (by omega)) g.vd.ok
 refine ⟨?_, hf, g.sup⟩
 rcases h2 with e | ⟨_, e⟩ | e
 ·exact .inl ⟨e, h3 e⟩
 ·rw [hf.off] at e; cases e
 ·exact .inr e
theorem FoOk.deads (h : FoOk s n r) (V : VolM) : volDeads s V = [] := by
 unfold volDeads
 rw [List.filter_eq_nil_iff]
 intro k _
 unfold volLacks
 split
 ·rw [h.live, h.live]; simp
 ·rw [h.live]; simp
end
end Go.Proofs.Ytajnlhalanhicaa

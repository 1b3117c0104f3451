/-
 Several texts of this work in one (merge.py): RaLv, RaLw.
-/
import Derived.Test.YtajnlhalanhicaaHeldTail
import Derived.Test.YtajnlhalanhicaaRaM
import Derived.Test.YtajnlhalanhicaaShL
import Derived.Test.YtajnlhalanhicaaRgE
namespace Go.Proofs.Ytajnlhalanhicaa
set_option linter.all false
set_option maxRecDepth 20000
section
open Go.RowKit
def rv0 : ShM := freshSh 3 40
def rvV : VolM := volBuild rv0 (newSup 3 2 1)
def rv1 : Int × ShM × VolM := volMake rv0 rvV
def rv2 : Int × ShM × VolM := volWrite rv1.2.1 rv1.2.2 3 (secOf 8)
def rv3 : Int × ShM × VolM := volFlush rv2.2.1 rv2.2.2
def rv4 : ShM := (rv3.2.1.killR 0).2
def rv5 : Bytes × Int × ShM × VolM := volRead rv4 rv3.2.2 3
def rv6 : Bool × Int × ShM := volWhole rv5.2.2.1 rv5.2.2.2 0
def roomy (s : ShM) : Bool := s.disks.all fun k => decide (k.waits.length ≤ 100)
set_option maxRecDepth 100000 in
theorem rv_build : buildOk rv0 (newSup 3 2 1) = true := by decide +kernel
theorem rv_1 : rv1.1 = 0 := by decide +kernel
theorem rv_2 : rv2.1 = 0 := by decide +kernel
theorem rv_3 : rv3.1 = 0 := by decide +kernel
theorem rv_r : roomy rv1.2.1 = true ∧ roomy rv2.2.1 = true ∧ roomy rv3.2.1 = true ∧ roomy rv4 = true ∧ roomy rv5.2.2.1 = true := by decide +kernel
theorem rv_5 : rv5.1 = secOf 8 ∧ rv5.2.1 = 0 := by decide +kernel
theorem rv_6 : rv6.1 = false ∧ rv6.2.1 = 0 := by decide +kernel
theorem rv_s : rv1.2.2.size = 4 ∧ rv5.2.2.2.size = 4 ∧ rv5.2.2.2.stripes = 2 := by decide +kernel
theorem rv_d : (volDeads rv6.2.2 rv5.2.2.2).length = 1 := by decide +kernel
end
section
open Go.RowKit
section
variable {X : Nat → Prop} {F : VolF} {w w' : World} {s s' : ShM} {V : VolM}
theorem roomy_room {s : ShM} (h : roomy s = true) : Room 100 s := by
 intro e
 unfold roomy at h
 rw [List.all_eq_true] at h
 by_cases he : e < s.disks.length
 ·have := h s.disks[e] (List.getElem_mem he)
  have e2 : s.disk e = s.disks[e] := by simp [ShM.disk, List.getD, he]
  rw [e2]
  simpa using this
 ·have : s.disk e = noDisk := by simp [ShM.disk, List.getD, he]
  rw [this]
  simp [noDisk]
theorem VolX.shelfCall (h : VolX X F w s V) (hS : ShX (fun b => X b ∨ b ∈ F.own) F.g w' s') (hK : Kept (fun b => X b ∨ b ∈ F.own) w w') (h1 : s'.disks.length = s.disks.length) (h2 : s'.sectors = s.sectors) : VolX X F w' s' V ∧ Kept X w w' :=
 ⟨h.rows hS h.out (fun b hm => hK.block b (.inr hm)) (h.ok.same h1 h2), hK.mono fun b hb => .inl hb⟩
theorem kill_keep (s : ShM) (d : Int) : (s.killR d).2.disks.length = s.disks.length ∧ (s.killR d).2.sectors = s.sectors := by
 simp only [ShM.killR]
 split
 ·exact ⟨by simp [ShM.setDisk], rfl⟩
 ·exact ⟨rfl, rfl⟩
theorem ra_kill (h : VolX X F w s V) (d : Int) : Calls Try.prog 15 #[.pointer (some ⟨F.g, 0, none⟩), .int .i64 d] w fun e w' => e = .returned (.int .i64 (s.killR d).1) ∧ VolX X F w' (s.killR d).2 V ∧ Kept X w w' := by
 refine (lx_kill h.sh d).mono ?_
 rintro e w' ⟨h1, hS, hK⟩
 obtain ⟨a, b⟩ := h.shelfCall hS hK (kill_keep s d).1 (kill_keep s d).2
 exact ⟨h1, a, b⟩
set_option maxHeartbeats 16000000 in
theorem lives08 (w : World) : Calls Try.prog 7 #[] w fun e w' => e = .returned (.bool true) ∧ Below w.heap.size w w' := by
 have hnew := lx_new (X := fun b => b < w.heap.size) (w := w) (fun b hb => hb) 3 40 (by omega) (by omega) (by omega) (by omega)
 have hsec := fun W => sector_any 8 W
 simp only [show (((8 : UInt8).toNat : Nat) : Int) = 8 from rfl, show ((3 : Nat) : Int) = 3 from rfl, show ((40 : Nat) : Int) = 40 from rfl] at hnew hsec
 replace hsec := Lib.hid hsec
 go_enter Try.func7, Try.ntmps7
 go_wp2_with fail
 with_reducible refine hnew.mono ?_
 rintro e w1 ⟨g, rfl, hS1, hb1⟩
 have hcr := ra_create hS1 (by have := roomy_room (s := rv0) (by decide +kernel); exact this.mono (by omega)) 3 2 1 rv_build
 clear hnew
 change Calls _ _ _ _ (MakePost (fun b => b < w.heap.size) g w1 rv1) at hcr
 go_wp2_with fail
 with_reducible refine hcr.mono ?_
 rintro e w2 ⟨hx, hx2, hK2⟩
 obtain ⟨F, rfl, rfl, hV2⟩ := hx rv_1
 have hKw2 : Below w.heap.size w w2 := ⟨hK2.os.trans hb1.os, hK2.tape.trans hb1.tape, hK2.output.trans hb1.output, Nat.le_trans hb1.size hK2.size, fun k hk => (hK2.block k hk).trans (hb1.block k hk)⟩
 replace hKw2 := Lib.hid hKw2
 replace hV2 := Lib.hid hV2
 clear hcr hx hx2 hK2 hS1 hb1
 go_wp2_with fail
 with_reducible refine (hsec.out _).mono ?_
 rintro e w3 ⟨A3, c3, rfl, ho3, hb3⟩
 have hV3 := hV2.out.join hb3 ho3.within
 have hkb : ∀ (W W' : World) (Y : Nat → Prop), Below w.heap.size w W → Kept Y W W' → (∀ b, b < w.heap.size → Y b) → Below w.heap.size w W' := fun _ _ _ h k hY => h.trans ⟨k.os, k.tape, k.output, k.size, fun b hb => k.block b (hY b hb)⟩
 have hB3 := Lib.hid (hKw2.out.trans (hb3.mono hKw2.out.size))
 have hct := ra_write hV3 ((roomy_room rv_r.1).mono (by omega)) 3 (by rw [rv_s.1]; decide) A3 c3 (secOf 8) ho3.rd (secOf_len 8) (fun ad e => .inr ⟨ad, e, rfl⟩)
 change Calls _ _ _ _ (PutPost_ _ F w3 rv2) at hct
 simp only [show ((3 : Nat) : Int) = 3 from rfl] at hct
 replace hkb := Lib.hid hkb
 clear hV2 hV3 hb3 ho3
 go_wp2_with fail
 with_reducible refine hct.mono ?_
 rintro e w4 ⟨rfl, hV4, hK4⟩
 rw [rv_2]
 replace hV4 := hV4.mono (Y := fun b => b < w.heap.size) fun b hb => .inl hb
 have hB4 := Lib.hid (hkb.out _ _ _ hB3.out hK4 fun b hb => .inl hb)
 have hct2 := ra_flush hV4 ((roomy_room rv_r.2.1).mono (by omega))
 change Calls _ _ _ _ (PutPost_ _ F w4 rv3) at hct2
 clear hct hV4 hK4 hB3
 go_wp2_with fail
 with_reducible refine hct2.mono ?_
 rintro e w5 ⟨rfl, hV5, hK5⟩
 rw [rv_3]
 have hB5 := Lib.hid (hkb.out _ _ _ hB4.out hK5 fun b hb => hb)
 have hct := ra_kill hV5 0
 clear hct2 hV5 hK5 hB4
 go_wp2_with fail
 with_reducible refine hct.mono ?_
 rintro e w6 ⟨rfl, hV6, hK6⟩
 change VolX _ F w6 rv4 rv3.2.2 at hV6
 have hB6 := Lib.hid (hkb.out _ _ _ hB5.out hK6 fun b hb => hb)
 have hct2 := ra_read hV6 ((roomy_room rv_r.2.2.2.1).mono (by omega)) 3 (by show 3 < rv3.2.2.size; decide +kernel)
 change Calls _ _ _ _ (BytesPost _ F w6 rv5) at hct2
 simp only [show ((3 : Nat) : Int) = 3 from rfl] at hct2
 clear hct hV6 hK6 hB5
 go_wp2_with fail
 with_reducible refine hct2.mono ?_
 rintro e w7 ⟨A7, c7, rfl, hR7, hc7, hA7, hV7, hK7⟩
 rw [rv_5.2]
 rw [rv_5.1] at hR7 ⊢
 rw [secOf_len]
 have hB7 := Lib.hid (hkb.out _ _ _ hB6.out hK7 fun b hb => hb)
 have hct := ra_whole hV7 ((roomy_room rv_r.2.2.2.2).mono (by omega)) 0 (by rw [rv_s.2.2]; decide)
 change Calls _ _ _ _ (WholePost _ F w7 rv5.2.2.2 rv6) at hct
 simp only [show ((0 : Nat) : Int) = 0 from rfl] at hct
 replace hR7 := Lib.hid hR7
 clear hct2 hV7 hK7 hB6 hc7 hA7
 go_wp2_with fail
 with_reducible refine hct.mono ?_
 rintro e w8 ⟨rfl, hV8, hK8⟩
 rw [rv_6.1, rv_6.2]
 have hR8 := hK8.rd hR7.out fun ad e => .inr ⟨ad, e, rfl⟩
 have hB8 := Lib.hid (hkb.out _ _ _ hB7.out hK8 fun b hb => .inl hb)
 have hcs : Hid (∀ W, Below w8.heap.size w8 W → (convert 32 9 (.slice A7 128 c7)).run Try.prog W = .ok (.string ⟨(secOf 8).toArray⟩) W ∧ Below w8.heap.size w8 W) := Lib.hid fun W hW =>
  ⟨run_string_rd (P := Try.prog) W 32 9 5 Try.underlying32 Try.underlying5 Try.underlying9 A7 128 c7 (secOf 8) (hR8.below hW) (secOf_len 8), hW⟩
 have hsz : ∀ W, Below w8.heap.size w8 W → Calls Try.prog 24 #[.pointer (some ⟨F.v, 0, none⟩)] W fun e w' => e = .returned (.int .i64 4) ∧ ∃ n, w' = W.drewN n := fun W hW => by
  have := ra_size (hV8.below hW)
  rw [rv_s.2.1] at this
  exact this
 have hsta : ∀ W, Below w8.heap.size w8 W → Calls Try.prog 25 #[.pointer (some ⟨F.v, 0, none⟩)] W fun e w' => ∃ m st A c sp mk cu, e = .returned (.agg #[m, st, .slice A 1 c, sp, mk, cu]) ∧ Below W.heap.size W w' := fun W hW => by
  refine (ra_status (hV8.below hW)).mono ?_
  rintro e w' ⟨A, c, rfl, _, _, hb⟩
  rw [show (volDeads rv6.2.2 rv5.2.2.2).length = 1 from rv_d]
  exact ⟨_, _, A, c, _, _, _, rfl, hb⟩
 have hfin : ∀ W, Below w8.heap.size w8 W → Below w.heap.size w W := fun W hW => hB8.out.trans (hW.mono hB8.out.size)
 replace hsz := Lib.hid hsz
 replace hsta := Lib.hid hsta
 replace hfin := Lib.hid hfin
 obtain ⟨sb, hsb⟩ : ∃ sb, sb = secOf 8 := ⟨_, rfl⟩
 have hsl : sb.length = 128 := by rw [hsb]; exact secOf_len 8
 rw [← hsb] at hcs hsec
 replace hsl := Lib.hid hsl
 have hBc := Lib.hid (Below.refl w8.heap.size w8).drew
 clear hct hV8 hK8 hB7 hR7 hR8 hB8 hkb hKw2 hsb
 go_wp2_with fail
 refine wp_region_held_drew (S := (fun W => (convert 32 9 (.slice A7 128 c7)).run Try.prog W = .ok (.string ⟨sb.toArray⟩) W ∧ Below w8.heap.size w8 W)) (by kernel_rfl) ?_ (fun hHeld => ?_)
 ·(try dsimp only)
  exact hcs.out _ hBc.out
 refine tkA 0 ?_
 refine rkA 1 (fun K hK => ?_)
 go_simp
 with_reducible refine (hsz.out _ hBc.out).mono ?_
 rintro e wx ⟨rfl, n1, rfl⟩
 replace hBc := Lib.hid (below_drewN (Below.refl w8.heap.size w8) (1 + n1))
 (try go_wp2_with fail)
 refine hK.out _ _ ?_ (fun hHeld2 => ?_)
 ·(try dsimp only)
  first | exact hHeld | exact hcs.out _ hBc.out
 clear hK K
 replace hHeld := hHeld2
 clear hHeld2
 (try simp only [pA, pN, pB, pC, pD])
 refine tkA 2 ?_
 refine tkA 3 ?_
 refine tkA 4 ?_
 refine tkA 5 ?_
 refine tkA 6 ?_
 refine tkA 7 ?_
 refine tkA 8 ?_
 refine tkA 9 ?_
 refine tkA 10 ?_
 refine tkA 11 ?_
 refine tkA 12 ?_
 refine tkA 13 ?_
 refine tkA 14 ?_
 refine tkA 15 ?_
 refine tkA 16 ?_
 refine tkA 17 ?_
 refine rkA 18 (fun K hK => ?_)
 go_simp
 with_reducible refine (hsec.out _).mono ?_
 rintro e wy ⟨A9, c9, rfl, ho9, hb9⟩
 have hc9 := run_string_rd (P := Try.prog) wy 32 9 5 Try.underlying32 Try.underlying5 Try.underlying9 A9 128 c9 sb ho9.rd hsl.out
 replace hBc := Lib.hid (hBc.out.trans (hb9.mono hBc.out.size))
 clear ho9 hb9
 (try go_wp2_with fail)
 refine hK.out _ _ ?_ (fun hHeld2 => ?_)
 ·(try dsimp only)
  first | exact hHeld | exact hcs.out _ hBc.out
 clear hK K
 replace hHeld := hHeld2
 clear hHeld2
 (try simp only [pA, pN, pB, pC, pD])
 refine rkA 19 (fun K hK => ?_)
 go_simp
 refine hK.out _ _ ?_ (fun hHeld2 => ?_)
 ·(try dsimp only)
  first | exact hHeld | exact hcs.out _ hBc.out
 clear hK K
 replace hHeld := hHeld2
 clear hHeld2
 (try simp only [pA, pN, pB, pC, pD])
 refine tkA 20 ?_
 refine tkA 21 ?_
 refine tkA 22 ?_
 refine tkA 23 ?_
 refine tkA 24 ?_
 refine tkA 25 ?_
 refine tkA 26 ?_
 refine tkA 27 ?_
 refine tkA 28 ?_
 refine tkA 29 ?_
 refine tkA 30 ?_
 refine tkA 31 ?_
 refine rkA 32 (fun K hK => ?_)
 go_simp
 with_reducible refine (hsta.out _ hBc.out).mono ?_
 rintro e wz ⟨q1, q2, q3, q4, q5, q6, q7, rfl, hbz⟩
 replace hBc := Lib.hid (hBc.out.trans (hbz.mono hBc.out.size))
 clear hbz
 (try go_wp2_with fail)
 refine hK.out _ _ ?_ (fun hHeld2 => ?_)
 ·(try dsimp only)
  first | exact hHeld | exact hcs.out _ hBc.out
 clear hK K
 replace hHeld := hHeld2
 clear hHeld2
 (try simp only [pA, pN, pB, pC, pD])
 refine rkA 33 (fun K hK => ?_)
 go_simp
 refine hK.out _ _ ?_ (fun hHeld2 => ?_)
 ·(try dsimp only)
  first | exact hHeld | exact hcs.out _ hBc.out
 clear hK K
 replace hHeld := hHeld2
 clear hHeld2
 (try simp only [pA, pN, pB, pC, pD])
 refine tkA 34 ?_
 refine tkA 35 ?_
 refine tkA 36 ?_
 refine tkA 37 ?_
 refine wpAnyH_done (by kernel_rfl) ?_ _
 go_wp2_with fail
 go_ret
 exact ⟨rfl, hfin.out _ hBc.out⟩
end
end
end Go.Proofs.Ytajnlhalanhicaa

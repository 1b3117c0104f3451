/-
  THE WALK over ashlarlaw08.lives: it answers true.
-/
import Derived.Test.YtajnlhalanhicaaRaLv
import Derived.Test.YtajnlhalanhicaaRgE
namespace Go.Proofs.Ytajnlhalanhicaa
set_option linter.all false
set_option maxRecDepth 20000
open Go.RowKit

section
variable {X : Nat → Prop} {F : VolF} {w w' : World} {s s' : ShM} {V : VolM}
theorem roomy_room {s : ShM} (h : roomy s = true) : Room 100 s := by
  intro e
  unfold roomy at h
  rw [List.all_eq_true] at h
  by_cases he : e < s.disks.length
  · have := h s.disks[e] (List.getElem_mem he)
    have e2 : s.disk e = s.disks[e] := by simp [ShM.disk, List.getD, he]
    rw [e2]
    simpa using this
  · have : s.disk e = noDisk := by simp [ShM.disk, List.getD, he]
    rw [this]
    simp [noDisk]
/-- behind a call of its shelf -/
theorem VolX.shelfCall (h : VolX X F w s V) (hS : ShX (fun b => X b ∨ b ∈ F.own) F.g w' s') (hK : Kept (fun b => X b ∨ b ∈ F.own) w w') (h1 : s'.disks.length = s.disks.length) (h2 : s'.sectors = s.sectors) : VolX X F w' s' V ∧ Kept X w w' :=
  ⟨h.rows hS h.out (fun b hm => hK.block b (.inr hm)) (h.ok.same h1 h2), hK.mono fun b hb => .inl hb⟩
theorem kill_keep (s : ShM) (d : Int) : (s.killR d).2.disks.length = s.disks.length ∧ (s.killR d).2.sectors = s.sectors := by
  simp only [ShM.killR]
  split
  · exact ⟨by simp [ShM.setDisk], rfl⟩
  · exact ⟨rfl, rfl⟩
theorem ra_kill (h : VolX X F w s V) (d : Int) : Calls Try.prog 15 #[.pointer (some ⟨F.g, 0, none⟩), .int .i64 d] w fun e w' => e = .returned (.int .i64 (s.killR d).1) ∧ VolX X F w' (s.killR d).2 V ∧ Kept X w w' := by
  refine (lx_kill h.sh d).mono ?_
  rintro e w' ⟨h1, hS, hK⟩
  obtain ⟨a, b⟩ := h.shelfCall hS hK (kill_keep s d).1 (kill_keep s d).2
  exact ⟨h1, a, b⟩
set_option maxHeartbeats 16000000 in
theorem lives08 (w : World) : Calls Try.prog 7 #[] w fun e w' => e = .returned (.bool true) ∧ Below w.heap.size w w' := by
  have hnew := lx_new (X := fun b => b < w.heap.size) (w := w) (fun b hb => hb) 3 40 (by omega) (by omega) (by omega) (by omega)
  have hsec := fun W => sector_any 8 W
  simp only [show (((8 : UInt8).toNat : Nat) : Int) = 8 from rfl, show ((3 : Nat) : Int) = 3 from rfl, show ((40 : Nat) : Int) = 40 from rfl] at hnew hsec
  replace hsec := Lib.hid hsec
  go_enter Try.func7, Try.ntmps7
  go_wp2_with fail
  with_reducible refine hnew.mono ?_
  rintro e w1 ⟨g, rfl, hS1, hb1⟩
  have hcr := ra_create hS1 (by have := roomy_room (s := rv0) (by decide +kernel); exact this.mono (by omega)) 3 2 1 rv_build
  clear hnew
  change Calls _ _ _ _ (MakePost (fun b => b < w.heap.size) g w1 rv1) at hcr
  go_wp2_with fail
  with_reducible refine hcr.mono ?_
  rintro e w2 ⟨hx, hx2, hK2⟩
  obtain ⟨F, rfl, rfl, hV2⟩ := hx rv_1
  have hKw2 : Below w.heap.size w w2 := ⟨hK2.os.trans hb1.os, hK2.tape.trans hb1.tape, hK2.output.trans hb1.output, Nat.le_trans hb1.size hK2.size, fun k hk => (hK2.block k hk).trans (hb1.block k hk)⟩
  replace hKw2 := Lib.hid hKw2
  replace hV2 := Lib.hid hV2
  clear hcr hx hx2 hK2 hS1 hb1
  go_wp2_with fail
  with_reducible refine (hsec.out _).mono ?_
  rintro e w3 ⟨A3, c3, rfl, ho3, hb3⟩
  have hV3 := hV2.out.join hb3 ho3.within
  have hkb : ∀ (W W' : World) (Y : Nat → Prop), Below w.heap.size w W → Kept Y W W' → (∀ b, b < w.heap.size → Y b) → Below w.heap.size w W' := fun _ _ _ h k hY => h.trans ⟨k.os, k.tape, k.output, k.size, fun b hb => k.block b (hY b hb)⟩
  have hB3 := Lib.hid (hKw2.out.trans (hb3.mono hKw2.out.size))
  have hct := ra_write hV3 ((roomy_room rv_r.1).mono (by omega)) 3 (by rw [rv_s.1]; decide) A3 c3 (secOf 8) ho3.rd (secOf_len 8) (fun ad e => .inr ⟨ad, e, rfl⟩)
  change Calls _ _ _ _ (PutPost_ _ F w3 rv2) at hct
  simp only [show ((3 : Nat) : Int) = 3 from rfl] at hct
  replace hkb := Lib.hid hkb
  clear hV2 hV3 hb3 ho3
  go_wp2_with fail
  with_reducible refine hct.mono ?_
  rintro e w4 ⟨rfl, hV4, hK4⟩
  rw [rv_2]
  replace hV4 := hV4.mono (Y := fun b => b < w.heap.size) fun b hb => .inl hb
  have hB4 := Lib.hid (hkb.out _ _ _ hB3.out hK4 fun b hb => .inl hb)
  have hct2 := ra_flush hV4 ((roomy_room rv_r.2.1).mono (by omega))
  change Calls _ _ _ _ (PutPost_ _ F w4 rv3) at hct2
  clear hct hV4 hK4 hB3
  go_wp2_with fail
  with_reducible refine hct2.mono ?_
  rintro e w5 ⟨rfl, hV5, hK5⟩
  rw [rv_3]
  have hB5 := Lib.hid (hkb.out _ _ _ hB4.out hK5 fun b hb => hb)
  have hct := ra_kill hV5 0
  clear hct2 hV5 hK5 hB4
  go_wp2_with fail
  with_reducible refine hct.mono ?_
  rintro e w6 ⟨rfl, hV6, hK6⟩
  change VolX _ F w6 rv4 rv3.2.2 at hV6
  have hB6 := Lib.hid (hkb.out _ _ _ hB5.out hK6 fun b hb => hb)
  have hct2 := ra_read hV6 ((roomy_room rv_r.2.2.2.1).mono (by omega)) 3 (by show 3 < rv3.2.2.size; decide +kernel)
  change Calls _ _ _ _ (BytesPost _ F w6 rv5) at hct2
  simp only [show ((3 : Nat) : Int) = 3 from rfl] at hct2
  clear hct hV6 hK6 hB5
  go_wp2_with fail
  with_reducible refine hct2.mono ?_
  rintro e w7 ⟨A7, c7, rfl, hR7, hc7, hA7, hV7, hK7⟩
  rw [rv_5.2]
  rw [rv_5.1] at hR7 ⊢
  rw [secOf_len]
  have hB7 := Lib.hid (hkb.out _ _ _ hB6.out hK7 fun b hb => hb)
  have hct := ra_whole hV7 ((roomy_room rv_r.2.2.2.2).mono (by omega)) 0 (by rw [rv_s.2.2]; decide)
  change Calls _ _ _ _ (WholePost _ F w7 rv5.2.2.2 rv6) at hct
  simp only [show ((0 : Nat) : Int) = 0 from rfl] at hct
  replace hR7 := Lib.hid hR7
  clear hct2 hV7 hK7 hB6 hc7 hA7
  go_wp2_with fail
  with_reducible refine hct.mono ?_
  rintro e w8 ⟨rfl, hV8, hK8⟩
  rw [rv_6.1, rv_6.2]
  have hR8 := hK8.rd hR7.out fun ad e => .inr ⟨ad, e, rfl⟩
  have hB8 := Lib.hid (hkb.out _ _ _ hB7.out hK8 fun b hb => .inl hb)
  have hcs : Hid (∀ W, Below w8.heap.size w8 W → (convert 32 9 (.slice A7 128 c7)).run Try.prog W = .ok (.string ⟨(secOf 8).toArray⟩) W ∧ Below w8.heap.size w8 W) := Lib.hid fun W hW =>
    ⟨run_string_rd (P := Try.prog) W 32 9 5 Try.underlying32 Try.underlying5 Try.underlying9 A7 128 c7 (secOf 8) (hR8.below hW) (secOf_len 8), hW⟩
  have hsz : ∀ W, Below w8.heap.size w8 W → Calls Try.prog 24 #[.pointer (some ⟨F.v, 0, none⟩)] W fun e w' => e = .returned (.int .i64 4) ∧ ∃ n, w' = W.drewN n := fun W hW => by
    have := ra_size (hV8.below hW)
    rw [rv_s.2.1] at this
    exact this
  have hsta : ∀ W, Below w8.heap.size w8 W → Calls Try.prog 25 #[.pointer (some ⟨F.v, 0, none⟩)] W fun e w' => ∃ m st A c sp mk cu, e = .returned (.agg #[m, st, .slice A 1 c, sp, mk, cu]) ∧ Below W.heap.size W w' := fun W hW => by
    refine (ra_status (hV8.below hW)).mono ?_
    rintro e w' ⟨A, c, rfl, _, _, hb⟩
    rw [show (volDeads rv6.2.2 rv5.2.2.2).length = 1 from rv_d]
    exact ⟨_, _, A, c, _, _, _, rfl, hb⟩
  have hfin : ∀ W, Below w8.heap.size w8 W → Below w.heap.size w W := fun W hW => hB8.out.trans (hW.mono hB8.out.size)
  replace hsz := Lib.hid hsz
  replace hsta := Lib.hid hsta
  replace hfin := Lib.hid hfin
  obtain ⟨sb, hsb⟩ : ∃ sb, sb = secOf 8 := ⟨_, rfl⟩
  have hsl : sb.length = 128 := by rw [hsb]; exact secOf_len 8
  rw [← hsb] at hcs hsec
  replace hsl := Lib.hid hsl
  have hBc := Lib.hid (Below.refl w8.heap.size w8).drew
  clear hct hV8 hK8 hB7 hR7 hR8 hB8 hkb hKw2 hsb
  go_wp2_with fail
  refine wp_region_held_drew (S := (fun W => (convert 32 9 (.slice A7 128 c7)).run Try.prog W = .ok (.string ⟨sb.toArray⟩) W ∧ Below w8.heap.size w8 W)) (by kernel_rfl) ?_ (fun hHeld => ?_)
  · (try dsimp only)
    exact hcs.out _ hBc.out
  refine wpAnyH_take (i := 0) (oi := ⟨_, _, _, _, _, _⟩) (v := ?v1) rfl (by kernel_rfl) (by kernel_rfl) (by kernel_rfl) (fun _ _ _ h => h) (Or.inl ⟨by rfl, ?hy1⟩) (by assumption) ?rest1
  case hy1 => (intro w hSw; (try dsimp only at hSw); go_simp; try with_reducible rfl)
  (try simp only [Act.put, List.setIfInBounds_toArray, List.set_cons_zero, List.set_cons_succ])
  refine wpAnyH_ready (rs := [1]) (by kernel_rfl) (by simp) ?_
  refine AllReadyH.cons (o := ⟨_, _, _, _, _, _⟩) rfl (fun K hK => ?_) AllReadyH.nil
  go_simp
  with_reducible refine (hsz.out _ hBc.out).mono ?_
  rintro e wx ⟨rfl, n1, rfl⟩
  replace hBc := Lib.hid (below_drewN (Below.refl w8.heap.size w8) (1 + n1))
  (try go_wp2_with fail)
  refine hK.out _ _ ?_ (fun hHeld2 => ?_)
  · (try dsimp only)
    first | exact hHeld | exact hcs.out _ hBc.out
  clear hK K
  replace hHeld := hHeld2
  clear hHeld2
  (try simp only [Act.put, List.setIfInBounds_toArray, List.set_cons_zero, List.set_cons_succ])
  refine wpAnyH_take (i := 2) (oi := ⟨_, _, _, _, _, _⟩) (v := ?v2) rfl (by kernel_rfl) (by kernel_rfl) (by kernel_rfl) (fun _ _ _ h => h) (Or.inl ⟨by rfl, ?hy2⟩) (by assumption) ?rest2
  case hy2 => (intro w hSw; (try dsimp only at hSw); go_simp; try with_reducible rfl)
  (try simp only [Act.put, List.setIfInBounds_toArray, List.set_cons_zero, List.set_cons_succ])
  refine wpAnyH_take (i := 3) (oi := ⟨_, _, _, _, _, _⟩) (v := ?v3) rfl (by kernel_rfl) (by kernel_rfl) (by kernel_rfl) (fun _ _ _ h => h) (Or.inl ⟨by rfl, ?hy3⟩) (by assumption) ?rest3
  case hy3 => (intro w hSw; (try dsimp only at hSw); go_simp; try with_reducible rfl)
  (try simp only [Act.put, List.setIfInBounds_toArray, List.set_cons_zero, List.set_cons_succ])
  refine wpAnyH_take (i := 4) (oi := ⟨_, _, _, _, _, _⟩) (v := ?v4) rfl (by kernel_rfl) (by kernel_rfl) (by kernel_rfl) (fun _ _ _ h => h) (Or.inl ⟨by rfl, ?hy4⟩) (by assumption) ?rest4
  case hy4 => (intro w hSw; (try dsimp only at hSw); go_simp; try with_reducible rfl)
  (try simp only [Act.put, List.setIfInBounds_toArray, List.set_cons_zero, List.set_cons_succ])
  refine wpAnyH_take (i := 5) (oi := ⟨_, _, _, _, _, _⟩) (v := ?v5) rfl (by kernel_rfl) (by kernel_rfl) (by kernel_rfl) (fun _ _ _ h => h) (Or.inl ⟨by rfl, ?hy5⟩) (by assumption) ?rest5
  case hy5 => (intro w hSw; (try dsimp only at hSw); go_simp; try with_reducible rfl)
  (try simp only [Act.put, List.setIfInBounds_toArray, List.set_cons_zero, List.set_cons_succ])
  refine wpAnyH_take (i := 6) (oi := ⟨_, _, _, _, _, _⟩) (v := ?v6) rfl (by kernel_rfl) (by kernel_rfl) (by kernel_rfl) (fun _ _ _ h => h) (Or.inl ⟨by rfl, ?hy6⟩) (by assumption) ?rest6
  case hy6 => (intro w hSw; (try dsimp only at hSw); go_simp; try with_reducible rfl)
  (try simp only [Act.put, List.setIfInBounds_toArray, List.set_cons_zero, List.set_cons_succ])
  refine wpAnyH_take (i := 7) (oi := ⟨_, _, _, _, _, _⟩) (v := ?v7) rfl (by kernel_rfl) (by kernel_rfl) (by kernel_rfl) (fun _ _ _ h => h) (Or.inl ⟨by rfl, ?hy7⟩) (by assumption) ?rest7
  case hy7 => (intro w hSw; (try dsimp only at hSw); go_simp; try with_reducible rfl)
  (try simp only [Act.put, List.setIfInBounds_toArray, List.set_cons_zero, List.set_cons_succ])
  refine wpAnyH_take (i := 8) (oi := ⟨_, _, _, _, _, _⟩) (v := ?v8) rfl (by kernel_rfl) (by kernel_rfl) (by kernel_rfl) (fun _ _ _ h => h) (Or.inl ⟨by rfl, ?hy8⟩) (by assumption) ?rest8
  case hy8 => (intro w hSw; (try dsimp only at hSw); go_simp; try with_reducible rfl)
  (try simp only [Act.put, List.setIfInBounds_toArray, List.set_cons_zero, List.set_cons_succ])
  refine wpAnyH_take (i := 9) (oi := ⟨_, _, _, _, _, _⟩) (v := ?v9) rfl (by kernel_rfl) (by kernel_rfl) (by kernel_rfl) (fun _ _ _ h => h) (Or.inl ⟨by rfl, ?hy9⟩) (by assumption) ?rest9
  case hy9 => (intro w hSw; (try dsimp only at hSw); go_simp; try with_reducible rfl)
  (try simp only [Act.put, List.setIfInBounds_toArray, List.set_cons_zero, List.set_cons_succ])
  refine wpAnyH_take (i := 10) (oi := ⟨_, _, _, _, _, _⟩) (v := ?v10) rfl (by kernel_rfl) (by kernel_rfl) (by kernel_rfl) (fun _ _ _ h => h) (Or.inl ⟨by rfl, ?hy10⟩) (by assumption) ?rest10
  case hy10 => (intro w hSw; (try dsimp only at hSw); go_simp; try with_reducible rfl)
  (try simp only [Act.put, List.setIfInBounds_toArray, List.set_cons_zero, List.set_cons_succ])
  refine wpAnyH_take (i := 11) (oi := ⟨_, _, _, _, _, _⟩) (v := ?v11) rfl (by kernel_rfl) (by kernel_rfl) (by kernel_rfl) (fun _ _ _ h => h) (Or.inl ⟨by rfl, ?hy11⟩) (by assumption) ?rest11
  case hy11 => (intro w hSw; (try dsimp only at hSw); go_simp; try with_reducible rfl)
  (try simp only [Act.put, List.setIfInBounds_toArray, List.set_cons_zero, List.set_cons_succ])
  refine wpAnyH_take (i := 12) (oi := ⟨_, _, _, _, _, _⟩) (v := ?v12) rfl (by kernel_rfl) (by kernel_rfl) (by kernel_rfl) (fun _ _ _ h => h) (Or.inl ⟨by rfl, ?hy12⟩) (by assumption) ?rest12
  case hy12 => (intro w hSw; (try dsimp only at hSw); go_simp; try with_reducible rfl)
  (try simp only [Act.put, List.setIfInBounds_toArray, List.set_cons_zero, List.set_cons_succ])
  refine wpAnyH_take (i := 13) (oi := ⟨_, _, _, _, _, _⟩) (v := ?v13) rfl (by kernel_rfl) (by kernel_rfl) (by kernel_rfl) (fun _ _ _ h => h) (Or.inl ⟨by rfl, ?hy13⟩) (by assumption) ?rest13
  case hy13 => (intro w hSw; (try dsimp only at hSw); go_simp; try with_reducible rfl)
  (try simp only [Act.put, List.setIfInBounds_toArray, List.set_cons_zero, List.set_cons_succ])
  refine wpAnyH_take (i := 14) (oi := ⟨_, _, _, _, _, _⟩) (v := ?v14) rfl (by kernel_rfl) (by kernel_rfl) (by kernel_rfl) (fun _ _ _ h => h) (Or.inl ⟨by rfl, ?hy14⟩) (by assumption) ?rest14
  case hy14 => (intro w hSw; (try dsimp only at hSw); go_simp; try with_reducible rfl)
  (try simp only [Act.put, List.setIfInBounds_toArray, List.set_cons_zero, List.set_cons_succ])
  refine wpAnyH_take (i := 15) (oi := ⟨_, _, _, _, _, _⟩) (v := ?v15) rfl (by kernel_rfl) (by kernel_rfl) (by kernel_rfl) (fun _ _ _ h => h) (Or.inl ⟨by rfl, ?hy15⟩) (by assumption) ?rest15
  case hy15 => (intro w hSw; (try dsimp only at hSw); go_simp; try with_reducible rfl)
  (try simp only [Act.put, List.setIfInBounds_toArray, List.set_cons_zero, List.set_cons_succ])
  refine wpAnyH_take (i := 16) (oi := ⟨_, _, _, _, _, _⟩) (v := ?v16) rfl (by kernel_rfl) (by kernel_rfl) (by kernel_rfl) (fun _ _ _ h => h) (Or.inl ⟨by rfl, ?hy16⟩) (by assumption) ?rest16
  case hy16 => (intro w hSw; (try dsimp only at hSw); go_simp; try with_reducible rfl)
  (try simp only [Act.put, List.setIfInBounds_toArray, List.set_cons_zero, List.set_cons_succ])
  refine wpAnyH_take (i := 17) (oi := ⟨_, _, _, _, _, _⟩) (v := ?v17) rfl (by kernel_rfl) (by kernel_rfl) (by kernel_rfl) (fun _ _ _ h => h) (Or.inl ⟨by rfl, ?hy17⟩) (by assumption) ?rest17
  case hy17 => (intro w hSw; (try dsimp only at hSw); go_simp; try with_reducible rfl)
  (try simp only [Act.put, List.setIfInBounds_toArray, List.set_cons_zero, List.set_cons_succ])
  refine wpAnyH_ready (rs := [18]) (by kernel_rfl) (by simp) ?_
  refine AllReadyH.cons (o := ⟨_, _, _, _, _, _⟩) rfl (fun K hK => ?_) AllReadyH.nil
  go_simp
  with_reducible refine (hsec.out _).mono ?_
  rintro e wy ⟨A9, c9, rfl, ho9, hb9⟩
  have hc9 := run_string_rd (P := Try.prog) wy 32 9 5 Try.underlying32 Try.underlying5 Try.underlying9 A9 128 c9 sb ho9.rd hsl.out
  replace hBc := Lib.hid (hBc.out.trans (hb9.mono hBc.out.size))
  clear ho9 hb9
  (try go_wp2_with fail)
  refine hK.out _ _ ?_ (fun hHeld2 => ?_)
  · (try dsimp only)
    first | exact hHeld | exact hcs.out _ hBc.out
  clear hK K
  replace hHeld := hHeld2
  clear hHeld2
  (try simp only [Act.put, List.setIfInBounds_toArray, List.set_cons_zero, List.set_cons_succ])
  refine wpAnyH_ready (rs := [19]) (by kernel_rfl) (by simp) ?_
  refine AllReadyH.cons (o := ⟨_, _, _, _, _, _⟩) rfl (fun K hK => ?_) AllReadyH.nil
  go_simp
  refine hK.out _ _ ?_ (fun hHeld2 => ?_)
  · (try dsimp only)
    first | exact hHeld | exact hcs.out _ hBc.out
  clear hK K
  replace hHeld := hHeld2
  clear hHeld2
  (try simp only [Act.put, List.setIfInBounds_toArray, List.set_cons_zero, List.set_cons_succ])
  refine wpAnyH_take (i := 20) (oi := ⟨_, _, _, _, _, _⟩) (v := ?v18) rfl (by kernel_rfl) (by kernel_rfl) (by kernel_rfl) (fun _ _ _ h => h) (Or.inl ⟨by rfl, ?hy18⟩) (by assumption) ?rest18
  case hy18 => (intro w hSw; (try dsimp only at hSw); go_simp; try with_reducible rfl)
  (try simp only [Act.put, List.setIfInBounds_toArray, List.set_cons_zero, List.set_cons_succ])
  refine wpAnyH_take (i := 21) (oi := ⟨_, _, _, _, _, _⟩) (v := ?v19) rfl (by kernel_rfl) (by kernel_rfl) (by kernel_rfl) (fun _ _ _ h => h) (Or.inl ⟨by rfl, ?hy19⟩) (by assumption) ?rest19
  case hy19 => (intro w hSw; (try dsimp only at hSw); go_simp; try with_reducible rfl)
  (try simp only [Act.put, List.setIfInBounds_toArray, List.set_cons_zero, List.set_cons_succ])
  refine wpAnyH_take (i := 22) (oi := ⟨_, _, _, _, _, _⟩) (v := ?v20) rfl (by kernel_rfl) (by kernel_rfl) (by kernel_rfl) (fun _ _ _ h => h) (Or.inl ⟨by rfl, ?hy20⟩) (by assumption) ?rest20
  case hy20 => (intro w hSw; (try dsimp only at hSw); go_simp; try with_reducible rfl)
  (try simp only [Act.put, List.setIfInBounds_toArray, List.set_cons_zero, List.set_cons_succ])
  refine wpAnyH_take (i := 23) (oi := ⟨_, _, _, _, _, _⟩) (v := ?v21) rfl (by kernel_rfl) (by kernel_rfl) (by kernel_rfl) (fun _ _ _ h => h) (Or.inl ⟨by rfl, ?hy21⟩) (by assumption) ?rest21
  case hy21 => (intro w hSw; (try dsimp only at hSw); go_simp; try with_reducible rfl)
  (try simp only [Act.put, List.setIfInBounds_toArray, List.set_cons_zero, List.set_cons_succ])
  refine wpAnyH_take (i := 24) (oi := ⟨_, _, _, _, _, _⟩) (v := ?v22) rfl (by kernel_rfl) (by kernel_rfl) (by kernel_rfl) (fun _ _ _ h => h) (Or.inl ⟨by rfl, ?hy22⟩) (by assumption) ?rest22
  case hy22 => (intro w hSw; (try dsimp only at hSw); go_simp; try with_reducible rfl)
  (try simp only [Act.put, List.setIfInBounds_toArray, List.set_cons_zero, List.set_cons_succ])
  refine wpAnyH_take (i := 25) (oi := ⟨_, _, _, _, _, _⟩) (v := ?v23) rfl (by kernel_rfl) (by kernel_rfl) (by kernel_rfl) (fun _ _ _ h => h) (Or.inl ⟨by rfl, ?hy23⟩) (by assumption) ?rest23
  case hy23 => (intro w hSw; (try dsimp only at hSw); go_simp; try with_reducible rfl)
  (try simp only [Act.put, List.setIfInBounds_toArray, List.set_cons_zero, List.set_cons_succ])
  refine wpAnyH_take (i := 26) (oi := ⟨_, _, _, _, _, _⟩) (v := ?v24) rfl (by kernel_rfl) (by kernel_rfl) (by kernel_rfl) (fun _ _ _ h => h) (Or.inl ⟨by rfl, ?hy24⟩) (by assumption) ?rest24
  case hy24 => (intro w hSw; (try dsimp only at hSw); go_simp; try with_reducible rfl)
  (try simp only [Act.put, List.setIfInBounds_toArray, List.set_cons_zero, List.set_cons_succ])
  refine wpAnyH_take (i := 27) (oi := ⟨_, _, _, _, _, _⟩) (v := ?v25) rfl (by kernel_rfl) (by kernel_rfl) (by kernel_rfl) (fun _ _ _ h => h) (Or.inl ⟨by rfl, ?hy25⟩) (by assumption) ?rest25
  case hy25 => (intro w hSw; (try dsimp only at hSw); go_simp; try with_reducible rfl)
  (try simp only [Act.put, List.setIfInBounds_toArray, List.set_cons_zero, List.set_cons_succ])
  refine wpAnyH_take (i := 28) (oi := ⟨_, _, _, _, _, _⟩) (v := ?v26) rfl (by kernel_rfl) (by kernel_rfl) (by kernel_rfl) (fun _ _ _ h => h) (Or.inl ⟨by rfl, ?hy26⟩) (by assumption) ?rest26
  case hy26 => (intro w hSw; (try dsimp only at hSw); go_simp; try with_reducible rfl)
  (try simp only [Act.put, List.setIfInBounds_toArray, List.set_cons_zero, List.set_cons_succ])
  refine wpAnyH_take (i := 29) (oi := ⟨_, _, _, _, _, _⟩) (v := ?v27) rfl (by kernel_rfl) (by kernel_rfl) (by kernel_rfl) (fun _ _ _ h => h) (Or.inl ⟨by rfl, ?hy27⟩) (by assumption) ?rest27
  case hy27 => (intro w hSw; (try dsimp only at hSw); go_simp; try with_reducible rfl)
  (try simp only [Act.put, List.setIfInBounds_toArray, List.set_cons_zero, List.set_cons_succ])
  refine wpAnyH_take (i := 30) (oi := ⟨_, _, _, _, _, _⟩) (v := ?v28) rfl (by kernel_rfl) (by kernel_rfl) (by kernel_rfl) (fun _ _ _ h => h) (Or.inl ⟨by rfl, ?hy28⟩) (by assumption) ?rest28
  case hy28 => (intro w hSw; (try dsimp only at hSw); go_simp; try with_reducible rfl)
  (try simp only [Act.put, List.setIfInBounds_toArray, List.set_cons_zero, List.set_cons_succ])
  refine wpAnyH_take (i := 31) (oi := ⟨_, _, _, _, _, _⟩) (v := ?v29) rfl (by kernel_rfl) (by kernel_rfl) (by kernel_rfl) (fun _ _ _ h => h) (Or.inl ⟨by rfl, ?hy29⟩) (by assumption) ?rest29
  case hy29 => (intro w hSw; (try dsimp only at hSw); go_simp; try with_reducible rfl)
  (try simp only [Act.put, List.setIfInBounds_toArray, List.set_cons_zero, List.set_cons_succ])
  refine wpAnyH_ready (rs := [32]) (by kernel_rfl) (by simp) ?_
  refine AllReadyH.cons (o := ⟨_, _, _, _, _, _⟩) rfl (fun K hK => ?_) AllReadyH.nil
  go_simp
  with_reducible refine (hsta.out _ hBc.out).mono ?_
  rintro e wz ⟨q1, q2, q3, q4, q5, q6, q7, rfl, hbz⟩
  replace hBc := Lib.hid (hBc.out.trans (hbz.mono hBc.out.size))
  clear hbz
  (try go_wp2_with fail)
  refine hK.out _ _ ?_ (fun hHeld2 => ?_)
  · (try dsimp only)
    first | exact hHeld | exact hcs.out _ hBc.out
  clear hK K
  replace hHeld := hHeld2
  clear hHeld2
  (try simp only [Act.put, List.setIfInBounds_toArray, List.set_cons_zero, List.set_cons_succ])
  refine wpAnyH_ready (rs := [33]) (by kernel_rfl) (by simp) ?_
  refine AllReadyH.cons (o := ⟨_, _, _, _, _, _⟩) rfl (fun K hK => ?_) AllReadyH.nil
  go_simp
  refine hK.out _ _ ?_ (fun hHeld2 => ?_)
  · (try dsimp only)
    first | exact hHeld | exact hcs.out _ hBc.out
  clear hK K
  replace hHeld := hHeld2
  clear hHeld2
  (try simp only [Act.put, List.setIfInBounds_toArray, List.set_cons_zero, List.set_cons_succ])
  refine wpAnyH_take (i := 34) (oi := ⟨_, _, _, _, _, _⟩) (v := ?v30) rfl (by kernel_rfl) (by kernel_rfl) (by kernel_rfl) (fun _ _ _ h => h) (Or.inl ⟨by rfl, ?hy30⟩) (by assumption) ?rest30
  case hy30 => (intro w hSw; (try dsimp only at hSw); go_simp; try with_reducible rfl)
  (try simp only [Act.put, List.setIfInBounds_toArray, List.set_cons_zero, List.set_cons_succ])
  refine wpAnyH_take (i := 35) (oi := ⟨_, _, _, _, _, _⟩) (v := ?v31) rfl (by kernel_rfl) (by kernel_rfl) (by kernel_rfl) (fun _ _ _ h => h) (Or.inl ⟨by rfl, ?hy31⟩) (by assumption) ?rest31
  case hy31 => (intro w hSw; (try dsimp only at hSw); go_simp; try with_reducible rfl)
  (try simp only [Act.put, List.setIfInBounds_toArray, List.set_cons_zero, List.set_cons_succ])
  refine wpAnyH_take (i := 36) (oi := ⟨_, _, _, _, _, _⟩) (v := ?v32) rfl (by kernel_rfl) (by kernel_rfl) (by kernel_rfl) (fun _ _ _ h => h) (Or.inl ⟨by rfl, ?hy32⟩) (by assumption) ?rest32
  case hy32 => (intro w hSw; (try dsimp only at hSw); go_simp; try with_reducible rfl)
  (try simp only [Act.put, List.setIfInBounds_toArray, List.set_cons_zero, List.set_cons_succ])
  refine wpAnyH_take (i := 37) (oi := ⟨_, _, _, _, _, _⟩) (v := ?v33) rfl (by kernel_rfl) (by kernel_rfl) (by kernel_rfl) (fun _ _ _ h => h) (Or.inl ⟨by rfl, ?hy33⟩) (by assumption) ?rest33
  case hy33 => (intro w hSw; (try dsimp only at hSw); go_simp; try with_reducible rfl)
  (try simp only [Act.put, List.setIfInBounds_toArray, List.set_cons_zero, List.set_cons_succ])
  refine wpAnyH_done (by kernel_rfl) ?_ _
  go_wp2_with fail
  go_ret
  exact ⟨rfl, hfin.out _ hBc.out⟩
end
end Go.Proofs.Ytajnlhalanhicaa

/-
  THE WALK over the shelf's Write.
-/
import Derived.Test.YtikfbhepnnbdoaaShA
import Derived.Test.YtikfbhepnnbdoaaMemS
import Derived.Test.YtikfbhepnnbdoaaMemA
import Derived.Test.YtikfbhepnnbdoaaMapK
namespace Go.Proofs.Ytikfbhepnnbdoaa
set_option linter.all false
open Go.RowKit

theorem Try.infoWrite : (Try.prog.info? 92).map (fun i => (i.zero, i.size, i.bytes)) = some (some (.agg #[.int .i64 0, .string ⟨#[]⟩]), 2, 24) := by kernel_rfl

section
variable {w : World} {F : ShF} {s : ShM} {f : Nat → Nat → Nat}

theorem waitV_one (x : Nat × Bytes) : ∀ u ∈ waitV x, u.oneCell' = true := by
  intro u hu
  simp only [waitV, List.mem_cons, List.not_mem_nil, or_false] at hu
  rcases hu with rfl | rfl <;> rfl
theorem waitsOf_app (ws : List (Nat × Bytes)) (n m : Nat) (b : Bytes) : waitsOf (ws ++ [(n, b)]) m = waitsOf ws m + if n = m then 1 else 0 := by
  simp only [waitsOf, List.filter_append, List.length_append]
  by_cases h : n = m
  · simp [h]
  · simp [h]
theorem seenF_write {s s2 : ShM} (hs : s2.disks = s.disks) {d : Nat} (hd : d < s.disks.length) (n : Nat) (b : Bytes) (x y : Nat) :
    seenF (s2.setDisk d ((s.disk d).write n b)) x y = updF (seenF s) d n (seenF s d n + 1) x y := by
  simp only [seenF, ShM.setDisk, ShM.disk, List.length_set, hs, if_pos hd, updF, DiskM.write]
  by_cases hx : x = d
  · subst hx
    simp only [if_pos hd, List.getD_eq_getElem?_getD, List.getElem?_set_self hd, Option.getD_some, waitsOf_app]
    by_cases hy : y = n
    · subst hy
      simp
    · have hy' : ¬ n = y := fun e => hy e.symm
      simp [hy, hy']
  · have hx' : ¬ d = x := fun e => hx e.symm
    simp [hx, hx', List.getD_eq_getElem?_getD, List.getElem?_set]
theorem setBlk_other (w : World) (b : Nat) (o : Obj) (k : Nat) (h : k ≠ b) : (setBlk w b o).heap[k]? = w.heap[k]? := by
  simp only [setBlk, Array.getElem?_setIfInBounds_ne (fun e => h e.symm)]
/-- what 'seen[d, n]++' meets -/
theorem bump_facts {X : World} {F : ShF} {s : ShM} {fq : Nat → Nat → Nat} (hS : ShAtM X F s fq) (d n q : Nat) (hd : smallN d) (hn : smallN n) (hq : fq d n = q) (hqb : q ≤ 1000000000000) :
    ∃ (st : Nat) (Y1 Y2 : World), (Instr.lookup 66 (.map (some F.gm)) (.agg #[.int .i64 (d : Int), .int .i64 (n : Int)]) false).run Try.prog X.drew = .ok (.int .i64 (q : Int)) X.drew ∧
      (Instr.mapEntry 66 (.map (some F.gm)) (.agg #[.int .i64 (d : Int), .int .i64 (n : Int)])).run Try.prog X.drew = .ok (.tuple #[.int .i64 (q : Int), .int .i64 (st : Int)]) Y1 ∧
      (Instr.lookup 66 (.map (some F.gm)) (.agg #[.int .i64 (d : Int), .int .i64 (n : Int)]) false).run Try.prog Y1 = .ok (.int .i64 (q : Int)) Y1 ∧
      (Instr.entryStore 66 (.map (some F.gm)) (.int .i64 (st : Int)) (.int .i64 (IntKind.i64.wrap ((q : Int) + 1)))).run Try.prog Y1 = .ok () Y2 ∧
      X.drew.cell? ⟨F.g, 5, none⟩ = some (.map (some F.gm)) ∧ Y1.cell? ⟨F.g, 5, none⟩ = some (.map (some F.gm)) ∧ Y2.cell? ⟨F.g, 5, none⟩ = some (.map (some F.gm)) ∧
      ShAtM Y2 F s (updF fq d n (q + 1)) ∧ Turns F.blocks X Y2 := by
  subst hq
  have h0 : MapP X.drew F.gm fq := hS.seen
  obtain ⟨st, o1, hE, hM⟩ := h0.entry Try.pairMap d n hd hn
  obtain ⟨o2, hSt, hM2⟩ := hM.store (P := Try.prog) (mt := 66) hd hn (fq d n + 1)
  have hc := hS.c5
  have hb1 : ∀ k, k ≠ F.gm → (setBlk X.drew F.gm o1).heap[k]? = X.heap[k]? := fun k hk => setBlk_other _ _ _ k hk
  have hb2 : ∀ k, k ≠ F.gm → (setBlk (setBlk X.drew F.gm o1) F.gm o2).heap[k]? = X.heap[k]? := fun k hk => (setBlk_other _ _ _ k hk).trans (hb1 k hk)
  refine ⟨st, setBlk X.drew F.gm o1, setBlk (setBlk X.drew F.gm o1) F.gm o2, h0.look Try.pairMap d n hd hn, hE, hM.toP.look Try.pairMap d n hd hn, ?_, hc, (World.cell?_of_block (hb1 _ hS.sep.g_gm)).trans hc, (World.cell?_of_block (hb2 _ hS.sep.g_gm)).trans hc, hS.map hb2 hM2,
    (((Turns.refl _ _).drew).setBlk F.mem_gm _).setBlk F.mem_gm _⟩
  have e : IntKind.i64.wrap (((fq d n : Nat) : Int) + 1) = ((fq d n + 1 : Nat) : Int) := by
    have : ∀ x : Int, 0 ≤ x → x ≤ 1000000000001 → IntKind.i64.wrap x = x := by
      intro x h1 h2
      simp only [IntKind.wrap, IntKind.bits, IntKind.signed, if_true]
      simp
      omega
    rw [this _ (by omega) (by omega)]
    omega
  rw [e]
  exact hSt
theorem has_of {s : ShM} {d n : Int} (h : s.has d n = true) : (0 ≤ d ∧ d < s.disks.length) ∧ 0 ≤ n ∧ n < s.sectors := by
  simp only [ShM.has, decide_eq_true_eq] at h
  omega

set_option maxHeartbeats 1000000 in
theorem sh_write (hS : ShAt w F s) (d n : Int) (A : Option Addr) (m c : Nat) (bs : Bytes) (hr : Rd w A bs) (hm : bs.length = m) (hA : ∀ ad, A = some ad → ad.block ∉ F.blocks)
    (hroom : (s.disk d.toNat).waits.length ≤ 1000000000000) :
    Calls Try.prog 25 #[.pointer (some ⟨F.g, 0, none⟩), .int .i64 d, .int .i64 n, .slice A m c] w fun e w' =>
      ∃ F', e = .returned (.int .i64 (s.writeR d n bs).1) ∧ ShAt w' F' (s.writeR d n bs).2 ∧ ShTo w F w' F' ∧ ((s.writeR d n bs).1 ≠ 0 → F' = F) := by
  have hhas := sh_has hS d n
  have hlt := hS.lt _ F.mem_g
  by_cases hh : s.has d n = true ∧ bs.length = 128
  · obtain ⟨hh, hl⟩ := hh
    obtain ⟨⟨hd0, hd1⟩, hn0, hn1⟩ := has_of hh
    obtain ⟨d, rfl⟩ := Int.eq_ofNat_of_zero_le hd0
    obtain ⟨n, rfl⟩ := Int.eq_ofNat_of_zero_le hn0
    have hd' : d < s.disks.length := by omega
    have hdk : s.disk d = s.disks[d] := by simp [ShM.disk, hd']
    have hready := sh_ready hS d hd' true
    have hres : s.writeR d n bs = (if s.why d = 0 then (0, (s.spend.tick).setDisk d ((s.disk d).write n bs)) else (s.why d, s)) := by
      simp [ShM.writeR, hh, hl]
    rw [hres]
    have hm128 : m = 128 := by omega
    subst hm128
    rw [hh] at hhas
    simp only [Int.toNat_natCast] at hroom
    by_cases hw : s.why d = 0
    · rw [if_pos hw]
      simp only [hw, true_and, if_true] at hready
      go_enter Try.func25, Try.ntmps25
      go_wp2_with fail
      refine hhas.mono ?_
      rintro e w' ⟨rfl, rfl⟩
      go_wp2_with fail
      refine hready.mono ?_
      rintro e w1 ⟨rfl, hS1, hT1⟩
      have hc4 := hS1.c4
      have hf4 := hS1.frozen 4
      go_wp2_with fail
      have hS2 := hS1.setCount (wrap64 (s.spend.count + 1))
      have hT2 := hT1.setCell (a := ⟨F.g, 4, none⟩) F.mem_g (.int .i64 (wrap64 (s.spend.count + 1)))
      have hs2 : { s.spend with count := wrap64 (s.spend.count + 1) } = s.spend.tick := rfl
      rw [hs2] at hS2
      have hdisks : s.spend.tick.disks = s.disks := by simp only [ShM.tick, ShM.spend]; split <;> rfl
      have hsect : s.spend.tick.sectors = s.sectors := by simp only [ShM.tick, ShM.spend]; split <;> rfl
      generalize hs2e : s.spend.tick = s2 at *
      replace hs2e := Lib.hid hs2e
      generalize w1.setCell ⟨F.g, 4, none⟩ (.int .i64 (wrap64 (s.spend.count + 1))) = W at *
      have hd2 : d < s2.disks.length := by rw [hdisks]; exact hd'
      have hd2' : d < F.fs.length := by rw [hS2.fs]; exact hd2
      have hc2 := hS2.c2
      have hc5 := hS2.c5
      have hwc := hS2.d1 hd2
      have hwf := hS2.dfrozen (d * 3 + 1)
      have hrow := hS2.waits d hd2
      have hle17 := hS2.ok.disks17
      have ek : s2.disks[d] = s.disk d := by rw [hdk]; simp only [hdisks]
      have hseen : ∀ x y, seenF (s2.setDisk d ((s.disk d).write n bs)) x y = updF (seenF s) d n (seenF s d n + 1) x y := seenF_write hdisks hd' n bs
      rw [ek] at hrow
      have hkw := hS2.ok.waits _ (List.getElem_mem hd2)
      rw [ek] at hkw
      have hsee : seenF s d n ≤ 1000000000000 := by
        have e1 : seenF s d n = waitsOf (s.disk d).waits n := by simp only [seenF, if_pos hd']
        rw [e1]
        exact Nat.le_trans (List.length_filter_le _ _) hroom
      have hdl : (d : Int) < s2.disks.length := by rw [hdisks]; exact hd1
      have hgm9 := hS2.sep
      clear hres hs2 hdk hready hhas hc4 hf4 hT1 hS1
      generalize hke : s.disk d = k at *
      replace hke := Lib.hid hke
      generalize hsf : seenF s d n = q at *
      generalize seenF s = fq at *
      replace hdisks := Lib.hid hdisks
      replace ek := Lib.hid ek
      replace hsf := Lib.hid hsf
      have hrW : Rd W A bs := ⟨hr.1, hr.2.1, fun ad e i hi => (World.cell?_of_block (hT2.block _ (World.block_lt_of_cell? w _ (hr.2.2 ad e i hi)) (by rw [add_block]; exact hA ad e))).trans (hr.2.2 ad e i hi)⟩
      have hkeep : ∀ W', Turns (F.gd :: (F.fs[d]).wv.ownBlock.toList) W W' → W'.cell? ⟨F.g, 2, none⟩ = some (.slice (some ⟨F.gd, 0, none⟩) s2.disks.length F.cd) ∧ (convert 28 9 (.slice A 128 c)).run Try.prog W' = .ok (.string ⟨bs.toArray⟩) W' := by
        intro W' hT
        have hg1 : F.g ∉ (F.gd :: (F.fs[d]).wv.ownBlock.toList) := by
          simp only [List.mem_cons, Option.mem_toList, not_or]
          exact ⟨hS2.sep.g_gd, fun e => (hS2.sep.out d hd2' F.g (by simp [DiskF.blocks, e])).1 rfl⟩
        refine ⟨(World.cell?_of_block (hT.block F.g (hS2.lt _ F.mem_g) hg1)).trans hc2, ?_⟩
        refine run_string_rd (P := Try.prog) W' 28 9 5 Try.underlying28 Try.underlying5 Try.underlying9 A 128 c bs ?_ hl
        refine ⟨hrW.1, hrW.2.1, fun ad e i hi => (World.cell?_of_block (hT.block _ (World.block_lt_of_cell? W _ (hrW.2.2 ad e i hi)) ?_)).trans (hrW.2.2 ad e i hi)⟩
        rw [add_block]
        intro hm
        refine hA ad e ?_
        simp only [List.mem_cons, Option.mem_toList] at hm
        rcases hm with hm | hm
        · rw [hm]; exact F.mem_gd
        · exact F.mem_f hd2' (by simp [DiskF.blocks, hm])
      have hgdn : F.gd ∉ (F.fs[d]).wv.ownBlock.toList := by
        intro hm
        exact (hS2.sep.out d hd2' F.gd (by simp only [DiskF.blocks, List.mem_cons]; exact .inr hm)).2.1 rfl
      have hgdlt := hS2.lt _ F.mem_gd
      have hnew := World.new_ne W _ hwc
      refine wp_region_held_drew (S := (fun w' => w'.cell? ⟨F.g, 2, none⟩ = some (.slice (some ⟨F.gd, 0, none⟩) s2.disks.length F.cd) ∧ (convert 28 9 (.slice A 128 c)).run Try.prog w' = .ok (.string ⟨bs.toArray⟩) w')) (by kernel_rfl) (by (try dsimp only); refine hkeep _ ?_; repeat (first | exact Turns.refl _ _ | assumption | refine Turns.drew ?_ | refine Turns.alloc ?_ _ | refine Turns.setCell ?_ (by simp) _)) (fun hHeld => ?_)
      refine wpAnyH_take (i := 0) (oi := ⟨_, _, _, _, _, _⟩) (v := ?v1) rfl (by kernel_rfl) (by kernel_rfl) (by kernel_rfl) (fun _ _ _ h => h) (Or.inl ⟨by rfl, ?hy1⟩) (by assumption) ?rest1
      case hy1 => (intro w hSw; (try dsimp only at hSw); go_simp; try with_reducible rfl)
      (try simp only [Act.put, List.setIfInBounds_toArray, List.set_cons_zero, List.set_cons_succ])
      refine wpAnyH_take (i := 1) (oi := ⟨_, _, _, _, _, _⟩) (v := ?v2) rfl (by kernel_rfl) (by kernel_rfl) (by kernel_rfl) (fun _ _ _ h => h) (Or.inl ⟨by rfl, ?hy2⟩) (by assumption) ?rest2
      case hy2 => (intro w hSw; (try dsimp only at hSw); go_simp; try with_reducible rfl)
      (try simp only [Act.put, List.setIfInBounds_toArray, List.set_cons_zero, List.set_cons_succ])
      refine wpAnyH_take (i := 2) (oi := ⟨_, _, _, _, _, _⟩) (v := ?v3) rfl (by kernel_rfl) (by kernel_rfl) (by kernel_rfl) (fun _ _ _ h => h) (Or.inl ⟨by rfl, ?hy3⟩) (by assumption) ?rest3
      case hy3 => (intro w hSw; (try dsimp only at hSw); go_simp; try with_reducible rfl)
      (try simp only [Act.put, List.setIfInBounds_toArray, List.set_cons_zero, List.set_cons_succ])
      refine wpAnyH_take (i := 3) (oi := ⟨_, _, _, _, _, _⟩) (v := ?v4) rfl (by kernel_rfl) (by kernel_rfl) (by kernel_rfl) (fun _ _ _ h => h) (Or.inl ⟨by rfl, ?hy4⟩) (by assumption) ?rest4
      case hy4 => (intro w hSw; (try dsimp only at hSw); go_simp; try with_reducible rfl)
      (try simp only [Act.put, List.setIfInBounds_toArray, List.set_cons_zero, List.set_cons_succ])
      refine wpAnyH_take (i := 4) (oi := ⟨_, _, _, _, _, _⟩) (v := ?v5) rfl (by kernel_rfl) (by kernel_rfl) (by kernel_rfl) (fun _ _ _ h => h) (Or.inl ⟨by rfl, ?hy5⟩) (by assumption) ?rest5
      case hy5 => (intro w hSw; (try dsimp only at hSw); go_simp; try with_reducible rfl)
      (try simp only [Act.put, List.setIfInBounds_toArray, List.set_cons_zero, List.set_cons_succ])
      refine wpAnyH_take (i := 5) (oi := ⟨_, _, _, _, _, _⟩) (v := ?v6) rfl (by kernel_rfl) (by kernel_rfl) (by kernel_rfl) (fun _ _ _ h => h) (Or.inl ⟨by rfl, ?hy6⟩) (by assumption) ?rest6
      case hy6 => (intro w hSw; (try dsimp only at hSw); go_simp; try with_reducible rfl)
      (try simp only [Act.put, List.setIfInBounds_toArray, List.set_cons_zero, List.set_cons_succ])
      refine wpAnyH_take (i := 6) (oi := ⟨_, _, _, _, _, _⟩) (v := ?v7) rfl (by kernel_rfl) (by kernel_rfl) (by kernel_rfl) (fun _ _ _ h => h) (Or.inl ⟨by rfl, ?hy7⟩) (by assumption) ?rest7
      case hy7 => (intro w hSw; (try dsimp only at hSw); go_simp; try with_reducible rfl)
      (try simp only [Act.put, List.setIfInBounds_toArray, List.set_cons_zero, List.set_cons_succ])
      refine wpAnyH_take (i := 7) (oi := ⟨_, _, _, _, _, _⟩) (v := ?v8) rfl (by kernel_rfl) (by kernel_rfl) (by kernel_rfl) (fun _ _ _ h => h) (Or.inl ⟨by rfl, ?hy8⟩) (by assumption) ?rest8
      case hy8 => (intro w hSw; (try dsimp only at hSw); go_simp; try with_reducible rfl)
      (try simp only [Act.put, List.setIfInBounds_toArray, List.set_cons_zero, List.set_cons_succ])
      refine wpAnyH_take (i := 8) (oi := ⟨_, _, _, _, _, _⟩) (v := ?v9) rfl (by kernel_rfl) (by kernel_rfl) (by kernel_rfl) (fun _ _ _ h => h) (Or.inl ⟨by rfl, ?hy9⟩) (by assumption) ?rest9
      case hy9 => (intro w hSw; (try dsimp only at hSw); go_simp; try with_reducible rfl)
      (try simp only [Act.put, List.setIfInBounds_toArray, List.set_cons_zero, List.set_cons_succ])
      refine wpAnyH_take (i := 9) (oi := ⟨_, _, _, _, _, _⟩) (v := ?v10) rfl (by kernel_rfl) (by kernel_rfl) (by kernel_rfl) (fun _ _ _ h => h) (Or.inl ⟨by rfl, ?hy10⟩) (by assumption) ?rest10
      case hy10 => (intro w hSw; (try dsimp only at hSw); go_simp; try with_reducible rfl)
      (try simp only [Act.put, List.setIfInBounds_toArray, List.set_cons_zero, List.set_cons_succ])
      refine wpAnyH_take (i := 10) (oi := ⟨_, _, _, _, _, _⟩) (v := ?v11) rfl (by kernel_rfl) (by kernel_rfl) (by kernel_rfl) (fun _ _ _ h => h) (Or.inl ⟨by rfl, ?hy11⟩) (by assumption) ?rest11
      case hy11 => (intro w hSw; (try dsimp only at hSw); go_simp; try with_reducible rfl)
      (try simp only [Act.put, List.setIfInBounds_toArray, List.set_cons_zero, List.set_cons_succ])
      refine wpAnyH_take (i := 11) (oi := ⟨_, _, _, _, _, _⟩) (v := ?v12) rfl (by kernel_rfl) (by kernel_rfl) (by kernel_rfl) (fun _ _ _ h => h) (Or.inl ⟨by rfl, ?hy12⟩) (by assumption) ?rest12
      case hy12 => (intro w hSw; (try dsimp only at hSw); go_simp; try with_reducible rfl)
      (try simp only [Act.put, List.setIfInBounds_toArray, List.set_cons_zero, List.set_cons_succ])
      refine wpAnyH_take (i := 13) (oi := ⟨_, _, _, _, _, _⟩) (v := ?v13) rfl (by kernel_rfl) (by kernel_rfl) (by kernel_rfl) (fun _ _ _ h => h) (Or.inl ⟨by rfl, ?hy13⟩) (by assumption) ?rest13
      case hy13 => (intro w hSw; (try dsimp only at hSw); go_simp; try with_reducible rfl)
      (try simp only [Act.put, List.setIfInBounds_toArray, List.set_cons_zero, List.set_cons_succ])
      refine wpAnyH_take (i := 14) (oi := ⟨_, _, _, _, _, _⟩) (v := ?v14) rfl (by kernel_rfl) (by kernel_rfl) (by kernel_rfl) (fun _ _ _ h => h) (Or.inl ⟨by rfl, ?hy14⟩) (by assumption) ?rest14
      case hy14 => (intro w hSw; (try dsimp only at hSw); go_simp; try with_reducible rfl)
      (try simp only [Act.put, List.setIfInBounds_toArray, List.set_cons_zero, List.set_cons_succ])
      refine wpAnyH_take (i := 15) (oi := ⟨_, _, _, _, _, _⟩) (v := ?v15) rfl (by kernel_rfl) (by kernel_rfl) (by kernel_rfl) (fun _ _ _ h => h) (Or.inl ⟨by rfl, ?hy15⟩) (by assumption) ?rest15
      case hy15 => (intro w hSw; (try dsimp only at hSw); go_simp; try with_reducible rfl)
      (try simp only [Act.put, List.setIfInBounds_toArray, List.set_cons_zero, List.set_cons_succ])
      refine wpAnyH_take (i := 16) (oi := ⟨_, _, _, _, _, _⟩) (v := ?v16) rfl (by kernel_rfl) (by kernel_rfl) (by kernel_rfl) (fun _ _ _ h => h) (Or.inl ⟨by rfl, ?hy16⟩) (by assumption) ?rest16
      case hy16 => (intro w hSw; (try dsimp only at hSw); go_simp; try with_reducible rfl)
      (try simp only [Act.put, List.setIfInBounds_toArray, List.set_cons_zero, List.set_cons_succ])
      refine wpAnyH_ready (rs := [12, 17]) (by kernel_rfl) (by simp) ?_
      refine AllReadyH.cons (o := ⟨_, _, _, _, _, _⟩) rfl (fun K hK => ?_) (AllReadyH.cons (o := ⟨_, _, _, _, _, _⟩) rfl (fun K hK => ?_) AllReadyH.nil)
      ·
        go_simp
        refine hK.out _ _ ?_ (fun hHeld => ?_)
        · (refine hkeep _ ?_; repeat (first | exact Turns.refl _ _ | assumption | refine Turns.drew ?_ | refine Turns.alloc ?_ _ | refine Turns.setCell ?_ (by simp) _))
        clear hK K
        (try simp only [Act.put, List.setIfInBounds_toArray, List.set_cons_zero, List.set_cons_succ])
        refine wpAnyH_ready (rs := [17]) (by kernel_rfl) (by simp) ?_
        refine AllReadyH.cons (o := ⟨_, _, _, _, _, _⟩) rfl (fun K hK => ?_) AllReadyH.nil
        go_simp
        refine hK.out _ _ ?_ (fun hHeld => ?_)
        · (refine hkeep _ ?_; repeat (first | exact Turns.refl _ _ | assumption | refine Turns.drew ?_ | refine Turns.alloc ?_ _ | refine Turns.setCell ?_ (by simp) _))
        clear hK K
        (try simp only [Act.put, List.setIfInBounds_toArray, List.set_cons_zero, List.set_cons_succ])
        refine wpAnyH_ready (rs := [18]) (by kernel_rfl) (by simp) ?_
        refine AllReadyH.cons (o := ⟨_, _, _, _, _, _⟩) rfl (fun K hK => ?_) AllReadyH.nil
        refine step_append_at (by rfl) (.tmp 47) (.tmp 52) 72 (by rfl) 0 92 (.agg #[.int .i64 0, .string ⟨#[]⟩]) 2 24 Try.underlying72 Try.infoWrite rfl (by omega)
          (F.fs[d]).wv k.waits.length (waitsV k.waits) (waitV (n, bs)) (some ⟨W.heap.size, 0, none⟩) 1 1 (by rfl) (by rfl) (hrow.alloc _).drew (RdV.lit W _ (waitV (n, bs)) (by simp [waitV])).drew (waitV_one _) (by rfl) (by simp only [maxLen]; omega) (by omega) (Nat.zero_le _) ?_
        intro v9 w9 hown9 hg9 hat9
        have hT9 : Turns (F.fs[d]).wv.ownBlock.toList W w9 := Turns.grown (((Turns.refl _ _).alloc _).drew) hg9 (fun k hk => .inl (by simp [hk]))
        have hT9' : Turns (F.gd :: (F.fs[d]).wv.ownBlock.toList) W w9 := hT9.mono (fun b hb => by simp only [List.mem_cons]; exact .inr hb)
        have hc9 := (World.cell?_of_block (hT9.block F.gd (hS2.lt _ F.mem_gd) hgdn) (a := ⟨F.gd, d * 3 + 1, none⟩)).trans hwc
        have hf9 := (World.frozen?_of_block (hT9.block F.gd (hS2.lt _ F.mem_gd) hgdn) (a := ⟨F.gd, d * 3 + 1, none⟩)).trans hwf
        obtain ⟨A9, c9, rfl, hcc9, _⟩ := ownsRow_form hown9
        refine hK.out _ _ ?_ (fun hHeld => ?_)
        · (refine hkeep _ ?_; repeat (first | exact Turns.refl _ _ | assumption | refine Turns.drew ?_ | refine Turns.alloc ?_ _ | refine Turns.setCell ?_ (by simp) _))
        clear hK K
        (try simp only [Act.put, List.setIfInBounds_toArray, List.set_cons_zero, List.set_cons_succ])
        refine wpAnyH_take (i := 19) (oi := ⟨_, _, _, _, _, _⟩) (v := ?v17) rfl (by kernel_rfl) (by kernel_rfl) (by kernel_rfl) (fun _ _ _ h => h) (Or.inl ⟨by rfl, ?hy17⟩) (by assumption) ?rest17
        case hy17 => (intro w hSw; (try dsimp only at hSw); go_simp; try with_reducible rfl)
        (try simp only [Act.put, List.setIfInBounds_toArray, List.set_cons_zero, List.set_cons_succ])
        refine wpAnyH_take (i := 20) (oi := ⟨_, _, _, _, _, _⟩) (v := ?v18) rfl (by kernel_rfl) (by kernel_rfl) (by kernel_rfl) (fun _ _ _ h => h) (Or.inl ⟨by rfl, ?hy18⟩) (by assumption) ?rest18
        case hy18 => (intro w hSw; (try dsimp only at hSw); go_simp; try with_reducible rfl)
        (try simp only [Act.put, List.setIfInBounds_toArray, List.set_cons_zero, List.set_cons_succ])
        refine wpAnyH_ready (rs := [21]) (by kernel_rfl) (by simp) ?_
        refine AllReadyH.cons (o := ⟨_, _, _, _, _, _⟩) rfl (fun K hK => ?_) AllReadyH.nil
        go_simp
        refine hK.out _ _ ?_ (fun hHeld => ?_)
        · (refine hkeep _ ?_; repeat (first | exact Turns.refl _ _ | assumption | refine Turns.drew ?_ | refine Turns.alloc ?_ _ | refine Turns.setCell ?_ (by simp) _))
        clear hK K
        (try simp only [Act.put, List.setIfInBounds_toArray, List.set_cons_zero, List.set_cons_succ])
        refine wpAnyH_done (by kernel_rfl) ?_ _
        have hS10 := hS2.storeW hd2 (.slice A9 (k.waits.length + 1) c9) (k.waits ++ [(n, bs)])
          (by
            intro x hx
            rcases List.mem_append.1 hx with hx | hx
            · exact hkw x hx
            · simp only [List.mem_singleton] at hx
              subst hx
              exact ⟨by rw [hsect]; omega, hl⟩)
          (by rw [waitsV_app, List.length_append]; exact hown9) hT9.size
          (fun b hb hne => hT9.block b hb (by simpa using hne))
          (by
            intro b hb
            rcases hat9 with h9 | h9
            · exact .inl (h9 ▸ hb)
            · rw [h9] at hb
              injection hb with hb
              subst hb
              exact .inr (by simp))
        have hT10 : Turns F.blocks w (w9.setCell ⟨F.gd, d * 3 + 1, none⟩ (.slice A9 (k.waits.length + 1) c9)) := (hT2.trans (hT9.mono (fun b hb => F.mem_f hd2' (by simp only [DiskF.blocks, List.mem_cons]; exact .inr hb)))).setCell F.mem_gd _
        have hnews : ∀ b ∈ (F.setF d { F.fs[d] with wv := .slice A9 (k.waits.length + 1) c9 }).blocks, b ∈ F.blocks ∨ w.heap.size ≤ b := by
          intro b hb
          rcases ShF.mem_cases hb with rfl | rfl | rfl | ⟨e, he, hb⟩
          · exact .inl F.mem_g
          · exact .inl F.mem_gd
          · exact .inl F.mem_gm
          · have he' : e < F.fs.length := by simpa [ShF.setF] using he
            simp only [ShF.setF, List.getElem_set] at hb
            split at hb
            · simp only [DiskF.blocks, List.mem_cons, Option.mem_toList] at hb
              rcases hb with rfl | hb
              · exact .inl (F.mem_f hd2' (by simp [DiskF.blocks]))
              · rcases hat9 with h9 | h9
                · rw [h9] at hb
                  exact .inl (F.mem_f hd2' (by simp [DiskF.blocks, hb]))
                · rw [h9] at hb
                  injection hb with hb
                  have := hT2.size
                  simp at hb
                  exact .inr (by omega)
            · exact .inl (F.mem_f he' hb)
        generalize w9.setCell ⟨F.gd, d * 3 + 1, none⟩ (.slice A9 (k.waits.length + 1) c9) = X at *
        generalize { F.fs[d] with wv := .slice A9 (k.waits.length + 1) c9 } = fd at *
        have hcX := hS10.c5
        clear hown9 hg9 hat9 hT9 hT9' hc9 hf9 hrow hkeep hwc hwf hc2
        have hX5 : (F.setF d fd).gm = F.gm := rfl
        have hd7 : smallN d := by have := hS2.ok.disks17; unfold smallN; omega
        have hn7 : smallN n := by have := hS2.ok.sectors4096; rw [hsect] at this; unfold smallN; omega
        obtain ⟨st, Y1, Y2, hb1, hb2, hb3, hb4, hb5, hb6, hb7, hS11, hT11⟩ := bump_facts hS10 d n q hd7 hn7 hsf.out hsee
        have hgX : (F.setF d fd).g = F.g := rfl
        rw [hgX] at hb5 hb6 hb7
        rw [hX5] at hb1 hb2 hb3 hb4 hb5 hb6 hb7
        go_wp2_with fail
        go_region_held3 (fun w' => w'.cell? ⟨F.g, 5, none⟩ = some (.map (some F.gm))) (assumption) (fail)
        all_goals
          have hfin : ShAt Y2 (F.setF d fd) (s2.setDisk d (k.write n bs)) := by
            have e1 : ({ sure := s2.disks[d].sure, waits := k.waits ++ [(n, bs)], dead := s2.disks[d].dead } : DiskM) = k.write n bs := by rw [ek.out]; rfl
            have e2 : seenF (s2.setDisk d (k.write n bs)) = updF fq d n (q + 1) := funext fun x => funext fun y => hseen x y
            unfold ShAt
            rw [e2, ← e1]
            exact hS11
          have hto : ShTo w F Y2 (F.setF d fd) := (⟨hT10, rfl, hnews⟩ : ShTo w F X (F.setF d fd)).then_ hT11
          clear hb1 hb2 hb3 hb4 hS11 hT11 hS10 hseen
          go_wp2
          go_ret
          refine ⟨_, by simp, ?_, hto, fun h => absurd rfl h⟩
          rw [hs2e.out, hke.out]
          exact hfin
      ·
        go_simp
        refine hK.out _ _ ?_ (fun hHeld => ?_)
        · (refine hkeep _ ?_; repeat (first | exact Turns.refl _ _ | assumption | refine Turns.drew ?_ | refine Turns.alloc ?_ _ | refine Turns.setCell ?_ (by simp) _))
        clear hK K
        (try simp only [Act.put, List.setIfInBounds_toArray, List.set_cons_zero, List.set_cons_succ])
        refine wpAnyH_ready (rs := [12]) (by kernel_rfl) (by simp) ?_
        refine AllReadyH.cons (o := ⟨_, _, _, _, _, _⟩) rfl (fun K hK => ?_) AllReadyH.nil
        go_simp
        refine hK.out _ _ ?_ (fun hHeld => ?_)
        · (refine hkeep _ ?_; repeat (first | exact Turns.refl _ _ | assumption | refine Turns.drew ?_ | refine Turns.alloc ?_ _ | refine Turns.setCell ?_ (by simp) _))
        clear hK K
        (try simp only [Act.put, List.setIfInBounds_toArray, List.set_cons_zero, List.set_cons_succ])
        refine wpAnyH_ready (rs := [18]) (by kernel_rfl) (by simp) ?_
        refine AllReadyH.cons (o := ⟨_, _, _, _, _, _⟩) rfl (fun K hK => ?_) AllReadyH.nil
        refine step_append_at (by rfl) (.tmp 47) (.tmp 52) 72 (by rfl) 0 92 (.agg #[.int .i64 0, .string ⟨#[]⟩]) 2 24 Try.underlying72 Try.infoWrite rfl (by omega)
          (F.fs[d]).wv k.waits.length (waitsV k.waits) (waitV (n, bs)) (some ⟨W.heap.size, 0, none⟩) 1 1 (by rfl) (by rfl) (hrow.alloc _).drew (RdV.lit W _ (waitV (n, bs)) (by simp [waitV])).drew (waitV_one _) (by rfl) (by simp only [maxLen]; omega) (by omega) (Nat.zero_le _) ?_
        intro v9 w9 hown9 hg9 hat9
        have hT9 : Turns (F.fs[d]).wv.ownBlock.toList W w9 := Turns.grown (((Turns.refl _ _).alloc _).drew) hg9 (fun k hk => .inl (by simp [hk]))
        have hT9' : Turns (F.gd :: (F.fs[d]).wv.ownBlock.toList) W w9 := hT9.mono (fun b hb => by simp only [List.mem_cons]; exact .inr hb)
        have hc9 := (World.cell?_of_block (hT9.block F.gd (hS2.lt _ F.mem_gd) hgdn) (a := ⟨F.gd, d * 3 + 1, none⟩)).trans hwc
        have hf9 := (World.frozen?_of_block (hT9.block F.gd (hS2.lt _ F.mem_gd) hgdn) (a := ⟨F.gd, d * 3 + 1, none⟩)).trans hwf
        obtain ⟨A9, c9, rfl, hcc9, _⟩ := ownsRow_form hown9
        refine hK.out _ _ ?_ (fun hHeld => ?_)
        · (refine hkeep _ ?_; repeat (first | exact Turns.refl _ _ | assumption | refine Turns.drew ?_ | refine Turns.alloc ?_ _ | refine Turns.setCell ?_ (by simp) _))
        clear hK K
        (try simp only [Act.put, List.setIfInBounds_toArray, List.set_cons_zero, List.set_cons_succ])
        refine wpAnyH_take (i := 19) (oi := ⟨_, _, _, _, _, _⟩) (v := ?v19) rfl (by kernel_rfl) (by kernel_rfl) (by kernel_rfl) (fun _ _ _ h => h) (Or.inl ⟨by rfl, ?hy19⟩) (by assumption) ?rest19
        case hy19 => (intro w hSw; (try dsimp only at hSw); go_simp; try with_reducible rfl)
        (try simp only [Act.put, List.setIfInBounds_toArray, List.set_cons_zero, List.set_cons_succ])
        refine wpAnyH_take (i := 20) (oi := ⟨_, _, _, _, _, _⟩) (v := ?v20) rfl (by kernel_rfl) (by kernel_rfl) (by kernel_rfl) (fun _ _ _ h => h) (Or.inl ⟨by rfl, ?hy20⟩) (by assumption) ?rest20
        case hy20 => (intro w hSw; (try dsimp only at hSw); go_simp; try with_reducible rfl)
        (try simp only [Act.put, List.setIfInBounds_toArray, List.set_cons_zero, List.set_cons_succ])
        refine wpAnyH_ready (rs := [21]) (by kernel_rfl) (by simp) ?_
        refine AllReadyH.cons (o := ⟨_, _, _, _, _, _⟩) rfl (fun K hK => ?_) AllReadyH.nil
        go_simp
        refine hK.out _ _ ?_ (fun hHeld => ?_)
        · (refine hkeep _ ?_; repeat (first | exact Turns.refl _ _ | assumption | refine Turns.drew ?_ | refine Turns.alloc ?_ _ | refine Turns.setCell ?_ (by simp) _))
        clear hK K
        (try simp only [Act.put, List.setIfInBounds_toArray, List.set_cons_zero, List.set_cons_succ])
        refine wpAnyH_done (by kernel_rfl) ?_ _
        have hS10 := hS2.storeW hd2 (.slice A9 (k.waits.length + 1) c9) (k.waits ++ [(n, bs)])
          (by
            intro x hx
            rcases List.mem_append.1 hx with hx | hx
            · exact hkw x hx
            · simp only [List.mem_singleton] at hx
              subst hx
              exact ⟨by rw [hsect]; omega, hl⟩)
          (by rw [waitsV_app, List.length_append]; exact hown9) hT9.size
          (fun b hb hne => hT9.block b hb (by simpa using hne))
          (by
            intro b hb
            rcases hat9 with h9 | h9
            · exact .inl (h9 ▸ hb)
            · rw [h9] at hb
              injection hb with hb
              subst hb
              exact .inr (by simp))
        have hT10 : Turns F.blocks w (w9.setCell ⟨F.gd, d * 3 + 1, none⟩ (.slice A9 (k.waits.length + 1) c9)) := (hT2.trans (hT9.mono (fun b hb => F.mem_f hd2' (by simp only [DiskF.blocks, List.mem_cons]; exact .inr hb)))).setCell F.mem_gd _
        have hnews : ∀ b ∈ (F.setF d { F.fs[d] with wv := .slice A9 (k.waits.length + 1) c9 }).blocks, b ∈ F.blocks ∨ w.heap.size ≤ b := by
          intro b hb
          rcases ShF.mem_cases hb with rfl | rfl | rfl | ⟨e, he, hb⟩
          · exact .inl F.mem_g
          · exact .inl F.mem_gd
          · exact .inl F.mem_gm
          · have he' : e < F.fs.length := by simpa [ShF.setF] using he
            simp only [ShF.setF, List.getElem_set] at hb
            split at hb
            · simp only [DiskF.blocks, List.mem_cons, Option.mem_toList] at hb
              rcases hb with rfl | hb
              · exact .inl (F.mem_f hd2' (by simp [DiskF.blocks]))
              · rcases hat9 with h9 | h9
                · rw [h9] at hb
                  exact .inl (F.mem_f hd2' (by simp [DiskF.blocks, hb]))
                · rw [h9] at hb
                  injection hb with hb
                  have := hT2.size
                  simp at hb
                  exact .inr (by omega)
            · exact .inl (F.mem_f he' hb)
        generalize w9.setCell ⟨F.gd, d * 3 + 1, none⟩ (.slice A9 (k.waits.length + 1) c9) = X at *
        generalize { F.fs[d] with wv := .slice A9 (k.waits.length + 1) c9 } = fd at *
        have hcX := hS10.c5
        clear hown9 hg9 hat9 hT9 hT9' hc9 hf9 hrow hkeep hwc hwf hc2
        have hX5 : (F.setF d fd).gm = F.gm := rfl
        have hd7 : smallN d := by have := hS2.ok.disks17; unfold smallN; omega
        have hn7 : smallN n := by have := hS2.ok.sectors4096; rw [hsect] at this; unfold smallN; omega
        obtain ⟨st, Y1, Y2, hb1, hb2, hb3, hb4, hb5, hb6, hb7, hS11, hT11⟩ := bump_facts hS10 d n q hd7 hn7 hsf.out hsee
        have hgX : (F.setF d fd).g = F.g := rfl
        rw [hgX] at hb5 hb6 hb7
        rw [hX5] at hb1 hb2 hb3 hb4 hb5 hb6 hb7
        go_wp2_with fail
        go_region_held3 (fun w' => w'.cell? ⟨F.g, 5, none⟩ = some (.map (some F.gm))) (assumption) (fail)
        all_goals
          have hfin : ShAt Y2 (F.setF d fd) (s2.setDisk d (k.write n bs)) := by
            have e1 : ({ sure := s2.disks[d].sure, waits := k.waits ++ [(n, bs)], dead := s2.disks[d].dead } : DiskM) = k.write n bs := by rw [ek.out]; rfl
            have e2 : seenF (s2.setDisk d (k.write n bs)) = updF fq d n (q + 1) := funext fun x => funext fun y => hseen x y
            unfold ShAt
            rw [e2, ← e1]
            exact hS11
          have hto : ShTo w F Y2 (F.setF d fd) := (⟨hT10, rfl, hnews⟩ : ShTo w F X (F.setF d fd)).then_ hT11
          clear hb1 hb2 hb3 hb4 hS11 hT11 hS10 hseen
          go_wp2
          go_ret
          refine ⟨_, by simp, ?_, hto, fun h => absurd rfl h⟩
          rw [hs2e.out, hke.out]
          exact hfin
    · rw [if_neg hw]
      simp only [hw, false_and, if_false] at hready
      have hb : (s.why d != 0) = true := by simpa using hw
      clear hres
      generalize s.why d = y at *
      go_enter Try.func25, Try.ntmps25
      go_wp2_with fail
      refine hhas.mono ?_
      rintro e w' ⟨rfl, rfl⟩
      go_wp2_with fail
      refine hready.mono ?_
      rintro e w1 ⟨rfl, hS1, hT1⟩
      go_wp2
      go_ret
      exact ⟨F, by simp, hS1, ShTo.same hT1, fun _ => rfl⟩
  · have hres : s.writeR d n bs = (1, s) := by simp only [ShM.writeR, if_neg hh]
    rw [hres]
    go_enter Try.func25, Try.ntmps25
    go_wp2_with fail
    refine hhas.mono ?_
    rintro e w' ⟨rfl, rfl⟩
    by_cases hs : s.has d n = true
    · have hl : m ≠ 128 := fun e => hh ⟨hs, by omega⟩
      have hb : ((m : Int) != 128) = true := by rw [bne_iff_ne]; omega
      rw [hs]
      clear hh hres hhas
      go_wp2
      go_ret
      exact ⟨F, by simp, hS, ShTo.refl _ _, fun _ => rfl⟩
    · have hs' : s.has d n = false := by simpa using hs
      rw [hs']
      clear hh hres hhas
      go_wp2
      go_ret
      exact ⟨F, by simp, hS, ShTo.refl _ _, fun _ => rfl⟩
theorem sh_write_nil (w : World) (d n : Int) (v : Value) : Calls Try.prog 25 #[.pointer none, .int .i64 d, .int .i64 n, v] w fun e w' => e = .returned (.int .i64 2) ∧ w = w' := by
  go_enter Try.func25, Try.ntmps25
  go_wp2
  go_ret
  exact ⟨by simp, rfl⟩
end
end Go.Proofs.Ytikfbhepnnbdoaa

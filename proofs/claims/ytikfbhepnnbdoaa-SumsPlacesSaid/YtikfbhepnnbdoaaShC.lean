/-
  THE WALK over the shelf's settle: some of what waits is sure, the rest is forgotten.
-/
import Derived.Test.YtikfbhepnnbdoaaShB
import Derived.Test.YtikfbhepnnbdoaaShQ
import Derived.Deep.RegionHeld3
namespace Go.Proofs.Ytikfbhepnnbdoaa
set_option linter.all false
open Go.RowKit

section
variable {w : World} {F : ShF} {s : ShM}

theorem del_facts {X : World} {F : ShF} {s : ShM} {f : Nat → Nat → Nat} (hS : ShAtM X F s f) (d n : Nat) (hd : smallN d) (hn : smallN n) :
    ∃ Y : World, (Builtin.delete_ #[66, 60] 0 #[.map (some F.gm), .agg #[.int .i64 (d : Int), .int .i64 (n : Int)]]).run Try.prog X = .ok (.tuple #[]) Y ∧ ShAtM Y F s (updF f d n 0) ∧ Turns F.blocks X Y ∧ ∀ k, k ≠ F.gm → Y.heap[k]? = X.heap[k]? := by
  obtain ⟨o, hE, hM⟩ := hS.seen.del Try.pairMap d n hd hn 0
  exact ⟨_, hE, hS.map (fun k hk => setBlk_other _ _ _ k hk) hM, (Turns.refl _ _).setBlk F.mem_gm _, fun k hk => setBlk_other _ _ _ k hk⟩

set_option maxHeartbeats 1000000 in
theorem sh_settle1 (hS : ShAt w F s) (d : Nat) (hd : d < s.disks.length) (keeps : Nat → Bool) 
    (hcall : ∀ W, Turns F.blocks w W → ∀ i, i < (s.disk d).waits.length → Calls Try.prog 55 #[.int .i64 (i : Int)] W fun e w' => e = .returned (.bool (keeps i)) ∧ W = w') :
    Calls Try.prog 49 #[.pointer (some ⟨F.g, 0, none⟩), .int .i64 d, (.func (.func 55) #[] #[])] w fun e w' =>
      ∃ F', e = .returned (.tuple #[]) ∧ ShAt w' F' (s.setDisk d ((s.disk d).settle keeps)) ∧ ShTo w F w' F' := by
  have hc2 := hS.c2
  have hlt := hS.lt _ F.mem_g
  have hle17 := hS.ok.disks17
  have hwv := hS.e1 hd
  have hrow := hS.ewaits hd
  obtain ⟨A, cw, hv, hcap, hg⟩ := ownsRow_form hrow
  have hdi : (d : Int) < s.disks.length := by omega
  generalize hws : (s.disk d).waits = ws at *
  rw [hv] at hwv
  replace hws := Lib.hid hws
  go_enter Try.func49, Try.ntmps49
  go_wp2_with fail
  obtain ⟨sk, hsk⟩ : ∃ sk : Nat → ShM, ∀ k, sk k = s.setDisk d { sure := settleL keeps 0 (ws.take k) (s.disk d).sure, waits := ws, dead := (s.disk d).dead } := ⟨_, fun _ => rfl⟩
  obtain ⟨fk', hfk⟩ : ∃ fk' : Nat → Nat → Nat → Nat, ∀ k, fk' k = delF (seenF s) d (ws.take k) := ⟨_, fun _ => rfl⟩
  have hlen : ∀ k, d < (sk k).disks.length := fun k => by rw [hsk, ShM.set_len]; exact hd
  have hdisk : ∀ k, (sk k).disk d = { sure := settleL keeps 0 (ws.take k) (s.disk d).sure, waits := ws, dead := (s.disk d).dead } := fun k => by rw [hsk, s.disk_set hd]
  have hsec : ∀ k, (sk k).sectors = s.sectors := fun k => by rw [hsk]; rfl
  have h0 : sk 0 = s := by
    rw [hsk, List.take_zero]
    have : ({ sure := settleL keeps 0 [] (s.disk d).sure, waits := ws, dead := (s.disk d).dead } : DiskM) = s.disk d := by rw [← hws.out]; rfl
    rw [this, s.set_self]
  have hf0 : fk' 0 = seenF s := by rw [hfk, List.take_zero, delF_nil]
  have hyes : ∀ k (hk : k < ws.length), keeps k = true → sk (k + 1) = (sk k).setDisk d { (sk k).disk d with sure := ((sk k).disk d).sure.set ws[k].1 ws[k].2 } := by
    intro k hk hy
    simp only [hdisk]
    rw [hsk, hsk, ShM.set_set, settleL_take _ _ _ hk, if_pos hy]
  have hno : ∀ k (hk : k < ws.length), keeps k = false → sk (k + 1) = sk k := by
    intro k hk hy
    rw [hsk, hsk, settleL_take _ _ _ hk, if_neg (by simp [hy])]
  have hfs : ∀ k (hk : k < ws.length), fk' (k + 1) = updF (fk' k) d ws[k].1 0 := by
    intro k hk
    rw [hfk, hfk, delF_snoc, List.take_succ_eq_append_getElem hk]
  have HL := Lib.hid hsk
  have HF := Lib.hid hfk
  have HD := Lib.hid hdisk
  have HS := Lib.hid hsec
  have HLE := Lib.hid hlen
  have HY := Lib.hid hyes
  have HN := Lib.hid hno
  have HFS := Lib.hid hfs
  have HC := Lib.hid hcall
  have HW := Lib.hid (hS.okd hd)
  clear hsk hfk hdisk hsec hlen hyes hno hfs hcall
  have hwsz : ws.length ≤ 9223372036854775807 := by
    have e := hrow.1
    rcases hrow.2 with ⟨_, h1⟩ | ⟨g, cap, cur, hv', _, _, h2, h3, _⟩
    · omega
    · simp only [maxLen] at h3
      omega
  go_loopw [17] (fun p wr => ∃ k : Nat, k ≤ ws.length ∧ p = .int .i64 k ∧ ShAtM wr F (sk k) (fk' k) ∧ Turns F.blocks w wr)
    (fun p _ => (ws.length - intOf p).toNat)
  case atStart => exact ⟨0, by omega, by go_num, by rw [h0, hf0]; exact hS, Turns.refl _ _⟩
  case round =>
    obtain ⟨k, hkn, rfl, hSk, hTk⟩ := hrel
    by_cases hlt2 : k < ws.length
    · obtain ⟨ad, rfl⟩ : ∃ ad, A = some ad := by
        rcases hrow.2 with ⟨_, h1⟩ | ⟨g, cap, cur, hv', _⟩
        · omega
        · rw [hv] at hv'
          injection hv' with e1
          exact ⟨_, e1⟩
      obtain ⟨gw, rfl, _, _⟩ := hg ad rfl
      have hrow2 := hSk.ewaits (HLE.out k)
      rw [HD.out] at hrow2
      rw [hv] at hrow2
      have hx0 := World.ownsRow.cellAt hrow2 (k * 2) (by omega)
      have hx1 := World.ownsRow.cellAt hrow2 (k * 2 + 1) (by omega)
      have hy0 := waitsV_get ws k 0 hlt2 (by omega)
      have hy1 := waitsV_get ws k 1 hlt2 (by omega)
      rw [Nat.add_zero] at hy0
      rw [hy0] at hx0
      rw [hy1] at hx1
      simp only [waitV, List.getElem?_cons_zero, List.getElem?_cons_succ] at hx0 hx1
      have hgwlt : gw < wr.heap.size := World.block_lt_of_cell? wr _ hx0
      have hwk := HW.out.2.2 ws[k] (by rw [hws.out]; exact List.getElem_mem hlt2)
      have hyes1 := HY.out k hlt2
      have hno1 := HN.out k hlt2
      have hfs1 := HFS.out k hlt2
      clear hrow2 hy0 hy1
      simp only [strV] at hx1
      generalize ws[k].1 = n0 at *
      generalize ws[k].2 = b0 at *
      replace hyes1 := Lib.hid hyes1
      replace hno1 := Lib.hid hno1
      replace hfs1 := Lib.hid hfs1
      have hcl : ∀ W, Turns F.blocks w W → Calls Try.prog 55 #[.int .i64 (k : Int)] W fun e w' => e = .returned (.bool (keeps k)) ∧ W = w' := fun W hW => HC.out W hW k hlt2
      replace hcl := Lib.hid hcl
      clear hg hwv hc2
      replace hwk := Lib.hid hwk
      go_wp2_with fail
      have hS1 := hSk.alloc (.cells #[.int .i64 (n0 : Int), .string ⟨b0.toArray⟩] 92)
      have hT1 := hTk.alloc (.cells #[.int .i64 (n0 : Int), .string ⟨b0.toArray⟩] 92)
      have hb0 := cell_of_row _ wr.heap.size 0 _ _ _ (heap_alloc_new wr (.cells #[.int .i64 (n0 : Int), .string ⟨b0.toArray⟩] 92))
      have hb1 := cell_of_row _ wr.heap.size 1 _ _ _ (heap_alloc_new wr (.cells #[.int .i64 (n0 : Int), .string ⟨b0.toArray⟩] 92))
      have hbn : wr.heap.size ∉ F.blocks := fun hm => by
        have := hSk.lt _ hm
        omega
      simp only [List.getElem?_toArray, List.getElem?_cons_zero, List.getElem?_cons_succ] at hb0 hb1
      have hbl : wr.heap.size < (wr.alloc (.cells #[.int .i64 (n0 : Int), .string ⟨b0.toArray⟩] 92)).heap.size := by simp
      refine (hcl.out _ hT1).mono ?_
      rintro e w' ⟨rfl, rfl⟩
      generalize wr.alloc (.cells #[.int .i64 (n0 : Int), .string ⟨b0.toArray⟩] 92) = X at *
      generalize wr.heap.size = bx at *
      clear hx0 hx1 hSk hTk hcl hrow hcap hv hgwlt
      have hg2 := hS1.c2
      have hls : ∀ k, (sk k).disks.length = s.disks.length := fun k => by rw [HL.out, ShM.set_len]
      rw [hls] at hg2
      have hgs := hS1.e0 (HLE.out k)
      have hsl : ((sk k).disk d).sure.length = s.sectors := by rw [HD.out]; dsimp only; rw [settleL_len]; exact HW.out.1
      rw [hsl] at hgs
      have hsu := hS1.esure (n := n0) (HLE.out k) (by rw [hsl]; exact hwk.out.1)
      have hsz := hS1.efrozen (HLE.out k) n0
      have hgn := hS1.gs_ne (HLE.out k)
      have hgm := F.mem_gs (hS1.fd (HLE.out k))
      have hset := hS1.esetSure (n := n0) (HLE.out k) b0 hwk.out.2
      have h4096 := hS1.ok.sectors4096
      rw [HS.out] at h4096
      have hd7 : smallN d := by unfold smallN; omega
      have hn7 : smallN n0 := by have := hwk.out.1; unfold smallN; omega
      have hnlt := hwk.out.1
      replace hls := Lib.hid hls
      replace hsl := Lib.hid hsl
      generalize (F.at_ d).gs = gs at *
      generalize (F.at_ d).cs = cs at *
      cases hk : keeps k with
      | true =>
        have e1 := hyes1.out hk
        rw [← e1] at hset
        replace e1 := Lib.hid e1
        replace hk := Lib.hid hk
        have hkeep : ∀ W', Turns [gs] X W' → W'.cell? ⟨F.g, 2, none⟩ = some (.slice (some ⟨F.gd, 0, none⟩) s.disks.length F.cd) ∧ W'.cell? ⟨F.gd, d * 3, none⟩ = some (.slice (some ⟨gs, 0, none⟩) s.sectors cs) ∧ W'.cell? ⟨bx, 0, none⟩ = some (.int .i64 (n0 : Int)) ∧ W'.cell? ⟨bx, 1, none⟩ = some (.string ⟨b0.toArray⟩) := by
          intro W' hT
          have hb : ∀ c, c ≠ gs → c < X.heap.size → W'.heap[c]? = X.heap[c]? := fun c hc hl => hT.block c hl (by simpa using hc)
          have q1 := hb _ hgn.1.symm (hS1.lt _ F.mem_g)
          have q2 := hb _ hgn.2.1.symm (hS1.lt _ F.mem_gd)
          have q3 := hb bx (fun e => hbn (e ▸ hgm)) hbl
          exact ⟨(World.cell?_of_block q1).trans hg2, (World.cell?_of_block q2).trans hgs, (World.cell?_of_block q3).trans hb0, (World.cell?_of_block q3).trans hb1⟩
        go_wp2_with fail
        go_region_held3 (fun w' => w'.cell? ⟨F.g, 2, none⟩ = some (.slice (some ⟨F.gd, 0, none⟩) s.disks.length F.cd) ∧ w'.cell? ⟨F.gd, d * 3, none⟩ = some (.slice (some ⟨gs, 0, none⟩) s.sectors cs) ∧ w'.cell? ⟨bx, 0, none⟩ = some (.int .i64 (n0 : Int)) ∧ w'.cell? ⟨bx, 1, none⟩ = some (.string ⟨b0.toArray⟩))
          ((refine hkeep _ ?_; repeat (first | exact Turns.refl _ _ | assumption | refine Turns.drew ?_ | refine Turns.setCell ?_ (by simp) _)))
          (fail)
        obtain ⟨Y, hY⟩ : ∃ Y, Y = (X.setCell ⟨gs, n0, none⟩ (.string ⟨b0.toArray⟩)).drew := ⟨_, rfl⟩
        have hS5 : ShAtM Y F (sk (k + 1)) (fk' k) := by rw [hY]; exact hset.drew
        rw [← hY]
        have hT5 : Turns F.blocks w Y := by rw [hY]; exact (hT1.setCell hgm _).drew
        have hb5 : Y.cell? ⟨bx, 0, none⟩ = some (.int .i64 (n0 : Int)) := by rw [hY]; exact (hkeep _ ((Turns.refl _ _).setCell (by simp) _ |>.drew)).2.2.1
        have hbl5 : bx < Y.heap.size := World.block_lt_of_cell? Y _ hb5
        clear hY
        have hm5 := hS5.c5
        obtain ⟨Z, hdel, hSZ, hTZ, hoZ⟩ := del_facts hS5.drew d n0 hd7 hn7
        rw [← hfs1.out] at hSZ
        have hTZ' : Turns F.blocks w Z := hT5.trans (Turns.trans (Turns.drew (Turns.refl _ _)) hTZ)
        have hmZ := hSZ.c5
        have hbm : bx ≠ F.gm := fun e => hbn (e ▸ F.mem_gm)
        have hbZ : Z.cell? ⟨bx, 0, none⟩ = some (.int .i64 (n0 : Int)) := (World.cell?_of_block (hoZ bx hbm)).trans hb5
        have hm5d : Y.drew.cell? ⟨F.g, 5, none⟩ = some (.map (some F.gm)) := hm5
        have hb5d : Y.drew.cell? ⟨bx, 0, none⟩ = some (.int .i64 (n0 : Int)) := hb5
        clear hyes1 hno1 hset hsu hkeep
        go_wp2_with fail
        go_region_held3 (fun w' => w'.cell? ⟨F.g, 5, none⟩ = some (.map (some F.gm)) ∧ w'.cell? ⟨bx, 0, none⟩ = some (.int .i64 (n0 : Int))) ((refine ⟨?_, ?_⟩ <;> assumption)) (fail)
        go_wp2
        go_roundw
        case rel => exact ⟨k + 1, by omega, by go_num, hSZ, hTZ'⟩
        case measure => simp [intOf]; omega
      | false =>
        replace hno1 := hno1.out hk
        have hS5 : ShAtM X F (sk (k + 1)) (fk' k) := by rw [hno1]; exact hS1
        replace hno1 := Lib.hid hno1
        replace hk := Lib.hid hk
        have hkeep : True := trivial
        generalize hXY : X = Y at *
        have hT5 : Turns F.blocks w Y := hT1
        have hb5 : Y.cell? ⟨bx, 0, none⟩ = some (.int .i64 (n0 : Int)) := hb0
        have hbl5 : bx < Y.heap.size := World.block_lt_of_cell? Y _ hb5
        skip
        have hm5 := hS5.c5
        obtain ⟨Z, hdel, hSZ, hTZ, hoZ⟩ := del_facts hS5.drew d n0 hd7 hn7
        rw [← hfs1.out] at hSZ
        have hTZ' : Turns F.blocks w Z := hT5.trans (Turns.trans (Turns.drew (Turns.refl _ _)) hTZ)
        have hmZ := hSZ.c5
        have hbm : bx ≠ F.gm := fun e => hbn (e ▸ F.mem_gm)
        have hbZ : Z.cell? ⟨bx, 0, none⟩ = some (.int .i64 (n0 : Int)) := (World.cell?_of_block (hoZ bx hbm)).trans hb5
        have hm5d : Y.drew.cell? ⟨F.g, 5, none⟩ = some (.map (some F.gm)) := hm5
        have hb5d : Y.drew.cell? ⟨bx, 0, none⟩ = some (.int .i64 (n0 : Int)) := hb5
        clear hyes1 hno1 hset hsu hkeep
        go_wp2_with fail
        go_region_held3 (fun w' => w'.cell? ⟨F.g, 5, none⟩ = some (.map (some F.gm)) ∧ w'.cell? ⟨bx, 0, none⟩ = some (.int .i64 (n0 : Int))) ((refine ⟨?_, ?_⟩ <;> assumption)) (fail)
        go_wp2
        go_roundw
        case rel => exact ⟨k + 1, by omega, by go_num, hSZ, hTZ'⟩
        case measure => simp [intOf]; omega
    · have hkn2 : k = ws.length := by omega
      subst hkn2
      have hg2 := hSk.c2
      have hgd1 := hSk.e1 (HLE.out _)
      have hgdf := hSk.dfrozen (d * 3 + 1)
      have hls : (sk ws.length).disks.length = s.disks.length := by rw [HL.out, ShM.set_len]
      rw [hls] at hg2
      replace hls := Lib.hid hls
      have hlt3 := hSk.lt _ F.mem_g
      have hlt4 := hSk.lt _ F.mem_gd
      clear hwv hc2 hg hrow
      go_wp2
      go_end0
      have hfin := hSk.eclear (HLE.out ws.length)
      have e1 : (sk ws.length).setDisk d { (sk ws.length).disk d with waits := [] } = s.setDisk d ((s.disk d).settle keeps) := by
        rw [HD.out, HL.out, ShM.set_set, List.take_length]
        simp only [DiskM.settle, hws.out]
      have e2 : fk' ws.length = seenF (s.setDisk d ((s.disk d).settle keeps)) := by
        rw [HF.out, List.take_length, ← hws.out]
        exact delF_all s hd _ rfl
      rw [e1, e2] at hfin
      exact ⟨rfl, _, hfin, ⟨hTk.setCell F.mem_gd _, rfl, fun b hb => .inl (F.clear_news d b hb)⟩⟩
set_option maxHeartbeats 1000000 in
theorem sh_settle2 (hS : ShAt w F s) (d : Nat) (hd : d < s.disks.length) (keeps : Nat → Bool) (kb : Nat)
    (hcall : ∀ W, Turns F.blocks w W → ∀ i, i < (s.disk d).waits.length → Calls Try.prog 50 #[.int .i64 (i : Int), .pointer (some ⟨kb, 0, none⟩)] W fun e w' => e = .returned (.bool (keeps i)) ∧ W = w') :
    Calls Try.prog 49 #[.pointer (some ⟨F.g, 0, none⟩), .int .i64 d, (.func (.func 50) #[] #[.pointer (some ⟨kb, 0, none⟩)])] w fun e w' =>
      ∃ F', e = .returned (.tuple #[]) ∧ ShAt w' F' (s.setDisk d ((s.disk d).settle keeps)) ∧ ShTo w F w' F' := by
  have hc2 := hS.c2
  have hlt := hS.lt _ F.mem_g
  have hle17 := hS.ok.disks17
  have hwv := hS.e1 hd
  have hrow := hS.ewaits hd
  obtain ⟨A, cw, hv, hcap, hg⟩ := ownsRow_form hrow
  have hdi : (d : Int) < s.disks.length := by omega
  generalize hws : (s.disk d).waits = ws at *
  rw [hv] at hwv
  replace hws := Lib.hid hws
  go_enter Try.func49, Try.ntmps49
  go_wp2_with fail
  obtain ⟨sk, hsk⟩ : ∃ sk : Nat → ShM, ∀ k, sk k = s.setDisk d { sure := settleL keeps 0 (ws.take k) (s.disk d).sure, waits := ws, dead := (s.disk d).dead } := ⟨_, fun _ => rfl⟩
  obtain ⟨fk', hfk⟩ : ∃ fk' : Nat → Nat → Nat → Nat, ∀ k, fk' k = delF (seenF s) d (ws.take k) := ⟨_, fun _ => rfl⟩
  have hlen : ∀ k, d < (sk k).disks.length := fun k => by rw [hsk, ShM.set_len]; exact hd
  have hdisk : ∀ k, (sk k).disk d = { sure := settleL keeps 0 (ws.take k) (s.disk d).sure, waits := ws, dead := (s.disk d).dead } := fun k => by rw [hsk, s.disk_set hd]
  have hsec : ∀ k, (sk k).sectors = s.sectors := fun k => by rw [hsk]; rfl
  have h0 : sk 0 = s := by
    rw [hsk, List.take_zero]
    have : ({ sure := settleL keeps 0 [] (s.disk d).sure, waits := ws, dead := (s.disk d).dead } : DiskM) = s.disk d := by rw [← hws.out]; rfl
    rw [this, s.set_self]
  have hf0 : fk' 0 = seenF s := by rw [hfk, List.take_zero, delF_nil]
  have hyes : ∀ k (hk : k < ws.length), keeps k = true → sk (k + 1) = (sk k).setDisk d { (sk k).disk d with sure := ((sk k).disk d).sure.set ws[k].1 ws[k].2 } := by
    intro k hk hy
    simp only [hdisk]
    rw [hsk, hsk, ShM.set_set, settleL_take _ _ _ hk, if_pos hy]
  have hno : ∀ k (hk : k < ws.length), keeps k = false → sk (k + 1) = sk k := by
    intro k hk hy
    rw [hsk, hsk, settleL_take _ _ _ hk, if_neg (by simp [hy])]
  have hfs : ∀ k (hk : k < ws.length), fk' (k + 1) = updF (fk' k) d ws[k].1 0 := by
    intro k hk
    rw [hfk, hfk, delF_snoc, List.take_succ_eq_append_getElem hk]
  have HL := Lib.hid hsk
  have HF := Lib.hid hfk
  have HD := Lib.hid hdisk
  have HS := Lib.hid hsec
  have HLE := Lib.hid hlen
  have HY := Lib.hid hyes
  have HN := Lib.hid hno
  have HFS := Lib.hid hfs
  have HC := Lib.hid hcall
  have HW := Lib.hid (hS.okd hd)
  clear hsk hfk hdisk hsec hlen hyes hno hfs hcall
  have hwsz : ws.length ≤ 9223372036854775807 := by
    have e := hrow.1
    rcases hrow.2 with ⟨_, h1⟩ | ⟨g, cap, cur, hv', _, _, h2, h3, _⟩
    · omega
    · simp only [maxLen] at h3
      omega
  go_loopw [17] (fun p wr => ∃ k : Nat, k ≤ ws.length ∧ p = .int .i64 k ∧ ShAtM wr F (sk k) (fk' k) ∧ Turns F.blocks w wr)
    (fun p _ => (ws.length - intOf p).toNat)
  case atStart => exact ⟨0, by omega, by go_num, by rw [h0, hf0]; exact hS, Turns.refl _ _⟩
  case round =>
    obtain ⟨k, hkn, rfl, hSk, hTk⟩ := hrel
    by_cases hlt2 : k < ws.length
    · obtain ⟨ad, rfl⟩ : ∃ ad, A = some ad := by
        rcases hrow.2 with ⟨_, h1⟩ | ⟨g, cap, cur, hv', _⟩
        · omega
        · rw [hv] at hv'
          injection hv' with e1
          exact ⟨_, e1⟩
      obtain ⟨gw, rfl, _, _⟩ := hg ad rfl
      have hrow2 := hSk.ewaits (HLE.out k)
      rw [HD.out] at hrow2
      rw [hv] at hrow2
      have hx0 := World.ownsRow.cellAt hrow2 (k * 2) (by omega)
      have hx1 := World.ownsRow.cellAt hrow2 (k * 2 + 1) (by omega)
      have hy0 := waitsV_get ws k 0 hlt2 (by omega)
      have hy1 := waitsV_get ws k 1 hlt2 (by omega)
      rw [Nat.add_zero] at hy0
      rw [hy0] at hx0
      rw [hy1] at hx1
      simp only [waitV, List.getElem?_cons_zero, List.getElem?_cons_succ] at hx0 hx1
      have hgwlt : gw < wr.heap.size := World.block_lt_of_cell? wr _ hx0
      have hwk := HW.out.2.2 ws[k] (by rw [hws.out]; exact List.getElem_mem hlt2)
      have hyes1 := HY.out k hlt2
      have hno1 := HN.out k hlt2
      have hfs1 := HFS.out k hlt2
      clear hrow2 hy0 hy1
      simp only [strV] at hx1
      generalize ws[k].1 = n0 at *
      generalize ws[k].2 = b0 at *
      replace hyes1 := Lib.hid hyes1
      replace hno1 := Lib.hid hno1
      replace hfs1 := Lib.hid hfs1
      have hcl : ∀ W, Turns F.blocks w W → Calls Try.prog 50 #[.int .i64 (k : Int), .pointer (some ⟨kb, 0, none⟩)] W fun e w' => e = .returned (.bool (keeps k)) ∧ W = w' := fun W hW => HC.out W hW k hlt2
      replace hcl := Lib.hid hcl
      clear hg hwv hc2
      replace hwk := Lib.hid hwk
      go_wp2_with fail
      have hS1 := hSk.alloc (.cells #[.int .i64 (n0 : Int), .string ⟨b0.toArray⟩] 92)
      have hT1 := hTk.alloc (.cells #[.int .i64 (n0 : Int), .string ⟨b0.toArray⟩] 92)
      have hb0 := cell_of_row _ wr.heap.size 0 _ _ _ (heap_alloc_new wr (.cells #[.int .i64 (n0 : Int), .string ⟨b0.toArray⟩] 92))
      have hb1 := cell_of_row _ wr.heap.size 1 _ _ _ (heap_alloc_new wr (.cells #[.int .i64 (n0 : Int), .string ⟨b0.toArray⟩] 92))
      have hbn : wr.heap.size ∉ F.blocks := fun hm => by
        have := hSk.lt _ hm
        omega
      simp only [List.getElem?_toArray, List.getElem?_cons_zero, List.getElem?_cons_succ] at hb0 hb1
      have hbl : wr.heap.size < (wr.alloc (.cells #[.int .i64 (n0 : Int), .string ⟨b0.toArray⟩] 92)).heap.size := by simp
      refine (hcl.out _ hT1).mono ?_
      rintro e w' ⟨rfl, rfl⟩
      generalize wr.alloc (.cells #[.int .i64 (n0 : Int), .string ⟨b0.toArray⟩] 92) = X at *
      generalize wr.heap.size = bx at *
      clear hx0 hx1 hSk hTk hcl hrow hcap hv hgwlt
      have hg2 := hS1.c2
      have hls : ∀ k, (sk k).disks.length = s.disks.length := fun k => by rw [HL.out, ShM.set_len]
      rw [hls] at hg2
      have hgs := hS1.e0 (HLE.out k)
      have hsl : ((sk k).disk d).sure.length = s.sectors := by rw [HD.out]; dsimp only; rw [settleL_len]; exact HW.out.1
      rw [hsl] at hgs
      have hsu := hS1.esure (n := n0) (HLE.out k) (by rw [hsl]; exact hwk.out.1)
      have hsz := hS1.efrozen (HLE.out k) n0
      have hgn := hS1.gs_ne (HLE.out k)
      have hgm := F.mem_gs (hS1.fd (HLE.out k))
      have hset := hS1.esetSure (n := n0) (HLE.out k) b0 hwk.out.2
      have h4096 := hS1.ok.sectors4096
      rw [HS.out] at h4096
      have hd7 : smallN d := by unfold smallN; omega
      have hn7 : smallN n0 := by have := hwk.out.1; unfold smallN; omega
      have hnlt := hwk.out.1
      replace hls := Lib.hid hls
      replace hsl := Lib.hid hsl
      generalize (F.at_ d).gs = gs at *
      generalize (F.at_ d).cs = cs at *
      cases hk : keeps k with
      | true =>
        have e1 := hyes1.out hk
        rw [← e1] at hset
        replace e1 := Lib.hid e1
        replace hk := Lib.hid hk
        have hkeep : ∀ W', Turns [gs] X W' → W'.cell? ⟨F.g, 2, none⟩ = some (.slice (some ⟨F.gd, 0, none⟩) s.disks.length F.cd) ∧ W'.cell? ⟨F.gd, d * 3, none⟩ = some (.slice (some ⟨gs, 0, none⟩) s.sectors cs) ∧ W'.cell? ⟨bx, 0, none⟩ = some (.int .i64 (n0 : Int)) ∧ W'.cell? ⟨bx, 1, none⟩ = some (.string ⟨b0.toArray⟩) := by
          intro W' hT
          have hb : ∀ c, c ≠ gs → c < X.heap.size → W'.heap[c]? = X.heap[c]? := fun c hc hl => hT.block c hl (by simpa using hc)
          have q1 := hb _ hgn.1.symm (hS1.lt _ F.mem_g)
          have q2 := hb _ hgn.2.1.symm (hS1.lt _ F.mem_gd)
          have q3 := hb bx (fun e => hbn (e ▸ hgm)) hbl
          exact ⟨(World.cell?_of_block q1).trans hg2, (World.cell?_of_block q2).trans hgs, (World.cell?_of_block q3).trans hb0, (World.cell?_of_block q3).trans hb1⟩
        go_wp2_with fail
        go_region_held3 (fun w' => w'.cell? ⟨F.g, 2, none⟩ = some (.slice (some ⟨F.gd, 0, none⟩) s.disks.length F.cd) ∧ w'.cell? ⟨F.gd, d * 3, none⟩ = some (.slice (some ⟨gs, 0, none⟩) s.sectors cs) ∧ w'.cell? ⟨bx, 0, none⟩ = some (.int .i64 (n0 : Int)) ∧ w'.cell? ⟨bx, 1, none⟩ = some (.string ⟨b0.toArray⟩))
          ((refine hkeep _ ?_; repeat (first | exact Turns.refl _ _ | assumption | refine Turns.drew ?_ | refine Turns.setCell ?_ (by simp) _)))
          (fail)
        obtain ⟨Y, hY⟩ : ∃ Y, Y = (X.setCell ⟨gs, n0, none⟩ (.string ⟨b0.toArray⟩)).drew := ⟨_, rfl⟩
        have hS5 : ShAtM Y F (sk (k + 1)) (fk' k) := by rw [hY]; exact hset.drew
        rw [← hY]
        have hT5 : Turns F.blocks w Y := by rw [hY]; exact (hT1.setCell hgm _).drew
        have hb5 : Y.cell? ⟨bx, 0, none⟩ = some (.int .i64 (n0 : Int)) := by rw [hY]; exact (hkeep _ ((Turns.refl _ _).setCell (by simp) _ |>.drew)).2.2.1
        have hbl5 : bx < Y.heap.size := World.block_lt_of_cell? Y _ hb5
        clear hY
        have hm5 := hS5.c5
        obtain ⟨Z, hdel, hSZ, hTZ, hoZ⟩ := del_facts hS5.drew d n0 hd7 hn7
        rw [← hfs1.out] at hSZ
        have hTZ' : Turns F.blocks w Z := hT5.trans (Turns.trans (Turns.drew (Turns.refl _ _)) hTZ)
        have hmZ := hSZ.c5
        have hbm : bx ≠ F.gm := fun e => hbn (e ▸ F.mem_gm)
        have hbZ : Z.cell? ⟨bx, 0, none⟩ = some (.int .i64 (n0 : Int)) := (World.cell?_of_block (hoZ bx hbm)).trans hb5
        have hm5d : Y.drew.cell? ⟨F.g, 5, none⟩ = some (.map (some F.gm)) := hm5
        have hb5d : Y.drew.cell? ⟨bx, 0, none⟩ = some (.int .i64 (n0 : Int)) := hb5
        clear hyes1 hno1 hset hsu hkeep
        go_wp2_with fail
        go_region_held3 (fun w' => w'.cell? ⟨F.g, 5, none⟩ = some (.map (some F.gm)) ∧ w'.cell? ⟨bx, 0, none⟩ = some (.int .i64 (n0 : Int))) ((refine ⟨?_, ?_⟩ <;> assumption)) (fail)
        go_wp2
        go_roundw
        case rel => exact ⟨k + 1, by omega, by go_num, hSZ, hTZ'⟩
        case measure => simp [intOf]; omega
      | false =>
        replace hno1 := hno1.out hk
        have hS5 : ShAtM X F (sk (k + 1)) (fk' k) := by rw [hno1]; exact hS1
        replace hno1 := Lib.hid hno1
        replace hk := Lib.hid hk
        have hkeep : True := trivial
        generalize hXY : X = Y at *
        have hT5 : Turns F.blocks w Y := hT1
        have hb5 : Y.cell? ⟨bx, 0, none⟩ = some (.int .i64 (n0 : Int)) := hb0
        have hbl5 : bx < Y.heap.size := World.block_lt_of_cell? Y _ hb5
        skip
        have hm5 := hS5.c5
        obtain ⟨Z, hdel, hSZ, hTZ, hoZ⟩ := del_facts hS5.drew d n0 hd7 hn7
        rw [← hfs1.out] at hSZ
        have hTZ' : Turns F.blocks w Z := hT5.trans (Turns.trans (Turns.drew (Turns.refl _ _)) hTZ)
        have hmZ := hSZ.c5
        have hbm : bx ≠ F.gm := fun e => hbn (e ▸ F.mem_gm)
        have hbZ : Z.cell? ⟨bx, 0, none⟩ = some (.int .i64 (n0 : Int)) := (World.cell?_of_block (hoZ bx hbm)).trans hb5
        have hm5d : Y.drew.cell? ⟨F.g, 5, none⟩ = some (.map (some F.gm)) := hm5
        have hb5d : Y.drew.cell? ⟨bx, 0, none⟩ = some (.int .i64 (n0 : Int)) := hb5
        clear hyes1 hno1 hset hsu hkeep
        go_wp2_with fail
        go_region_held3 (fun w' => w'.cell? ⟨F.g, 5, none⟩ = some (.map (some F.gm)) ∧ w'.cell? ⟨bx, 0, none⟩ = some (.int .i64 (n0 : Int))) ((refine ⟨?_, ?_⟩ <;> assumption)) (fail)
        go_wp2
        go_roundw
        case rel => exact ⟨k + 1, by omega, by go_num, hSZ, hTZ'⟩
        case measure => simp [intOf]; omega
    · have hkn2 : k = ws.length := by omega
      subst hkn2
      have hg2 := hSk.c2
      have hgd1 := hSk.e1 (HLE.out _)
      have hgdf := hSk.dfrozen (d * 3 + 1)
      have hls : (sk ws.length).disks.length = s.disks.length := by rw [HL.out, ShM.set_len]
      rw [hls] at hg2
      replace hls := Lib.hid hls
      have hlt3 := hSk.lt _ F.mem_g
      have hlt4 := hSk.lt _ F.mem_gd
      clear hwv hc2 hg hrow
      go_wp2
      go_end0
      have hfin := hSk.eclear (HLE.out ws.length)
      have e1 : (sk ws.length).setDisk d { (sk ws.length).disk d with waits := [] } = s.setDisk d ((s.disk d).settle keeps) := by
        rw [HD.out, HL.out, ShM.set_set, List.take_length]
        simp only [DiskM.settle, hws.out]
      have e2 : fk' ws.length = seenF (s.setDisk d ((s.disk d).settle keeps)) := by
        rw [HF.out, List.take_length, ← hws.out]
        exact delF_all s hd _ rfl
      rw [e1, e2] at hfin
      exact ⟨rfl, _, hfin, ⟨hTk.setCell F.mem_gd _, rfl, fun b hb => .inl (F.clear_news d b hb)⟩⟩
end
end Go.Proofs.Ytikfbhepnnbdoaa

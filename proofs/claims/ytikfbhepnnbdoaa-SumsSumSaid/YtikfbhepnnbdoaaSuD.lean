/-
  THE WALKS over the sums' Open, sector and Read.
-/
import Derived.Test.YtikfbhepnnbdoaaSuC
namespace Go.Proofs.Ytikfbhepnnbdoaa
set_option linter.all false
open Go.RowKit

def freshDev (s : ShM) (d : Nat) : DevM := ⟨d, (blocksI s.sectors).toNat, -1⟩
theorem blocksI_bounds (n : Nat) (h : n ≤ 4096) : 0 ≤ blocksI n ∧ blocksI n < 4096 := by
  unfold blocksI
  split <;> omega
section
variable {X : Nat → Prop} {a g : Nat} {w w' : World} {s s' : ShM} {D : DevM}
theorem su_open_nil (w : World) (d : Int) : Calls Try.prog 19 #[.pointer none, .int .i64 d] w fun e w' => e = .returned (.tuple #[.pointer none, .int .i64 1]) ∧ w = w' := by
  by_cases h : d < 0
  all_goals
    go_enter Try.func19, Try.ntmps19
    go_wp2_with fail
    refine (sh_size_nil w).mono ?_
    rintro e w' ⟨rfl, rfl⟩
    go_wp2
    go_ret2
    exact ⟨rfl, rfl⟩
theorem su_open_bad (h : ShX X g w s) (d : Int) (hd : ¬ (0 ≤ d ∧ d < s.disks.length)) : Calls Try.prog 19 #[.pointer (some ⟨g, 0, none⟩), .int .i64 d] w fun e w' => e = .returned (.tuple #[.pointer none, .int .i64 1]) ∧ Below w.heap.size w w' := by
  have hx : d < 0 ∨ (0 ≤ d ∧ (s.disks.length : Int) ≤ d) := by omega
  have hct := lx_size h
  clear hd
  rcases hx with hx | ⟨hx, hx'⟩
  all_goals
    go_enter Try.func19, Try.ntmps19
    go_wp2_with fail
    refine hct.mono ?_
    rintro e w' ⟨rfl, hb⟩
    go_wp2
    go_ret2
    exact ⟨rfl, hb⟩
set_option maxHeartbeats 1000000 in
theorem su_open (h : ShX X g w s) (d : Nat) (hd : d < s.disks.length) : Calls Try.prog 19 #[.pointer (some ⟨g, 0, none⟩), .int .i64 d] w fun e w' =>
    ∃ a, e = .returned (.tuple #[.pointer (some ⟨a, 0, none⟩), .int .i64 0]) ∧ w.heap.size ≤ a ∧ DvX X a g w' s (freshDev s d) ∧ Below w.heap.size w w' := by
  have hct := lx_size h
  have h17 := h.ok.disks17
  have h4 := h.ok.sectors4096
  obtain ⟨b0, b1⟩ := blocksI_bounds s.sectors h4
  have hbl : Hid (∀ W, _) := Lib.hid fun W => su_blocks s.sectors W (by omega) (by omega)
  have hsz : Hid (∀ W, Below w.heap.size w W → ∃ a, Ending.returned (.tuple #[.pointer (some ⟨W.heap.size, 0, none⟩), .int .i64 0]) = Ending.returned (.tuple #[.pointer (some ⟨a, 0, none⟩), .int .i64 0]) ∧ w.heap.size ≤ a ∧ DvX X a g (W.alloc (.cells #[.pointer (some ⟨g, 0, none⟩), .int .i64 (d : Int), .int .i64 (blocksI s.sectors), .int .i64 (-1)] 78)) s (freshDev s d) ∧ Below w.heap.size w (W.alloc (.cells #[.pointer (some ⟨g, 0, none⟩), .int .i64 (d : Int), .int .i64 (blocksI s.sectors), .int .i64 (-1)] 78))) := Lib.hid fun W hW => by
    have hal := (Below.refl W.heap.size W).alloc (Nat.le_refl _) (.cells #[.pointer (some ⟨g, 0, none⟩), .int .i64 (d : Int), .int .i64 (blocksI s.sectors), .int .i64 (-1)] 78)
    have e1 : ((blocksI s.sectors).toNat : Int) = blocksI s.sectors := by omega
    refine ⟨W.heap.size, rfl, hW.size, ⟨(h.below hW).more hal.size (fun b hb _ => hal.block b hb) fun b hb => ?_, ?_, fun hx => ?_, hd, ?_⟩, hW.alloc hW.size _⟩
    · have hs1 : (W.alloc (.cells #[.pointer (some ⟨g, 0, none⟩), .int .i64 (d : Int), .int .i64 (blocksI s.sectors), .int .i64 (-1)] 78)).heap.size = W.heap.size + 1 := by simp
      rw [hs1]
      rcases hb with hb | hb
      · have := h.lt b hb
        have := hW.size
        exact ⟨by omega, .inl hb⟩
      · subst hb
        exact ⟨by omega, .inr (Nat.le_refl _)⟩
    · rw [heap_alloc_new]
      simp only [devR, freshDev, e1]
    · have := h.lt _ hx
      have := hW.size
      omega
    · show (blocksI s.sectors).toNat < 4096
      omega
  go_enter Try.func19, Try.ntmps19
  go_wp2_with fail
  refine hct.mono ?_
  rintro e w1 ⟨rfl, hb⟩
  clear hct
  go_wp2_with fail
  refine (hbl.out w1).mono ?_
  rintro e w2 ⟨rfl, rfl⟩
  go_wp2
  go_ret2
  exact hsz.out w1 hb

/-- what a call of 'sector' leaves -/
def SecPost (X : Nat → Prop) (a g : Nat) (w : World) (D : DevM) (r : Bytes × Bytes × Int × ShM) (e : Ending) (w' : World) : Prop :=
  ∃ v1 v2, e = .returned (.tuple #[v1, v2, .int .i64 r.2.2.1]) ∧ Fresh w w' v1 r.1 ∧ Fresh w w' v2 r.2.1 ∧ (∀ b, v1.ownBlock = some b → v2.ownBlock ≠ some b) ∧
    DvX (fun b => X b ∨ v1.ownBlock = some b ∨ v2.ownBlock = some b) a g w' r.2.2.2 D ∧ Kept X w w'
theorem Fresh.kept {v : Value} {bs : Bytes} {w0 : World} (h : Fresh w0 w v bs) {Y : Nat → Prop} (hK : Kept Y w w') (hY : ∀ b, v.ownBlock = some b → Y b) : Fresh w0 w' v bs := by
  obtain ⟨A, c, rfl, hA⟩ := h
  rcases hA with ⟨rfl, hn⟩ | ⟨x, rfl, hx, hr⟩
  · exact ⟨none, c, rfl, .inl ⟨rfl, hn⟩⟩
  · exact ⟨_, c, rfl, .inr ⟨x, rfl, hx, hr.of_block (hK.block x (hY x rfl))⟩⟩
theorem Fresh.base {v : Value} {bs : Bytes} {w0 w1 : World} (h : Fresh w1 w v bs) (hs : w0.heap.size ≤ w1.heap.size) : Fresh w0 w v bs := by
  obtain ⟨A, c, rfl, hA⟩ := h
  rcases hA with ⟨rfl, hn⟩ | ⟨x, rfl, hx, hr⟩
  · exact ⟨none, c, rfl, .inl ⟨rfl, hn⟩⟩
  · exact ⟨_, c, rfl, .inr ⟨x, rfl, ⟨Nat.le_trans hs hx.1, hx.2⟩, hr⟩⟩
theorem Fresh.own {v : Value} {bs : Bytes} (h : Fresh w w' v bs) : ∀ b, v.ownBlock = some b → w.heap.size ≤ b ∧ b < w'.heap.size := by
  obtain ⟨A, c, rfl, hA⟩ := h
  intro b hb
  rcases hA with ⟨rfl, hn⟩ | ⟨x, rfl, hx, hr⟩
  · cases hb
  · injection hb with hb
    subst hb
    exact ⟨hx.1, hr.lt⟩
theorem sec_bad {n : Int} (hb : ¬ (0 ≤ n ∧ n < (D.size : Int))) : devSector s D n = ([], [], 1, s) := by simp only [devSector, if_neg hb]
theorem sec_err {n : Int} (hb : 0 ≤ n ∧ n < D.size) (he : ¬ (s.readR D.disk (sumAt n.toNat)).2.1 = 0) : devSector s D n = ([], [], (s.readR D.disk (sumAt n.toNat)).2.1, (s.readR D.disk (sumAt n.toNat)).2.2) := by
  simp only [devSector, if_pos hb, if_neg he]
theorem sec_ok {n : Int} (hb : 0 ≤ n ∧ n < D.size) (he : (s.readR D.disk (sumAt n.toNat)).2.1 = 0) :
    devSector s D n = ((s.readR D.disk (sumAt n.toNat)).1, ((s.readR D.disk (sumAt n.toNat)).2.2.readR D.disk (dataAt n.toNat)).1, ((s.readR D.disk (sumAt n.toNat)).2.2.readR D.disk (dataAt n.toNat)).2.1, ((s.readR D.disk (sumAt n.toNat)).2.2.readR D.disk (dataAt n.toNat)).2.2) := by
  simp only [devSector, if_pos hb, if_pos he]
theorem readR_len2 (s : ShM) (d n : Int) : (s.readR d n).2.2.disks.length = s.disks.length := by rw [readR_disks]
/-- .. and a call that hands back bytes -/
theorem DvX.stepV (h : DvX X a g w s D) {v : Value} {bs : Bytes} (hf : Fresh w w' v bs) (hS : ShX (fun b => (X b ∨ b = a) ∨ v.ownBlock = some b) g w' s') (hK : Kept (fun b => X b ∨ b = a) w w') (hl : s'.disks.length = s.disks.length) :
    DvX (fun b => X b ∨ v.ownBlock = some b) a g w' s' D ∧ Kept X w w' := by
  refine ⟨⟨hS.mono fun b hb => ?_, (hK.block a (.inr rfl)).trans h.row, fun hx => ?_, by rw [hl]; exact h.disk, h.size⟩, hK.mono fun b hb => .inl hb⟩
  · rcases hb with (hb | hb) | hb
    · exact .inl (.inl hb)
    · exact .inr hb
    · exact .inl (.inr hb)
  · rcases hx with hx | hx
    · exact h.out hx
    · have := (hf.own a hx).1
      have := h.alt
      omega

set_option maxRecDepth 10000 in
set_option maxHeartbeats 2000000 in
theorem su_sector (h : DvX X a g w s D) (hroom : Room 1000000000000 s) (n : Int) (hn0 : -9223372036854775808 ≤ n) (hn1 : n ≤ 9223372036854775807) :
    Calls Try.prog 38 #[.pointer (some ⟨a, 0, none⟩), .int .i64 n] w (SecPost X a g w D (devSector s D n)) := by
  have c0 := h.c0
  have c1 := h.c1
  have c2 := h.c2
  have halt := h.alt
  have hsz := h.size
  by_cases hb : 0 ≤ n ∧ n < D.size
  · have hl : Hid (∀ d n, (s.readR d n).2.2.disks.length = s.disks.length) := Lib.hid (readR_len2 s)
    obtain ⟨hb0, hb1⟩ := id hb
    have hct := lx_read h.drew.sh D.disk (sumAt n.toNat) (hroom _)
    have hrm : Hid (Room 1000000000000 (s.readR D.disk (sumAt n.toNat)).2.2) := Lib.hid (room_read hroom _ _)
    have hl2 := Lib.hid (readR_len2 s D.disk (sumAt n.toNat))
    have hlen := Lib.hid (readR_len h.sh.ok D.disk (sumAt n.toNat))
    have hse := Lib.hid fun he => sec_err (s := s) (D := D) hb he
    have hso := Lib.hid fun he => sec_ok (s := s) (D := D) hb he
    have hpl : Hid (∀ W, _) := Lib.hid fun W => su_place n.toNat W (by omega)
    rw [show ((n.toNat : Nat) : Int) = n from by omega] at hpl
    clear hb
    generalize sumAt n.toNat = p at *
    generalize dataAt n.toNat = q at *
    generalize hr : s.readR D.disk p = r at *
    replace hr := Lib.hid hr
    obtain ⟨bs, er, s1⟩ := r
    dsimp only at hct hrm hl2 hse hso hlen
    replace c0 := Lib.hid c0
    replace c1 := Lib.hid c1
    go_enter Try.func38, Try.ntmps38
    go_wp2_with fail
    refine (hpl.out w).mono ?_
    rintro e w' ⟨rfl, rfl⟩
    replace c0 := c0.out
    replace c1 := c1.out
    go_wp2_with fail
    refine wp_region_held_drew (S := (fun w' => w'.cell? ⟨a, 0, none⟩ = some (.pointer (some ⟨g, 0, none⟩)) ∧ w'.cell? ⟨a, 1, none⟩ = some (.int .i64 (D.disk : Int)))) (by kernel_rfl) ?_ (fun hHeld => ?_)
    · (try dsimp only)
      exact ⟨c0, c1⟩
    refine wpAnyH_take (i := 0) (oi := ⟨_, _, _, _, _, _⟩) (v := ?v1) rfl (by kernel_rfl) (by kernel_rfl) (by kernel_rfl) (fun _ _ _ h => h) (Or.inl ⟨by rfl, ?hy1⟩) (by assumption) ?rest1
    case hy1 => (intro w hSw; (try dsimp only at hSw); go_simp; try with_reducible rfl)
    (try simp only [Act.put, List.setIfInBounds_toArray, List.set_cons_zero, List.set_cons_succ])
    refine wpAnyH_take (i := 1) (oi := ⟨_, _, _, _, _, _⟩) (v := ?v2) rfl (by kernel_rfl) (by kernel_rfl) (by kernel_rfl) (fun _ _ _ h => h) (Or.inl ⟨by rfl, ?hy2⟩) (by assumption) ?rest2
    case hy2 => (intro w hSw; (try dsimp only at hSw); go_simp; try with_reducible rfl)
    (try simp only [Act.put, List.setIfInBounds_toArray, List.set_cons_zero, List.set_cons_succ])
    refine wpAnyH_take (i := 2) (oi := ⟨_, _, _, _, _, _⟩) (v := ?v3) rfl (by kernel_rfl) (by kernel_rfl) (by kernel_rfl) (fun _ _ _ h => h) (Or.inl ⟨by rfl, ?hy3⟩) (by assumption) ?rest3
    case hy3 => (intro w hSw; (try dsimp only at hSw); go_simp; try with_reducible rfl)
    (try simp only [Act.put, List.setIfInBounds_toArray, List.set_cons_zero, List.set_cons_succ])
    refine wpAnyH_take (i := 3) (oi := ⟨_, _, _, _, _, _⟩) (v := ?v4) rfl (by kernel_rfl) (by kernel_rfl) (by kernel_rfl) (fun _ _ _ h => h) (Or.inl ⟨by rfl, ?hy4⟩) (by assumption) ?rest4
    case hy4 => (intro w hSw; (try dsimp only at hSw); go_simp; try with_reducible rfl)
    (try simp only [Act.put, List.setIfInBounds_toArray, List.set_cons_zero, List.set_cons_succ])
    refine wpAnyH_take (i := 4) (oi := ⟨_, _, _, _, _, _⟩) (v := ?v5) rfl (by kernel_rfl) (by kernel_rfl) (by kernel_rfl) (fun _ _ _ h => h) (Or.inl ⟨by rfl, ?hy5⟩) (by assumption) ?rest5
    case hy5 => (intro w hSw; (try dsimp only at hSw); go_simp; try with_reducible rfl)
    (try simp only [Act.put, List.setIfInBounds_toArray, List.set_cons_zero, List.set_cons_succ])
    refine wpAnyH_take (i := 5) (oi := ⟨_, _, _, _, _, _⟩) (v := ?v6) rfl (by kernel_rfl) (by kernel_rfl) (by kernel_rfl) (fun _ _ _ h => h) (Or.inl ⟨by rfl, ?hy6⟩) (by assumption) ?rest6
    case hy6 => (intro w hSw; (try dsimp only at hSw); go_simp; try with_reducible rfl)
    (try simp only [Act.put, List.setIfInBounds_toArray, List.set_cons_zero, List.set_cons_succ])
    refine wpAnyH_take (i := 6) (oi := ⟨_, _, _, _, _, _⟩) (v := ?v7) rfl (by kernel_rfl) (by kernel_rfl) (by kernel_rfl) (fun _ _ _ h => h) (Or.inl ⟨by rfl, ?hy7⟩) (by assumption) ?rest7
    case hy7 => (intro w hSw; (try dsimp only at hSw); go_simp; try with_reducible rfl)
    (try simp only [Act.put, List.setIfInBounds_toArray, List.set_cons_zero, List.set_cons_succ])
    refine wpAnyH_take (i := 7) (oi := ⟨_, _, _, _, _, _⟩) (v := ?v8) rfl (by kernel_rfl) (by kernel_rfl) (by kernel_rfl) (fun _ _ _ h => h) (Or.inl ⟨by rfl, ?hy8⟩) (by assumption) ?rest8
    case hy8 => (intro w hSw; (try dsimp only at hSw); go_simp; try with_reducible rfl)
    (try simp only [Act.put, List.setIfInBounds_toArray, List.set_cons_zero, List.set_cons_succ])
    refine wpAnyH_take (i := 8) (oi := ⟨_, _, _, _, _, _⟩) (v := ?v9) rfl (by kernel_rfl) (by kernel_rfl) (by kernel_rfl) (fun _ _ _ h => h) (Or.inl ⟨by rfl, ?hy9⟩) (by assumption) ?rest9
    case hy9 => (intro w hSw; (try dsimp only at hSw); go_simp; try with_reducible rfl)
    (try simp only [Act.put, List.setIfInBounds_toArray, List.set_cons_zero, List.set_cons_succ])
    refine wpAnyH_ready (rs := [9]) (by kernel_rfl) (by simp) ?_
    refine AllReadyH.cons (o := ⟨_, _, _, _, _, _⟩) rfl (fun K hK => ?_) AllReadyH.nil
    go_simp
    refine hct.mono ?_
    rintro e w1 ⟨v1, rfl, hf1, hS1, hK1⟩
    obtain ⟨h1, hK1⟩ := h.drew.stepV hf1 hS1 hK1 hl2.out
    clear hct hS1 c0 c1 c2
    (try go_wp2_with fail)
    refine hK.out _ _ ?_ (fun hHeld2 => ?_)
    · (try dsimp only)
      exact ⟨h1.c0, h1.c1⟩
    clear hK K
    replace hHeld := hHeld2
    clear hHeld2
    (try simp only [Act.put, List.setIfInBounds_toArray, List.set_cons_zero, List.set_cons_succ])
    refine wpAnyH_take (i := 10) (oi := ⟨_, _, _, _, _, _⟩) (v := ?v10) rfl (by kernel_rfl) (by kernel_rfl) (by kernel_rfl) (fun _ _ _ h => h) (Or.inl ⟨by rfl, ?hy10⟩) (by assumption) ?rest10
    case hy10 => (intro w hSw; (try dsimp only at hSw); go_simp; try with_reducible rfl)
    (try simp only [Act.put, List.setIfInBounds_toArray, List.set_cons_zero, List.set_cons_succ])
    refine wpAnyH_take (i := 11) (oi := ⟨_, _, _, _, _, _⟩) (v := ?v11) rfl (by kernel_rfl) (by kernel_rfl) (by kernel_rfl) (fun _ _ _ h => h) (Or.inl ⟨by rfl, ?hy11⟩) (by assumption) ?rest11
    case hy11 => (intro w hSw; (try dsimp only at hSw); go_simp; try with_reducible rfl)
    (try simp only [Act.put, List.setIfInBounds_toArray, List.set_cons_zero, List.set_cons_succ])
    refine wpAnyH_take (i := 12) (oi := ⟨_, _, _, _, _, _⟩) (v := ?v12) rfl (by kernel_rfl) (by kernel_rfl) (by kernel_rfl) (fun _ _ _ h => h) (Or.inl ⟨by rfl, ?hy12⟩) (by assumption) ?rest12
    case hy12 => (intro w hSw; (try dsimp only at hSw); go_simp; try with_reducible rfl)
    (try simp only [Act.put, List.setIfInBounds_toArray, List.set_cons_zero, List.set_cons_succ])
    refine wpAnyH_take (i := 13) (oi := ⟨_, _, _, _, _, _⟩) (v := ?v13) rfl (by kernel_rfl) (by kernel_rfl) (by kernel_rfl) (fun _ _ _ h => h) (Or.inl ⟨by rfl, ?hy13⟩) (by assumption) ?rest13
    case hy13 => (intro w hSw; (try dsimp only at hSw); go_simp; try with_reducible rfl)
    (try simp only [Act.put, List.setIfInBounds_toArray, List.set_cons_zero, List.set_cons_succ])
    refine wpAnyH_take (i := 14) (oi := ⟨_, _, _, _, _, _⟩) (v := ?v14) rfl (by kernel_rfl) (by kernel_rfl) (by kernel_rfl) (fun _ _ _ h => h) (Or.inl ⟨by rfl, ?hy14⟩) (by assumption) ?rest14
    case hy14 => (intro w hSw; (try dsimp only at hSw); go_simp; try with_reducible rfl)
    (try simp only [Act.put, List.setIfInBounds_toArray, List.set_cons_zero, List.set_cons_succ])
    refine wpAnyH_done (by kernel_rfl) ?_ _
    clear hHeld
    by_cases he : er = 0
    · have heb : (er != 0) = false := by simp [he]
      have e0 := hso.out he
      subst he
      replace e0 := Lib.hid e0
      have c0 := h1.c0
      have c1 := h1.c1
      have ha1 := h1.alt
      have hct2 := lx_read h1.drew.sh D.disk q (hrm.out _)
      have hl3 := Lib.hid (readR_len2 s1 D.disk q)
      have hfw := Lib.hid (Fresh.base (w0 := w) hf1 (Nat.le_refl _))
      replace hf1 := Lib.hid hf1
      go_wp2_with fail
      refine wp_region_held_drew (S := (fun w' => w'.cell? ⟨a, 0, none⟩ = some (.pointer (some ⟨g, 0, none⟩)) ∧ w'.cell? ⟨a, 1, none⟩ = some (.int .i64 (D.disk : Int)))) (by kernel_rfl) ?_ (fun hHeld => ?_)
      · (try dsimp only)
        exact ⟨c0, c1⟩
      refine wpAnyH_take (i := 0) (oi := ⟨_, _, _, _, _, _⟩) (v := ?v15) rfl (by kernel_rfl) (by kernel_rfl) (by kernel_rfl) (fun _ _ _ h => h) (Or.inl ⟨by rfl, ?hy15⟩) (by assumption) ?rest15
      case hy15 => (intro w hSw; (try dsimp only at hSw); go_simp; try with_reducible rfl)
      (try simp only [Act.put, List.setIfInBounds_toArray, List.set_cons_zero, List.set_cons_succ])
      refine wpAnyH_take (i := 1) (oi := ⟨_, _, _, _, _, _⟩) (v := ?v16) rfl (by kernel_rfl) (by kernel_rfl) (by kernel_rfl) (fun _ _ _ h => h) (Or.inl ⟨by rfl, ?hy16⟩) (by assumption) ?rest16
      case hy16 => (intro w hSw; (try dsimp only at hSw); go_simp; try with_reducible rfl)
      (try simp only [Act.put, List.setIfInBounds_toArray, List.set_cons_zero, List.set_cons_succ])
      refine wpAnyH_take (i := 2) (oi := ⟨_, _, _, _, _, _⟩) (v := ?v17) rfl (by kernel_rfl) (by kernel_rfl) (by kernel_rfl) (fun _ _ _ h => h) (Or.inl ⟨by rfl, ?hy17⟩) (by assumption) ?rest17
      case hy17 => (intro w hSw; (try dsimp only at hSw); go_simp; try with_reducible rfl)
      (try simp only [Act.put, List.setIfInBounds_toArray, List.set_cons_zero, List.set_cons_succ])
      refine wpAnyH_take (i := 3) (oi := ⟨_, _, _, _, _, _⟩) (v := ?v18) rfl (by kernel_rfl) (by kernel_rfl) (by kernel_rfl) (fun _ _ _ h => h) (Or.inl ⟨by rfl, ?hy18⟩) (by assumption) ?rest18
      case hy18 => (intro w hSw; (try dsimp only at hSw); go_simp; try with_reducible rfl)
      (try simp only [Act.put, List.setIfInBounds_toArray, List.set_cons_zero, List.set_cons_succ])
      refine wpAnyH_take (i := 4) (oi := ⟨_, _, _, _, _, _⟩) (v := ?v19) rfl (by kernel_rfl) (by kernel_rfl) (by kernel_rfl) (fun _ _ _ h => h) (Or.inl ⟨by rfl, ?hy19⟩) (by assumption) ?rest19
      case hy19 => (intro w hSw; (try dsimp only at hSw); go_simp; try with_reducible rfl)
      (try simp only [Act.put, List.setIfInBounds_toArray, List.set_cons_zero, List.set_cons_succ])
      refine wpAnyH_take (i := 5) (oi := ⟨_, _, _, _, _, _⟩) (v := ?v20) rfl (by kernel_rfl) (by kernel_rfl) (by kernel_rfl) (fun _ _ _ h => h) (Or.inl ⟨by rfl, ?hy20⟩) (by assumption) ?rest20
      case hy20 => (intro w hSw; (try dsimp only at hSw); go_simp; try with_reducible rfl)
      (try simp only [Act.put, List.setIfInBounds_toArray, List.set_cons_zero, List.set_cons_succ])
      refine wpAnyH_take (i := 6) (oi := ⟨_, _, _, _, _, _⟩) (v := ?v21) rfl (by kernel_rfl) (by kernel_rfl) (by kernel_rfl) (fun _ _ _ h => h) (Or.inl ⟨by rfl, ?hy21⟩) (by assumption) ?rest21
      case hy21 => (intro w hSw; (try dsimp only at hSw); go_simp; try with_reducible rfl)
      (try simp only [Act.put, List.setIfInBounds_toArray, List.set_cons_zero, List.set_cons_succ])
      refine wpAnyH_take (i := 7) (oi := ⟨_, _, _, _, _, _⟩) (v := ?v22) rfl (by kernel_rfl) (by kernel_rfl) (by kernel_rfl) (fun _ _ _ h => h) (Or.inl ⟨by rfl, ?hy22⟩) (by assumption) ?rest22
      case hy22 => (intro w hSw; (try dsimp only at hSw); go_simp; try with_reducible rfl)
      (try simp only [Act.put, List.setIfInBounds_toArray, List.set_cons_zero, List.set_cons_succ])
      refine wpAnyH_take (i := 8) (oi := ⟨_, _, _, _, _, _⟩) (v := ?v23) rfl (by kernel_rfl) (by kernel_rfl) (by kernel_rfl) (fun _ _ _ h => h) (Or.inl ⟨by rfl, ?hy23⟩) (by assumption) ?rest23
      case hy23 => (intro w hSw; (try dsimp only at hSw); go_simp; try with_reducible rfl)
      (try simp only [Act.put, List.setIfInBounds_toArray, List.set_cons_zero, List.set_cons_succ])
      refine wpAnyH_ready (rs := [9]) (by kernel_rfl) (by simp) ?_
      refine AllReadyH.cons (o := ⟨_, _, _, _, _, _⟩) rfl (fun K hK => ?_) AllReadyH.nil
      go_simp
      refine hct2.mono ?_
      rintro e w2 ⟨v2, rfl, hf2, hS2, hK2⟩
      obtain ⟨h2, hK2⟩ := h1.drew.stepV hf2 hS2 hK2 hl3.out
      clear hct2 hS2 c0 c1
      (try go_wp2_with fail)
      refine hK.out _ _ ?_ (fun hHeld2 => ?_)
      · (try dsimp only)
        exact ⟨h2.c0, h2.c1⟩
      clear hK K
      replace hHeld := hHeld2
      clear hHeld2
      (try simp only [Act.put, List.setIfInBounds_toArray, List.set_cons_zero, List.set_cons_succ])
      refine wpAnyH_take (i := 10) (oi := ⟨_, _, _, _, _, _⟩) (v := ?v24) rfl (by kernel_rfl) (by kernel_rfl) (by kernel_rfl) (fun _ _ _ h => h) (Or.inl ⟨by rfl, ?hy24⟩) (by assumption) ?rest24
      case hy24 => (intro w hSw; (try dsimp only at hSw); go_simp; try with_reducible rfl)
      (try simp only [Act.put, List.setIfInBounds_toArray, List.set_cons_zero, List.set_cons_succ])
      refine wpAnyH_take (i := 11) (oi := ⟨_, _, _, _, _, _⟩) (v := ?v25) rfl (by kernel_rfl) (by kernel_rfl) (by kernel_rfl) (fun _ _ _ h => h) (Or.inl ⟨by rfl, ?hy25⟩) (by assumption) ?rest25
      case hy25 => (intro w hSw; (try dsimp only at hSw); go_simp; try with_reducible rfl)
      (try simp only [Act.put, List.setIfInBounds_toArray, List.set_cons_zero, List.set_cons_succ])
      refine wpAnyH_take (i := 12) (oi := ⟨_, _, _, _, _, _⟩) (v := ?v26) rfl (by kernel_rfl) (by kernel_rfl) (by kernel_rfl) (fun _ _ _ h => h) (Or.inl ⟨by rfl, ?hy26⟩) (by assumption) ?rest26
      case hy26 => (intro w hSw; (try dsimp only at hSw); go_simp; try with_reducible rfl)
      (try simp only [Act.put, List.setIfInBounds_toArray, List.set_cons_zero, List.set_cons_succ])
      refine wpAnyH_take (i := 13) (oi := ⟨_, _, _, _, _, _⟩) (v := ?v27) rfl (by kernel_rfl) (by kernel_rfl) (by kernel_rfl) (fun _ _ _ h => h) (Or.inl ⟨by rfl, ?hy27⟩) (by assumption) ?rest27
      case hy27 => (intro w hSw; (try dsimp only at hSw); go_simp; try with_reducible rfl)
      (try simp only [Act.put, List.setIfInBounds_toArray, List.set_cons_zero, List.set_cons_succ])
      refine wpAnyH_take (i := 14) (oi := ⟨_, _, _, _, _, _⟩) (v := ?v28) rfl (by kernel_rfl) (by kernel_rfl) (by kernel_rfl) (fun _ _ _ h => h) (Or.inl ⟨by rfl, ?hy28⟩) (by assumption) ?rest28
      case hy28 => (intro w hSw; (try dsimp only at hSw); go_simp; try with_reducible rfl)
      (try simp only [Act.put, List.setIfInBounds_toArray, List.set_cons_zero, List.set_cons_succ])
      refine wpAnyH_done (by kernel_rfl) ?_ _
      clear hHeld
      have hfin : SecPost X a g w D (devSector s D n) (.returned (.tuple #[v1, v2, .int .i64 (s1.readR D.disk q).2.1])) w2 := by
        rw [e0.out]
        refine ⟨v1, v2, rfl, hfw.out.kept ((Kept.drew _ w1).trans hK2) (fun b hb => .inr hb), hf2.base (Nat.le_trans hK1.size (Nat.le_refl _)), fun b hb hb2 => ?_, h2.mono fun b hb => ?_, ?_⟩
        · have x1 := (hf1.out.own b hb).2
          have x2 := (hf2.own b hb2).1
          have x3 : w1.drew.heap.size = w1.heap.size := rfl
          omega
        · rcases hb with hb | hb | hb
          · exact .inl (.inl hb)
          · exact .inl (.inr hb)
          · exact .inr hb
        · exact (Kept.drew X w).trans (hK1.trans (((Kept.drew _ w1).trans hK2).mono fun b hb => .inl hb))
      replace hfin := Lib.hid hfin
      clear hf2 hK2 h2
      go_wp2
      go_ret3
      exact hfin.out
    · have heb : (er != 0) = true := by simp [he]
      have e0 := hse.out he
      replace he := Lib.hid he
      have hfin : SecPost X a g w D (devSector s D n) (.returned (.tuple #[.slice none 0 0, .slice none 0 0, .int .i64 er])) w1 := by
        rw [e0]
        refine ⟨_, _, rfl, Fresh.nil _ _, Fresh.nil _ _, (fun b hb => by cases hb), h1.mono fun b hb => ?_, (Kept.drew X w).trans hK1⟩
        rcases hb with hb | hb | hb
        · exact .inl hb
        · cases hb
        · cases hb
      replace hfin := Lib.hid hfin
      replace e0 := Lib.hid e0
      go_wp2
      go_ret3
      exact hfin.out
  · have e0 := sec_bad (s := s) hb
    have hfin : Hid (∀ W, (W = w ∨ W = w.drew) → SecPost X a g w D (devSector s D n) (.returned (.tuple #[.slice none 0 0, .slice none 0 0, .int .i64 1])) W) := Lib.hid fun W hW => by
      rw [e0]
      have hh : DvX X a g W s D ∧ Kept X w W := by
        rcases hW with rfl | rfl
        · exact ⟨h, Kept.refl _ _⟩
        · exact ⟨h.drew, Kept.drew _ _⟩
      refine ⟨_, _, rfl, Fresh.nil _ _, Fresh.nil _ _, (fun b hb => by cases hb), hh.1.mono fun b hb => ?_, hh.2⟩
      rcases hb with hb | hb | hb
      · exact hb
      · cases hb
      · cases hb
    replace e0 := Lib.hid e0
    have hx : n < 0 ∨ (0 ≤ n ∧ (D.size : Int) ≤ n) := by omega
    clear hb
    rcases hx with hx | ⟨hx, hx'⟩
    all_goals
      go_enter Try.func38, Try.ntmps38
      go_wp2
      go_ret3
      exact hfin.out _ (.inl rfl)
end
end Go.Proofs.Ytikfbhepnnbdoaa

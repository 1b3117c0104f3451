/-
  What SumsCrash keeps in mind. No program in sight.
-/
import Derived.Test.YtibpmiapcihkfaaSuO
import Derived.Test.YtibpmiapcihkfaaSuY
namespace Go.Proofs.Ytibpmiapcihkfaa
set_option linter.all false
open Go.RowKit

structure CrI (s : ShM) (D : DevM) (L : Nat → List Bytes) : Prop where
  disk : D.disk = 0
  size : D.size = 37
  len : s.disks.length = 1
  sec : s.sectors = 40
  full : ∀ k, 0 < (L k).length
  room : Room 100 s
  st : (∃ V, Lives s D V (fun k x => x ∈ L k) ∧ ∀ k, k < 37 → (L k).drop ((L k).length - 1) = [V k]) ∨ Gone s D (fun k x => x ∈ L k)
section
variable {s : ShM} {D : DevM} {L : Nat → List Bytes}
theorem crash_start (stop : Int) : CrI ((freshSh 1 40).stop stop) (freshDev (freshSh 1 40) 0) (fun _ => [zeroSec]) := by
  have hd : ((freshSh 1 40).stop stop).disks = (freshSh 1 40).disks := by simp only [ShM.stop]; split <;> rfl
  have hc : ((freshSh 1 40).stop stop).sectors = 40 := by simp only [ShM.stop]; split <;> rfl
  have hk : ((freshSh 1 40).stop stop).disk 0 = freshDisk 40 := by simp only [ShM.disk, hd]; rfl
  have hok := freshSh_ok 1 40 (by omega) (by omega) (by omega) (by omega)
  have hok' : ((freshSh 1 40).stop stop).Ok := ⟨by rw [hd]; exact hok.disks1, by rw [hd]; exact hok.disks17, by rw [hc]; omega, by rw [hc]; omega, by rw [hd, hc]; exact hok.sure, by rw [hd]; exact hok.sec, by rw [hd, hc]; exact hok.waits⟩
  have hroom : Room 100 ((freshSh 1 40).stop stop) := by
    intro e
    have h0 := room_fresh 1 40 e
    simp only [ShM.disk, hd] at h0 ⊢
    omega
  have hz : (freshDev (freshSh 1 40) 0).size = 37 := by decide
  have hg : ∀ n, n < 40 → (freshDisk 40).sure.getD n [] = zeroSec := fun n hn => by
    show (List.replicate 40 zeroSec).getD n [] = zeroSec
    rw [List.getD_eq_getElem?_getD, List.getElem?_replicate, if_pos hn]
    rfl
  have hst : ∀ k, standP zeroSec k = (0, 0) := by
    intro k
    have h1 : ∀ o, leNum ((zeroSec.drop o).take 4) = 0 := by
      intro o
      have : ∀ (j : Nat) (m : Nat), leNum ((List.replicate m (0 : UInt8)).take j) = 0 := by
        intro j m
        rw [List.take_replicate]
        generalize min j m = q
        induction q with
        | zero => rfl
        | succ q ih => rw [List.replicate_succ]; simp [leNum, ih]
      unfold zeroSec
      rw [List.drop_replicate]
      exact this _ _
    unfold standP
    rw [h1, h1]
  refine ⟨rfl, hz, by rw [hd]; rfl, hc, fun _ => by simp, hroom, .inl ⟨fun _ => zeroSec, ⟨⟨⟨hok', by rw [hd]; exact Nat.one_pos, by rw [show (freshDev (freshSh 1 40) 0).disk = 0 from rfl, hk]; rfl⟩, by rw [hc, hz]; decide, hroom⟩, ?_⟩, fun _ _ => rfl⟩⟩
  show LiveL 0 (freshDev (freshSh 1 40) 0).size (((freshSh 1 40).stop stop).disk 0).sure (((freshSh 1 40).stop stop).disk 0).waits _ _ _
  rw [hk, hz]
  have hp : ∀ k, k < 37 → sumAt k < 40 ∧ dataAt k < 40 := fun k hk => by unfold sumAt dataAt; omega
  refine ⟨fun k hk => ?_, .inl ⟨rfl, fun k hk => (hg _ (hp k hk).2).symm⟩⟩
  rw [hg _ (hp k hk).1, hg _ (hp k hk).2, hst]
  exact ⟨by simp [fitsP], by simp⟩
theorem CrI.write (h : CrI s D L) {n : Nat} (hn : n < 37) {b : Bytes} (hb : b.length = 128) : CrI (devWrite s D n b).2.1 (devWrite s D n b).2.2 (updM L n (L n ++ [b])) := by
  have hmem : ∀ k x, x ∈ L k → x ∈ updM L n (L n ++ [b]) k := by
    intro k x hx
    unfold updM
    split
    · rename_i e
      subst e
      exact List.mem_append_left _ hx
    · exact hx
  have hfull : ∀ k, 0 < (updM L n (L n ++ [b]) k).length := by
    intro k
    unfold updM
    split
    · simp
    · exact h.full k
  rcases h.st with ⟨V, hl, hv⟩ | hg
  · obtain ⟨r1, r2, r3, r4, r5⟩ := hl.write (May' := fun k x => x ∈ updM L n (L n ++ [b]) k) (n := n) (by rw [h.size]; exact hn) hb hmem (by show b ∈ updM L n (L n ++ [b]) n; rw [updM_same]; simp)
    refine ⟨r1.trans h.disk, r2.trans h.size, r3.trans h.len, r4.trans h.sec, hfull, ?_, ?_⟩
    · rcases r5 with ⟨_, q⟩ | ⟨_, q⟩ <;> exact q.p.room
    · rcases r5 with ⟨_, q⟩ | ⟨_, q⟩
      · refine .inl ⟨_, q, fun k hk => ?_⟩
        unfold updM updV
        split
        · simp
        · exact hv k hk
      · exact .inr q
  · rw [hg.write (by rw [h.size]; exact hn) hb]
    exact ⟨h.disk, h.size, h.len, h.sec, hfull, h.room, .inr ⟨hg.p, hg.off, hg.crash.mono hmem⟩⟩
theorem CrI.mono (h : CrI s D L) {L' : Nat → List Bytes} (hL : ∀ k, k < 37 → L' k = L k) (hf : ∀ k, 0 < (L' k).length) : CrI s D L' := by
  have key : ∀ (d : Nat) (sure : List Bytes), GoodL d 37 sure (fun k x => x ∈ L k) → GoodL d 37 sure (fun k x => x ∈ L' k) := fun d sure hg k hk => ⟨(hg k hk).1, by show _ ∈ L' k; rw [hL k hk]; exact (hg k hk).2⟩
  refine ⟨h.disk, h.size, h.len, h.sec, hf, h.room, ?_⟩
  rcases h.st with ⟨V, hl, hv⟩ | hg
  · refine .inl ⟨V, ⟨hl.p, ?_⟩, fun k hk => by rw [hL k hk]; exact hv k hk⟩
    have hq := hl.live
    rw [h.size] at hq ⊢
    refine ⟨key _ _ hq.good, hq.st.imp id ?_⟩
    rintro ⟨n, b, h1, h2, h3, h4, h5, h6⟩
    exact ⟨n, b, h1, h2, h3, h4, by show b ∈ L' n; rw [hL n h1]; exact h5, h6⟩
  · refine .inr ⟨hg.p, hg.off, fun keeps => ?_⟩
    have := hg.crash keeps
    rw [h.size] at this ⊢
    exact key _ _ this
theorem CrI.flush (h : CrI s D L) : ((devFlush s D).1 = 3 ∧ CrI (devFlush s D).2.1 (devFlush s D).2.2 L) ∨ ((devFlush s D).1 = 0 ∧ CrI (devFlush s D).2.1 (devFlush s D).2.2 fun k => (L k).drop ((L k).length - 1)) := by
  rcases h.st with ⟨V, hl, hv⟩ | hg
  · rcases hl.flush with ⟨_, e⟩ | ⟨_, s', e, hl', hw, hlen, hsec⟩
    · rw [e]
      exact .inl ⟨rfl, h⟩
    · rw [e]
      refine .inr ⟨rfl, h.disk, h.size, hlen.trans h.len, hsec.trans h.sec, fun k => ?_, hl'.p.room, .inl ⟨V, ⟨hl'.p, ?_⟩, fun k hk => ?_⟩⟩
      · have := h.full k
        rw [List.length_drop]
        omega
      · have hq := hl'.live
        have hw' : (s'.disk ({ D with opn := -1 } : DevM).disk).waits = [] := hw
        rw [hw'] at hq ⊢
        refine hq.last fun k hk => ?_
        show V k ∈ (L k).drop ((L k).length - 1)
        rw [hv k (by rw [← h.size]; exact hk)]
        simp
      · show List.drop (((L k).drop ((L k).length - 1)).length - 1) ((L k).drop ((L k).length - 1)) = _
        rw [hv k hk]
        rfl
  · rw [hg.flush]
    exact .inl ⟨rfl, h⟩
theorem CrI.crash (h : CrI s D L) (keep : List (List Int)) : Run (s.crash keep) 0 ∧ (s.crash keep).sectors = 40 ∧
    ∀ n, n < 37 → fitsP 0 (standP (rdS (s.crash keep) 0 (sumAt n)) n) n (rdS (s.crash keep) 0 (dataAt n)) = true ∧ rdS (s.crash keep) 0 (dataAt n) ∈ L n := by
  have hp : DPow s D ∧ CrashL D.disk D.size (s.disk D.disk).sure (s.disk D.disk).waits (fun k x => x ∈ L k) := by
    rcases h.st with ⟨V, hl, _⟩ | hg
    · exact ⟨hl.p, hl.live.crash hl.p.sizes⟩
    · exact ⟨hg.p, hg.crash⟩
  obtain ⟨r1, r2, _, r4⟩ := crash_good hp.1 hp.2 keep
  rw [h.disk] at r1 r4
  refine ⟨r1, r2.trans h.sec, fun n hn => r4 n (by rw [h.size]; exact hn)⟩
end

theorem But.after {g : Nat} {w w' : World} {o : Obj} (h : But g (w.drew.alloc o) w') : But g w w' := by
  have hs : (w.drew.alloc o).heap.size = w.heap.size + 1 := by rw [World.size_alloc]; rfl
  refine ⟨h.os, h.tape, h.output, by have := h.size; omega, fun k hk hne => ?_⟩
  rw [h.block k (by omega) hne]
  exact heap_alloc_old w.drew o hk
/-- what a block may have is another row now -/
theorem may_put {w0 w w' : World} {base mb a g k g' o' c' m : Nat} {G : Nat → Nat × Nat × Nat} {L : Nat → List Bytes} {s : ShM} {D : DevM} (hM : MayAt w base mb G 37 37 L)
    (hD : DvX (fun b => b < base ∨ MayB mb G 37 b) a g w s D) (hB : Below base w0 w) (hk : k < 37) (hBt : But (G k).1 w w') {l : List Bytes} (hm : l.length = m) (hV : VlAt w' 9 base g' o' c' (l.map strV)) (hg : g' = (G k).1 ∨ w.heap.size ≤ g') (hbs : base ≤ w.heap.size) :
    MayAt (w'.setCell ⟨mb, k, none⟩ (.slice (some ⟨g', o', none⟩) m c')) base mb (updM G k (g', o', c')) 37 37 (updM L k l) ∧
    DvX (fun b => b < base ∨ MayB mb (updM G k (g', o', c')) 37 b) a g (w'.setCell ⟨mb, k, none⟩ (.slice (some ⟨g', o', none⟩) m c')) s D ∧
    Below base w0 (w'.setCell ⟨mb, k, none⟩ (.slice (some ⟨g', o', none⟩) m c')) := by
  have hsz : (w'.setCell ⟨mb, k, none⟩ (.slice (some ⟨g', o', none⟩) m c')).heap.size = w'.heap.size := by simp [World.setCell]
  have hM' := hM.set (w' := w') (k := k) (n' := 37) hk (fun j hj => .inl hj) hBt.size (fun b hb hne => hBt.block b hb (hne hk)) hm hV (hg.imp (fun e => ⟨hk, e⟩) id)
  have hge := (hM.el k hk).1.1
  refine ⟨hM', hD.turn (by rw [hsz]; exact hBt.size) (fun b hb hx => ?_) (fun b hb => ?_), (hB.trans ⟨hBt.os, hBt.tape, hBt.output, hBt.size, fun b hb => hBt.block b (by omega) (by omega)⟩).setCell (p := ⟨mb, k, none⟩) hM.low _⟩
  · rw [heap_setCell_other _ ⟨mb, k, none⟩ b _ (fun e => hx (.inr (.inl e)))]
    exact hBt.block b hb fun e => hx (.inr (.inr ⟨k, hk, e⟩))
  · rw [hsz]
    have hs := hBt.size
    rcases hb with hb | rfl | ⟨j, hj, rfl⟩
    · exact ⟨by omega, .inl (.inl hb)⟩
    · exact ⟨by have := hM.mblt; omega, .inl (.inr (.inl rfl))⟩
    · by_cases e : j = k
      · subst e
        rw [updM_same]
        exact ⟨hV.lt, hg.imp (fun e => .inr (.inr ⟨j, hj, e⟩)) id⟩
      · rw [updM_ne _ _ e]
        exact ⟨by have := (hM.el j hj).1.lt; omega, .inl (.inr (.inr ⟨j, hj, rfl⟩))⟩
theorem Try.infoStr1 : (Try.prog.info? 9).map (fun i => (i.zero, i.size, i.bytes)) = some (some (.string ⟨#[]⟩), 1, 16) := by kernel_rfl
end Go.Proofs.Ytibpmiapcihkfaa

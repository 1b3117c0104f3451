/-
 Several texts of this work in one (merge.py): RaH, RaI, RaJ, RaO.
-/
import Derived.Test.YtajnlhalanhicaaHeldTail
import Derived.Test.YtajnlhalanhicaaRgB
import Derived.Deep.DeepCutAuto
import Derived.BigQuiet
import Derived.Deep.CutBlock
namespace Go.Proofs.Ytajnlhalanhicaa
set_option linter.all false
set_option maxRecDepth 20000
section
open Go.RowKit
section
variable {X : Nat → Prop} {F : VolF} {w w' : World} {s : ShM} {V : VolM}
theorem volTog_len {s : ShM} {V : VolM} (hok : s.Ok) (st : Nat) (l : List Nat) (h : (volTog s V st l).2.1 = 0) : (volTog s V st l).1.length = 128 := by
 have key : ∀ (l : List Nat) (s : ShM) (sum : Bytes), s.Ok → sum.length = 128 → (togL s V st sum l).2.1 = 0 → (togL s V st sum l).1.length = 128 := by
  intro l
  induction l with
  | nil => intro s sum _ h _; exact h
  | cons m l ih =>
   intro s sum hok hs h
   rw [togL_step] at h ⊢
   have hg := volGet_ok (V := V) (m := m) (st := st) hok
   have hok' : (volGet s V m st).2.2.Ok := by
    have := devRead_disks s (V.dev (V.diskOf m st)) ((V.base + st : Nat) : Int)
    unfold volGet
    generalize (devRead s (V.dev (V.diskOf m st)) ((V.base + st : Nat) : Int)).2.2 = s' at *
    obtain ⟨l', st', ds', se', co'⟩ := s'
    obtain ⟨h1, h2⟩ := this
    dsimp only at h1 h2
    subst h1 h2
    exact ⟨hok.disks1, hok.disks17, hok.sectors1, hok.sectors4096, hok.sure, hok.sec, hok.waits⟩
   split at h
   ·rename_i h3
    simp at h
   ·rename_i h3
    split at h
    ·simp at h
    ·rename_i h0
     rw [if_neg h3, if_neg h0]
     exact ih _ _ hok' (xorB_len hs (hg (by simpa using h0))) h
 exact key l s zeroSec hok (by simp [zeroSec]) h
theorem room_tog {N : Nat} (h : Room N s) (V : VolM) (st : Nat) (l : List Nat) : Room N (volTog s V st l).2.2 := togL_room V st _ _ _ h
set_option maxHeartbeats 4000000 in
theorem ra_only (h : VolX X F w s V) (hroom : Room 999999999990 s) (p st : Nat) (hp : p < V.m) (hst : st ≤ 1000000) (ms : List Nat) (hms : ∀ m ∈ ms, m < V.m) (B : Option Addr) (n cb : Nat) (hB : RdV w B (ms.map natK)) (hn : ms.length = n) (hn1 : n ≤ 100) (hX : ∀ ad, B = some ad → X ad.block)
  (A : Option Addr) (c : Nat) (bs : Bytes) (hr : Rd w A bs) (hL : bs.length = 128) (hA : ∀ ad, A = some ad → X ad.block) :
  Calls Try.prog 41 #[.pointer (some ⟨F.v, 0, none⟩), .int .i64 (p : Int), .int .i64 (st : Int), .slice B n cb, .slice A 128 c] w (PutPost_ X F w (volOnly s V p st ms bs)) := by
 have htg := ra_together h (hroom.mono (by omega)) st hst ms hms B n cb hB hn hn1 hX
 have hlen := Lib.hid fun h0 => volTog_len (V := V) h.sh.ok st ms h0
 have hroom1 := Lib.hid (room_tog hroom V st ms)
 obtain ⟨T, hT⟩ : ∃ T, T = volOnly s V p st ms bs := ⟨_, rfl⟩
 rw [← hT]
 have hT1 : Hid (T = _) := Lib.hid (hT.trans (by unfold volOnly; rfl))
 dsimp only at hT1
 generalize volTog s V st ms = r at *
 obtain ⟨rb, er, s1⟩ := r
 dsimp only at htg hT1 hroom1 hlen
 replace h := Lib.hid h
 replace hr := Lib.hid hr
 replace hA := Lib.hid hA
 replace hL := Lib.hid hL
 clear hT hB hms hX hroom hn
 go_enter Try.func41, Try.ntmps41
 go_wp2_with fail
 with_reducible refine htg.mono ?_
 rintro e w1 ⟨A1, c1, rfl, hR1, hc1, hA1, hV1, hK1⟩
 dsimp only at hR1 hc1 hV1
 clear htg
 by_cases e0 : er = 0
 ·subst e0
  replace hT1 := Lib.hid (hT1.out.trans (if_pos rfl))
  have hl1 := hlen.out rfl
  rw [hl1]
  have hrb : Rd w1 A bs := hK1.rd hr.out hA.out
  have hx := xor_ok A1 A 128 128 c1 c rb bs w1 hR1 hrb hl1 hL.out rfl (by omega)
  have hxl := Lib.hid (xorB_len hl1 hL.out)
  replace hV1 := Lib.hid hV1
  replace hK1 := Lib.hid hK1
  clear hR1 hc1 hA1 hl1 hlen hrb
  go_wp2_with fail
  with_reducible refine hx.mono ?_
  rintro e w5 ⟨A5, c5, rfl, ho5, hb5⟩
  have hown5 : ∀ ad, A5 = some ad → w1.heap.size ≤ ad.block ∧ ad.block < w5.heap.size := by
   intro ad e
   obtain ⟨A', c', hv, _, h2⟩ := ho5.form
   injection hv with e1
   subst e1
   obtain ⟨x, rfl, h4, h5⟩ := h2 ad e
   exact ⟨h4, h5⟩
  have hV5 : VolX (fun b => X b ∨ ∃ ad, A5 = some ad ∧ ad.block = b) F w5 s1 V := hV1.out.more hb5 fun b hb => by
   rcases hb with hb | ⟨ad, e, rfl⟩
   ·exact ⟨Nat.lt_of_lt_of_le (hV1.out.lt b (.inl hb)) hb5.size, .inl (.inl hb)⟩
   ·exact ⟨(hown5 ad e).2, .inr (hown5 ad e).1⟩
  have hK5 := Lib.hid (hK1.out.trans (Kept.of_below hb5 fun b hb => hV1.out.lt b (.inl hb)))
  have hpt := ra_put hV5 hroom1.out p st hp hst A5 128 c5 (xorB rb bs) ho5.rd hxl.out (fun ad e => .inr ⟨ad, e, rfl⟩)
  generalize volPut s1 V p st (xorB rb bs) = q at *
  obtain ⟨eq, s2, V2⟩ := q
  clear hx hV1 hK1 hb5 ho5 hown5 hV5
  go_wp2_with fail
  with_reducible refine hpt.mono ?_
  rintro e w6 ⟨rfl, hV6, hK6⟩
  dsimp only at hV6
  have hfin : PutPost_ X F w T (.returned (.int .i64 eq)) w6 := by
   rw [hT1.out]
   exact ⟨rfl, hV6.mono fun b hb => .inl hb, hK5.out.trans (hK6.mono fun b hb => .inl hb)⟩
  replace hfin := Lib.hid hfin
  clear hV6 hK6 hK5 hT1 hpt
  go_wp2_with fail
  go_ret
  exact hfin.out
 ·have hb0 : (er != 0) = true := by rw [bne_iff_ne]; exact e0
  have hT2 : T = (er, s1, V) := hT1.out.trans (if_neg e0)
  have hfin : PutPost_ X F w T (.returned (.int .i64 er)) w1 := by
   rw [hT2]
   exact ⟨rfl, hV1.mono fun b hb => .inl hb, hK1⟩
  replace hfin := Lib.hid hfin
  clear hT1 hT2 hR1 hc1 hA1 hV1 hK1 e0
  go_wp2_with fail
  go_ret
  exact hfin.out
def FreePost (X : Nat → Prop) (F : VolF) (w : World) (r : Nat × Int × ShM × VolM) (e : Ending) (w' : World) : Prop :=
 e = .returned (.tuple #[.int .i64 (r.1 : Int), .int .i64 r.2.1]) ∧ VolX X F w' r.2.2.1 r.2.2.2 ∧ Kept X w w'
def isInt : Value → Nat | .int _ _ => 0 | _ => 1
theorem slotFrom_step (V : VolM) (d n f : Nat) : slotFrom V d n (f + 1) = if V.used.contains (d, n) then slotFrom V d (n + 1) f else some n := rfl
theorem volFree_some {d n : Nat} (h : slotFrom V d 0 V.logs = some n) : volFree s V d = (n, 0, s, V) := by unfold volFree; rw [h]
theorem volFree_none {d : Nat} (h : slotFrom V d 0 V.logs = none) : volFree s V d = (0, (volFlush s V).1, (volFlush s V).2.1, (volFlush s V).2.2) := by unfold volFree; rw [h]
theorem clrIn_sup : ∀ (f : Nat) (s : ShM) (V : VolM) (i n : Nat), (clrIn s V i n f).2.2.sup = V.sup
 | 0, _, _, _, _ => rfl
 | f + 1, s, V, i, n => by
  rw [clrIn_step]
  split
  ·split
   ·exact (clrIn_sup f _ _ i (n + 1)).trans rfl
   ·rfl
  ·exact clrIn_sup f _ _ i (n + 1)
theorem clrFrom_sup : ∀ (f : Nat) (s : ShM) (V : VolM) (i : Nat), (clrFrom s V i f).2.2.sup = V.sup
 | 0, _, _, _ => rfl
 | f + 1, s, V, i => by
  rw [clrFrom_step]
  split
  ·exact (clrFrom_sup f _ _ (i + 1)).trans (clrIn_sup _ _ _ _ _)
  ·exact clrIn_sup _ _ _ _ _
theorem syncFrom_sup : ∀ (f : Nat) (s : ShM) (V : VolM) (i : Nat), (syncFrom s V i f).2.2.sup = V.sup
 | 0, _, _, _ => rfl
 | f + 1, s, V, i => by
  rw [syncFrom_step]
  split
  ·exact (syncFrom_sup f _ _ (i + 1)).trans rfl
  ·rfl
theorem volFlush_sup : (volFlush s V).2.2.sup = V.sup := by
 have h1 : (volSync s V).2.2.sup = V.sup := syncFrom_sup _ _ _ _
 unfold volFlush
 dsimp only
 split
 ·split
  ·exact h1
  ·have h2 := clrFrom_sup (volSync s V).2.2.devs.length (volSync s V).2.1 (volSync s V).2.2 0
   split
   ·have h3 := syncFrom_sup (clrFrom (volSync s V).2.1 (volSync s V).2.2 0 (volSync s V).2.2.devs.length).2.2.devs.length (clrFrom (volSync s V).2.1 (volSync s V).2.2 0 (volSync s V).2.2.devs.length).2.1 (clrFrom (volSync s V).2.1 (volSync s V).2.2 0 (volSync s V).2.2.devs.length).2.2 0
    split
    ·exact h3.trans (h2.trans h1)
    ·exact h3.trans (h2.trans h1)
   ·exact h2.trans h1
 ·exact h1
theorem volFlush_used (h : (volFlush s V).1 = 0) : (volFlush s V).2.2.used = [] ∧ (volFlush s V).2.2.opens = [] := by
 unfold volFlush at h ⊢
 dsimp only at h ⊢
 split
 ·rename_i h1
  rw [if_pos h1] at h
  split
  ·exact ⟨rfl, rfl⟩
  ·rename_i h2
   rw [if_neg h2] at h
   split
   ·rename_i h3
    rw [if_pos h3] at h
    split
    ·exact ⟨rfl, rfl⟩
    ·rename_i h4
     rw [if_neg h4] at h
     exact absurd h h4
   ·rename_i h3
    rw [if_neg h3] at h
    exact absurd h h3
 ·rename_i h1
  rw [if_neg h1] at h
  exact absurd h h1
set_option maxHeartbeats 8000000 in
theorem ra_free (h : VolX X F w s V) (hroom : Room 999999990000 s) (d : Nat) (hd : d ≤ 17) : Calls Try.prog 81 #[.pointer (some ⟨F.v, 0, none⟩), .int .i64 (d : Int)] w (FreePost X F w (volFree s V d)) := by
 obtain ⟨T, hT⟩ : ∃ T, T = volFree s V d := ⟨_, rfl⟩
 rw [← hT]
 have hK0 : Kept X w w := Kept.refl _ _
 replace h := Lib.hid h
 replace hT := Lib.hid hT
 go_enter Try.func81, Try.ntmps81
 go_wp2_with fail
 go_loopw [9] (fun q wr => ∃ (s' : ShM) (V' : VolM), ((q = undef ∧ Hid (T = volFree s' V' d)) ∨ (q = .int .i64 0 ∧ Hid (T = (0, 0, s', V')) ∧ Hid (V'.used = []))) ∧ Hid (VolX X F wr s' V') ∧ Hid (Kept X w wr) ∧ Hid (q = undef → Room 999999990000 s'))
  (fun q _ => isInt q)
 case atStart => exact ⟨s, V, .inl ⟨rfl, hT⟩, h, Lib.hid hK0, Lib.hid fun _ => hroom⟩
 case round =>
  clear hT h hK0 hroom
  obtain ⟨s', V', hq, hV, hK, hroom⟩ := hrel
  obtain ⟨L, hL⟩ : ∃ L, L = V'.logs := ⟨_, rfl⟩
  have hL8 : L ≤ 8 := by rw [hL]; exact hV.out.slots8
  have hL1 : 1 ≤ L := by
   have h1 := hV.out.ok.l1
   have h2 := hV.out.ok.lN
   rw [hL]
   omega
  have hcl := hV.out.cLogs
  rw [← hL] at hcl
  have hvlt := hV.out.vlt
  obtain ⟨P, hP⟩ : ∃ P, P = slotFrom V' d 0 L := ⟨_, rfl⟩
  have hP0 : Hid (P = slotFrom V' d 0 (L - 0)) := Lib.hid hP
  rcases hq with ⟨rfl, hT⟩ | ⟨rfl, hT, hU⟩
  ·replace hT : Hid ((∀ n, P = some n → T = (n, 0, s', V')) ∧ (P = none → T = (0, (volFlush s' V').1, (volFlush s' V').2.1, (volFlush s' V').2.2))) := Lib.hid ⟨fun n e => hT.out.trans (volFree_some (by rw [← hL, ← hP]; exact e)), fun e => hT.out.trans (volFree_none (by rw [← hL, ← hP]; exact e))⟩
   clear hP
   replace hL := Lib.hid hL
   go_wp2_with fail
   go_loopw [15] (fun q wr => ∃ k : Nat, q = .int .i64 k ∧ k ≤ L ∧ Hid (P = slotFrom V' d k (L - k)) ∧ Hid (VolX X F wr s' V') ∧ Hid (Kept X w wr))
    (fun q _ => L - (intOf q).toNat)
   case atStart => exact ⟨0, by go_num, by omega, hP0, hV, hK⟩
   case round =>
    clear hP0 hV hK hcl hvlt
    obtain ⟨k, rfl, hk, hP, hV, hK⟩ := hrel
    by_cases hkL : k < L
    ·have hlook := hV.out.used.look Try.setSlot (d, k) ⟨by unfold smallN; omega, by unfold smallN; omega⟩
     unfold slotK unitV at hlook
     dsimp only at hlook
     have c12 := hV.out.c 12
     simp only [volR] at c12
     have hvlt := hV.out.vlt
     have hstep2 : Hid (P = _) := Lib.hid (hP.out.trans (by rw [show L - k = (L - (k + 1)) + 1 by omega, slotFrom_step]))
     have hVa := Lib.hid (hV.out.alloc (.cells #[] 84))
     have hKa : Hid (Kept X w (wr.alloc (.cells #[] 84))) := Lib.hid (hK.out.trans (Kept.of_below (below_made' _ _) hV.out.lt))
     cases hu : V'.used.contains (d, k) with
     | true =>
      rw [hu] at hlook hstep2
      have hP4 : Hid (P = slotFrom V' d (k + 1) (L - (k + 1))) := Lib.hid (hstep2.out.trans (if_pos rfl))
      clear hstep2 hu
      go_wp2_with fail
      go_roundw
      case rel => exact ⟨k + 1, by go_num, by omega, hP4, hVa, hKa⟩
      case measure => simp [intOf]; omega
     | false =>
      rw [hu] at hlook hstep2
      have hP4 : P = some k := hstep2.out.trans (if_neg (by simp))
      have hfin : FreePost X F w T (.returned (.tuple #[.int .i64 (k : Int), .int .i64 0])) (wr.alloc (.cells #[] 84)) := by
       rw [hT.out.1 k hP4]
       exact ⟨rfl, hVa.out, hKa.out⟩
      replace hfin := Lib.hid hfin
      clear hstep2 hu hP4 hVa hKa
      go_wp2_with fail
      go_ret2
      exact hfin.out
    ·obtain rfl : k = L := by omega
     have hP4 : P = none := by
      rw [hP.out, Nat.sub_self]
      rfl
     have hT3 := hT.out.2 hP4
     have hfl := ra_flush hV.out (hroom.out (by first | rfl | trivial))
     have hus := Lib.hid fun h0 => (volFlush_used (s := s') (V := V') h0).1
     generalize volFlush s' V' = r at *
     obtain ⟨er, s3, V3⟩ := r
     dsimp only at hfl hT3 hus
     replace hT3 := Lib.hid hT3
     clear hP hP4 hV hT hroom
     go_wp2_with fail
     with_reducible refine hfl.mono ?_
     rintro e w3 ⟨rfl, hV3, hK3⟩
     dsimp only at hV3
     have hK03 := Lib.hid (hK.out.trans hK3)
     clear hfl hK
     by_cases e0 : er = 0
     ·subst e0
      have hu3 := Lib.hid (hus.out rfl)
      replace hV3 := Lib.hid hV3
      clear hus hK3 hL
      go_wp2_with fail
      go_roundw
      case rel => exact ⟨s3, V3, .inr ⟨rfl, hT3, hu3⟩, hV3, hK03, Lib.hid fun e => by cases e⟩
      case measure => decide
     ·have hb0 : (er != 0) = true := by rw [bne_iff_ne]; exact e0
      have hfin : FreePost X F w T (.returned (.tuple #[.int .i64 0, .int .i64 er])) w3 := by
       rw [hT3.out]
       exact ⟨rfl, hV3, hK03.out⟩
      replace hfin := Lib.hid hfin
      clear hV3 hK3 hK03 hT3 e0 hus
      go_wp2_with fail
      go_ret2
      exact hfin.out
  ·have hlook := hV.out.used.look Try.setSlot (d, 0) ⟨by unfold smallN; omega, by unfold smallN; omega⟩
   unfold slotK unitV at hlook
   dsimp only at hlook
   rw [hU.out] at hlook
   replace hlook : (Instr.lookup 89 (.map (some F.bu)) (.agg #[.int .i64 (d : Int), .int .i64 0]) true).run Try.prog wr = .ok (.tuple #[.agg #[], .bool false]) wr := hlook
   have c12 := hV.out.c 12
   simp only [volR] at c12
   have hVa := hV.out.alloc (.cells #[] 84)
   have hKa : Kept X w (wr.alloc (.cells #[] 84)) := hK.out.trans (Kept.of_below (below_made' _ _) hV.out.lt)
   have hfin : FreePost X F w T (.returned (.tuple #[.int .i64 ((0 : Nat) : Int), .int .i64 0])) (wr.alloc (.cells #[] 84)) := by
    rw [hT.out]
    exact ⟨rfl, hVa, hKa⟩
   replace hfin := Lib.hid hfin
   have hL0 : (0 < L) = True := by simp; omega
   clear hP hP0 hV hK hT hU hroom hVa hKa
   go_wp2_with fail
   go_loopw [15] (fun q wr' => q = .int .i64 0 ∧ wr' = wr) (fun q _ => 0)
   case atStart => exact ⟨rfl, rfl⟩
   case round =>
    obtain ⟨rfl, rfl⟩ := hrel
    go_wp2_with fail
    go_ret2
    exact hfin.out
end
end
section
open Go.RowKit
section
variable {X : Nat → Prop} {F : VolF} {w w' : World} {s : ShM} {V : VolM}
theorem clrIn_room {N : Nat} : ∀ (f : Nat) (s : ShM) (V : VolM) (i n : Nat), Room N s → Room (N + 4 * f) (clrIn s V i n f).2.1
 | 0, _, _, _, _, h => h
 | f + 1, s, V, i, n, h => by
  rw [clrIn_step]
  have h1 := room_vclr h V i n
  split
  ·split
   ·exact (clrIn_room f _ _ i (n + 1) h1).mono (by omega)
   ·exact h1.mono (by omega)
  ·exact (clrIn_room f _ _ i (n + 1) h).mono (by omega)
theorem clrFrom_room {N : Nat} : ∀ (f : Nat) (s : ShM) (V : VolM) (i : Nat), Room N s → Room (N + 4 * V.logs * f) (clrFrom s V i f).2.1
 | 0, _, _, _, h => h
 | f + 1, s, V, i, h => by
  rw [clrFrom_step]
  have h1 := clrIn_room V.logs s V i 0 h
  have hs : (clrIn s V i 0 V.logs).2.2.logs = V.logs := by unfold VolM.logs; rw [clrIn_sup]
  have e : 4 * V.logs * (f + 1) = 4 * V.logs * f + 4 * V.logs := by rw [Nat.mul_succ]
  split
  ·have h2 := clrFrom_room f _ (clrIn s V i 0 V.logs).2.2 (i + 1) h1
   rw [hs] at h2
   exact h2.mono (by omega)
  ·exact h1.mono (by omega)
theorem clrIn_len : ∀ (f : Nat) (s : ShM) (V : VolM) (i n : Nat), (clrIn s V i n f).2.2.devs.length = V.devs.length
 | 0, _, _, _, _ => rfl
 | f + 1, s, V, i, n => by
  rw [clrIn_step]
  split
  ·split
   ·exact (clrIn_len f _ _ i (n + 1)).trans (setDev_len V i _)
   ·exact setDev_len V i _
  ·exact clrIn_len f _ _ i (n + 1)
theorem syncFrom_len : ∀ (f : Nat) (s : ShM) (V : VolM) (i : Nat), (syncFrom s V i f).2.2.devs.length = V.devs.length
 | 0, _, _, _ => rfl
 | f + 1, s, V, i => by
  rw [syncFrom_step]
  split
  ·exact (syncFrom_len f _ _ (i + 1)).trans (setDev_len V i _)
  ·exact setDev_len V i _
theorem room_vflush {N : Nat} (h : Room N s) (V : VolM) (h8 : V.logs ≤ 8) (h17 : V.devs.length ≤ 17) : Room (N + 600) (volFlush s V).2.1 := by
 have h1 := volSync_room h V
 have hs1 : (volSync s V).2.2.sup = V.sup := syncFrom_sup _ _ _ _
 have hl1 : (volSync s V).2.2.devs.length = V.devs.length := syncFrom_len _ _ _ _
 unfold volFlush
 dsimp only
 split
 ·split
  ·exact h1.mono (by omega)
  ·have h2 := clrFrom_room (volSync s V).2.2.devs.length (volSync s V).2.1 (volSync s V).2.2 0 h1
   rw [show (volSync s V).2.2.logs = V.logs by unfold VolM.logs; rw [hs1]] at h2
   have hb : 4 * V.logs * (volSync s V).2.2.devs.length ≤ 32 * 17 := Nat.mul_le_mul (by omega) (by omega)
   split
   ·have h3 := volSync_room h2 (clrFrom (volSync s V).2.1 (volSync s V).2.2 0 (volSync s V).2.2.devs.length).2.2
    split
    ·exact h3.mono (by omega)
    ·exact h3.mono (by omega)
   ·exact h2.mono (by omega)
 ·exact h1.mono (by omega)
theorem room_vfree {N : Nat} (h : Room N s) (V : VolM) (d : Nat) (h8 : V.logs ≤ 8) (h17 : V.devs.length ≤ 17) : Room (N + 600) (volFree s V d).2.2.1 := by
 unfold volFree
 split
 ·exact h.mono (by omega)
 ·exact room_vflush h V h8 h17
theorem room_vlog {N : Nat} (h : Room N s) (V : VolM) (d n : Nat) (r : Rec) : Room (N + 8) (volLog s V d n r).2.1 := by
 unfold volLog logPut
 dsimp only
 split
 ·split
  ·have h1 := room_dwrite h (V.dev d) (2 + 2 * (n : Int) + 1) r.part
   split
   ·exact (room_dwrite h1 _ _ _).mono (by omega)
   ·exact h1.mono (by omega)
  ·exact h.mono (by omega)
 ·exact h.mono (by omega)
theorem fits_log (s : ShM) (D : DevM) (k : Nat) (slot : Int) (r : Rec) : Fits s D (logPut s D k slot r) := by
 unfold logPut
 split
 ·split
  ·have h1 := fits_dwrite s D (2 + 2 * slot + 1) r.part
   dsimp only
   split
   ·exact h1.after (fits_dwrite _ _ _ _)
   ·exact h1
  ·exact Fits.refl _ _ _
 ·exact Fits.refl _ _ _
theorem ra_log (h : VolX X F w s V) (hroom : Room 999999999980 s) {i : Nat} (hi : i < V.devs.length) (n : Nat) (r : Rec) (A : Option Addr) (L c : Nat) (hL : r.part.length = L) (hr : Rd w A r.part) (hA : ∀ ad, A = some ad → X ad.block) :
  Calls Try.prog 82 #[.pointer (some ⟨F.l i, 0, none⟩), .int .i64 (n : Int), .agg #[.int .i64 r.stripe, .int .i64 r.place, .slice A L c]] w (PutPost_ X F w (volLog s V i n r)) := by
 have hlin : F.l i ∈ F.own := F.l_in (by rw [h.llen]; exact hi)
 refine (lg_put (h.toDev hi) (h.log i hi) (.inr ⟨hlin, fun e => (h.a_other hi).2.2.2.2.2 i hi e.symm⟩) h.slots8 hroom n r A L c hL hr (fun ad e _ => .inl (hA ad e))).mono ?_
 rintro e w' ⟨rfl, hD, hK⟩
 have hf := fits_log s (V.dev i) V.logs n r
 obtain ⟨h1, h2⟩ := h.wrote hi hD hK hf.n hf.z hf.d hf.b
 exact ⟨rfl, h1, h2⟩
theorem use_eq (V : VolM) (k : Nat × Nat) : { V with used := insL V.used k } = V.use k := rfl
theorem opn_eq (V : VolM) (st : Nat) : { V with opens := insL V.opens st } = V.opn st := rfl
theorem volPart_len {at_ : SpotM} {p : Nat} {l : List Nat} (hok : s.Ok) (h : (volPart s V at_ p l).2.1 = 0) : (volPart s V at_ p l).1.length = 128 := by
 have hok' : (volTog s V at_.stripe l).2.2.Ok := by
  have key : ∀ (l : List Nat) (s : ShM) (sum : Bytes), s.Ok → (togL s V at_.stripe sum l).2.2.Ok := by
   intro l
   induction l with
   | nil => intro s _ h; exact h
   | cons m l ih =>
    intro s sum hok
    have hok' : (volGet s V m at_.stripe).2.2.Ok := by
     have := devRead_disks s (V.dev (V.diskOf m at_.stripe)) ((V.base + at_.stripe : Nat) : Int)
     unfold volGet
     generalize (devRead s (V.dev (V.diskOf m at_.stripe)) ((V.base + at_.stripe : Nat) : Int)).2.2 = s' at *
     obtain ⟨l', st', ds', se', co'⟩ := s'
     obtain ⟨h1, h2⟩ := this
     dsimp only at h1 h2
     subst h1 h2
     exact ⟨hok.disks1, hok.disks17, hok.sectors1, hok.sectors4096, hok.sure, hok.sec, hok.waits⟩
    rw [togL_step]
    split
    ·exact hok'
    ·split
     ·exact hok'
     ·exact ih _ _ hok'
  exact key l s zeroSec hok
 unfold volPart at h ⊢
 dsimp only at h ⊢
 split
 ·rename_i h1
  rw [if_pos h1] at h
  exact volTog_len hok' _ _ h
 ·rename_i h1
  rw [if_neg h1] at h
  exact volTog_len hok _ _ h
theorem clrFrom_len : ∀ (f : Nat) (s : ShM) (V : VolM) (i : Nat), (clrFrom s V i f).2.2.devs.length = V.devs.length
 | 0, _, _, _ => rfl
 | f + 1, s, V, i => by
  rw [clrFrom_step]
  split
  ·exact (clrFrom_len f _ _ (i + 1)).trans (clrIn_len _ _ _ _ _)
  ·exact clrIn_len _ _ _ _ _
theorem volFlush_len : (volFlush s V).2.2.devs.length = V.devs.length := by
 have h1 : (volSync s V).2.2.devs.length = V.devs.length := syncFrom_len _ _ _ _
 unfold volFlush
 dsimp only
 split
 ·split
  ·exact h1
  ·have h2 := clrFrom_len (volSync s V).2.2.devs.length (volSync s V).2.1 (volSync s V).2.2 0
   split
   ·have h3 := syncFrom_len (clrFrom (volSync s V).2.1 (volSync s V).2.2 0 (volSync s V).2.2.devs.length).2.2.devs.length (clrFrom (volSync s V).2.1 (volSync s V).2.2 0 (volSync s V).2.2.devs.length).2.1 (clrFrom (volSync s V).2.1 (volSync s V).2.2 0 (volSync s V).2.2.devs.length).2.2 0
    split
    ·exact h3.trans (h2.trans h1)
    ·exact h3.trans (h2.trans h1)
   ·exact h2.trans h1
 ·exact h1
theorem slotFrom_lt (V : VolM) (d : Nat) : ∀ (f n k : Nat), slotFrom V d n f = some k → k < n + f
 | 0, _, _, h => by cases h
 | f + 1, n, k, h => by
  rw [slotFrom_step] at h
  split at h
  ·have := slotFrom_lt V d f (n + 1) k h
   omega
  ·injection h with h
   omega
theorem volFree_facts (V : VolM) (d : Nat) (h1 : 1 ≤ V.logs) : (volFree s V d).2.2.2.sup = V.sup ∧ (volFree s V d).2.2.2.devs.length = V.devs.length ∧ (volFree s V d).1 < V.logs := by
 cases h : slotFrom V d 0 V.logs with
 | some n =>
  rw [volFree_some h]
  have := slotFrom_lt V d _ _ _ h
  exact ⟨rfl, rfl, by simpa using this⟩
 | none =>
  rw [volFree_none h]
  exact ⟨volFlush_sup, volFlush_len, h1⟩
theorem room_part {N : Nat} (h : Room N s) (V : VolM) (at_ : SpotM) (p : Nat) (l : List Nat) : Room N (volPart s V at_ p l).2.2 := by
 have h1 := room_tog h V at_.stripe l
 unfold volPart
 dsimp only
 split
 ·exact room_tog h1 V _ _
 ·exact h1
end
end
section
open Go.RowKit
section
variable {X : Nat → Prop} {F : VolF} {w w' : World} {s : ShM} {V : VolM}
theorem VolX.join (h : VolX X F w s V) (hb : Below w.heap.size w w') {A : Option Addr} (hA : ∀ ad, A = some ad → w.heap.size ≤ ad.block ∧ ad.block < w'.heap.size) : VolX (fun b => X b ∨ ∃ ad, A = some ad ∧ ad.block = b) F w' s V :=
 h.more hb fun b hx => by
  rcases hx with hx | ⟨ad, e, rfl⟩
  ·exact ⟨Nat.lt_of_lt_of_le (h.lt b hx) hb.size, .inl hx⟩
  ·exact ⟨(hA ad e).2, .inr (hA ad e).1⟩
theorem Own.within {E base : Nat} {A : Option Addr} {n c : Nat} {bs : Bytes} (h : Own w E base (.slice A n c) bs) : ∀ ad, A = some ad → base ≤ ad.block ∧ ad.block < w.heap.size := by
 intro ad e
 obtain ⟨A', c', hv, _, h2⟩ := h.form
 injection hv with e1
 subst e1
 obtain ⟨x, rfl, h4, h5⟩ := h2 ad e
 exact ⟨h4, h5⟩
set_option maxHeartbeats 16000000 in
theorem ra_update (h : VolX X F w s V) (hroom : Room 999999980000 s) (st mb pl p : Nat) (hmb : mb < V.m) (hp : p < V.m) (hst : st ≤ 1000000) (hpl : pl ≤ 1000000) (ms : List Nat) (hms : ∀ m ∈ ms, m < V.m) (B : Option Addr) (n cb : Nat) (hB : RdV w B (ms.map natK)) (hn : ms.length = n) (hn1 : n ≤ 100) (hX : ∀ ad, B = some ad → X ad.block)
  (A : Option Addr) (c : Nat) (bs : Bytes) (hr : Rd w A bs) (hL : bs.length = 128) (hA : ∀ ad, A = some ad → X ad.block) :
  Calls Try.prog 42 #[.pointer (some ⟨F.v, 0, none⟩), .agg #[.int .i64 (st : Int), .int .i64 (mb : Int), .int .i64 (pl : Int)], .int .i64 (p : Int), .slice B n cb, .slice A 128 c] w (PutPost_ X F w (volUpdate s V ⟨st, mb, pl⟩ p ms bs)) := by
 obtain ⟨W, hW⟩ : ∃ W, W = w.alloc (.cells #[.int .i64 (st : Int), .int .i64 (mb : Int), .int .i64 (pl : Int)] 80) := ⟨_, rfl⟩
 have hbW := below_made' w (.cells #[.int .i64 (st : Int), .int .i64 (mb : Int), .int .i64 (pl : Int)] 80)
 rw [← hW] at hbW
 have hbox : W.heap[w.heap.size]? = some (.cells #[.int .i64 (st : Int), .int .i64 (mb : Int), .int .i64 (pl : Int)] 80) := by rw [hW]; exact heap_alloc_new _ _
 have hVW : VolX (fun b => X b ∨ b = w.heap.size) F W s V := h.more hbW fun b hx => by
  rcases hx with hx | rfl
  ·exact ⟨Nat.lt_of_lt_of_le (h.lt b hx) hbW.size, .inl hx⟩
  ·exact ⟨lt_of_row hbox, .inr (Nat.le_refl _)⟩
 have hKW : Kept X w W := Kept.of_below hbW h.lt
 have hm17 : V.m ≤ 16 := h.ok.m16N
 have h8 := h.slots8
 have hl1 : 1 ≤ V.logs := by
  have h1 := h.ok.l1
  have h2 := h.ok.lN
  omega
 have hl17 := h.ok.len17
 have hdk := h.ok.diskN hp st
 have htg := ra_together hVW (hroom.mono (by omega)) st hst ms hms B n cb (hB.below hbW) hn hn1 (fun ad e => .inl (hX ad e))
 have hroom1 := room_tog hroom V st ms
 obtain ⟨R, hR⟩ : ∃ R, R = volPart s V ⟨st, mb, pl⟩ p ms := ⟨_, rfl⟩
 have hR1 : R = if (volTog s V st ms).2.1 = 10 then volTog (volTog s V st ms).2.2 V st [p, mb] else volTog s V st ms := hR
 have hRl := Lib.hid fun h0 => volPart_len (V := V) (at_ := ⟨st, mb, pl⟩) (p := p) (l := ms) h.sh.ok h0
 have hRr := room_part hroom V ⟨st, mb, pl⟩ p ms
 obtain ⟨T, hT⟩ : ∃ T, T = volUpdate s V ⟨st, mb, pl⟩ p ms bs := ⟨_, rfl⟩
 rw [← hT]
 have hT1 : Hid (T = _) := Lib.hid (hT.trans (by unfold volUpdate; rfl))
 dsimp only at hT1
 rw [← hR] at hT1 hRl hRr
 have hm2 : ∀ m ∈ [p, mb], m < V.m := by
  intro m hm
  simp only [List.mem_cons, List.not_mem_nil, or_false] at hm
  rcases hm with rfl | rfl
  ·exact hp
  ·exact hmb
 rw [hW] at htg
 generalize volTog s V st ms = r at *
 obtain ⟨rb, er, s1⟩ := r
 dsimp only at htg hR1 hroom1
 replace h := Lib.hid h
 replace hr := Lib.hid hr
 replace hA := Lib.hid hA
 replace hL := Lib.hid hL
 replace hRr := Lib.hid hRr
 replace hR1 := Lib.hid hR1
 replace hroom1 := Lib.hid hroom1
 replace hbox := Lib.hid hbox
 replace hKW := Lib.hid hKW
 replace hdk := Lib.hid hdk
 replace hm2 := Lib.hid hm2
 clear hT hR hB hms hX hroom hn hbW hVW
 go_enter Try.func42, Try.ntmps42
 go_wp2_with fail
 with_reducible refine htg.mono ?_
 rintro e w1 ⟨A1, c1, rfl, hRd1, hc1, hA1, hV1, hK1⟩
 dsimp only at hRd1 hc1 hV1
 rw [← hW] at hK1 hA1
 have hbox1 := (hK1.block w.heap.size (.inr rfl)).trans hbox.out
 have hKw1 : Kept X w w1 := hKW.out.trans (hK1.mono fun b hb => .inl hb)
 obtain ⟨d0, d1, d2, df⟩ := row3_cells w1 _ _ _ _ _ hbox1
 have hblt := lt_of_row hbox1
 have hWs := hKW.out.size
 clear htg hW
 go_upto_if 29 with (fail)
 go_cut [11, 12] (fun v q wc => ∃ A1 c1, v = .slice A1 R.1.length c1 ∧ q = .int .i64 R.2.1 ∧ Hid (Rd wc A1 R.1) ∧ Hid (wc.heap[w.heap.size]? = some (.cells #[.int .i64 (st : Int), .int .i64 (mb : Int), .int .i64 (pl : Int)] 80)) ∧ Hid (VolX (fun b => (X b ∨ b = w.heap.size) ∨ ∃ ad, A1 = some ad ∧ ad.block = b) F wc R.2.2 V) ∧ Hid (Kept X w wc))
 case first =>
  by_cases h10 : er = 10
  ·subst h10
   replace hR1 := Lib.hid (hR1.out.trans (if_pos rfl))
   have hV1' : VolX (fun b => X b ∨ b = w.heap.size) F w1 s1 V := hV1.mono fun b hb => .inl hb
   obtain ⟨W2, hW2⟩ : ∃ W2, W2 = w1.alloc (.cells #[.int .i64 (p : Int), .int .i64 (mb : Int)] 3) := ⟨_, rfl⟩
   have hb2 := below_made' w1 (.cells #[.int .i64 (p : Int), .int .i64 (mb : Int)] 3)
   have hr2 : RdV W2 (some ⟨w1.heap.size, 0, none⟩) ([p, mb].map natK) := by rw [hW2]; exact RdV.lit w1 3 [.int .i64 (p : Int), .int .i64 (mb : Int)] (by simp)
   rw [← hW2] at hb2
   have hw2s : W2.heap.size = w1.heap.size + 1 := by rw [hW2]; simp
   have hV2 := hV1'.join (w' := W2) (A := some ⟨w1.heap.size, 0, none⟩) hb2 (fun ad e => by injection e with e; subst e; exact ⟨Nat.le_refl _, by dsimp only; omega⟩)
   have htg2 := ra_together hV2 (hroom1.out.mono (by omega)) st hst [p, mb] hm2.out _ 2 2 hr2 rfl (by omega) (fun ad e => .inr ⟨ad, e, rfl⟩)
   rw [hW2] at htg2
   rw [← hR1.out] at htg2
   have hK2 : Kept (fun b => X b ∨ b = w.heap.size) w1 W2 := Kept.of_below hb2 hV1'.lt
   clear hRd1 hc1 hA1 hV1 hK1 hV1' hb2 hr2 hw2s hV2 hKW
   replace hbox1 := Lib.hid hbox1
   replace hKw1 := Lib.hid hKw1
   replace hK2 := Lib.hid hK2
   go_wp2_with fail
   with_reducible refine htg2.mono ?_
   rintro e w3 ⟨A3, c3, rfl, hRd3, hc3, hA3, hV3, hK3⟩
   dsimp only at hRd3 hV3
   rw [← hW2] at hK3
   have hK13 : Kept (fun b => X b ∨ b = w.heap.size) w1 w3 := hK2.out.trans (hK3.mono fun b hb => .inl hb)
   have hbox3 := (hK13.block w.heap.size (.inr rfl)).trans hbox1.out
   have hrel : Hid (Rd w3 A3 R.1) ∧ Hid (w3.heap[w.heap.size]? = some (.cells #[.int .i64 (st : Int), .int .i64 (mb : Int), .int .i64 (pl : Int)] 80)) ∧ Hid (VolX (fun b => (X b ∨ b = w.heap.size) ∨ ∃ ad, A3 = some ad ∧ ad.block = b) F w3 R.2.2 V) ∧ Hid (Kept X w w3) :=
    ⟨Lib.hid hRd3, Lib.hid hbox3, Lib.hid (hV3.mono fun b hb => hb.imp .inl id), Lib.hid (hKw1.out.trans (hK13.mono fun b hb => .inl hb))⟩
   obtain ⟨r1, r2, r3, r4⟩ := hrel
   clear htg2 hRd3 hc3 hA3 hV3 hK3 hK13 hbox3 hW2
   go_wp2_with fail
   go_meet
   exact ⟨A3, c3, rfl, rfl, r1, r2, r3, r4⟩
  ·have hb10 : (er == 10) = false := by rw [beq_eq_false_iff_ne]; exact h10
   replace hR1 := hR1.out.trans (if_neg h10)
   subst hR1
   replace hRd1 := Lib.hid hRd1
   replace hbox1 := Lib.hid hbox1
   replace hV1 := Lib.hid hV1
   replace hKw1 := Lib.hid hKw1
   clear hc1 hA1 hK1 h10
   go_wp2_with fail
   go_meet
   exact ⟨A1, c1, rfl, rfl, hRd1, hbox1, hV1, hKw1⟩
 case rest =>
  clear hRd1 hc1 hA1 hV1 hK1 hbox1 hKw1 hKW hR1 hroom1 d0 d1 d2 df hblt hbox hWs
  obtain ⟨A2, c2, rfl, rfl, hRd, hbox, hV, hK⟩ := hcut
  obtain ⟨part, ep, s2⟩ := R
  dsimp only at hT1 hRl hRr hRd hV ⊢
  obtain ⟨d0, d1, d2, df⟩ := row3_cells wc _ _ _ _ _ hbox.out
  have hblt := lt_of_row hbox.out
  by_cases e0 : ep = 0
  ·subst e0
   replace hT1 := Lib.hid (hT1.out.trans (if_pos rfl))
   have hpl1 := hRl.out rfl
   rw [hpl1]
   have hdi := ra_disk hV.out p st
   have hfr := ra_free hV.out (hRr.out.mono (by omega)) (V.diskOf p st) (by have := hdk.out; omega)
   have hrm3 := Lib.hid (room_vfree hRr.out V (V.diskOf p st) h8 hl17)
   have hfsup := volFree_facts (s := s2) V (V.diskOf p st) hl1
   generalize V.diskOf p st = on at *
   generalize volFree s2 V on = f at *
   obtain ⟨fn, ef, s3, V3⟩ := f
   dsimp only at hfr hT1 hrm3 hfsup
   replace hpl1 := Lib.hid hpl1
   clear hRl
   go_wp2_with fail
   with_reducible refine hdi.mono ?_
   rintro e wx ⟨rfl, rfl⟩
   go_wp2_with fail
   with_reducible refine hfr.mono ?_
   rintro e w3 ⟨rfl, hV3, hK3⟩
   dsimp only at hV3
   have hK03 : Kept X w w3 := hK.out.trans (hK3.mono fun b hb => .inl (.inl hb))
   have hbox3 := (hK3.block w.heap.size (.inl (.inr rfl))).trans hbox.out
   have hRd3 : Rd w3 A2 part := hK3.rd hRd.out fun ad e => .inr ⟨ad, e, rfl⟩
   obtain ⟨hsup3, hlen3, hfn⟩ := hfsup
   have hi3 : on < V3.devs.length := by rw [hlen3]; exact hdk.out
   clear hdi hfr d0 d1 d2 df hblt hbox hRd hK hV hK3 hRr
   by_cases e1 : ef = 0
   ·subst e1
    replace hT1 := Lib.hid (hT1.out.trans (if_pos rfl))
    have hlg := ra_log hV3.drew (hrm3.out.mono (by omega)) hi3 fn ⟨st, pl, part⟩ A2 128 c2 hpl1.out hRd3 (fun ad e => .inr ⟨ad, e, rfl⟩)
    have hrm4 := Lib.hid (room_vlog hrm3.out V3 on fn ⟨st, pl, part⟩)
    have hi4 : on < (volLog s3 V3 on fn ⟨st, pl, part⟩).2.2.devs.length := by
     show on < (V3.setDev _ _).devs.length
     rw [setDev_len]
     exact hi3
    have hs4 : (volLog s3 V3 on fn ⟨st, pl, part⟩).2.2.sup = V.sup := hsup3
    have hl4 : (volLog s3 V3 on fn ⟨st, pl, part⟩).2.2.devs.length = V3.devs.length := setDev_len V3 _ _
    unfold volNote at hT1
    generalize volLog s3 V3 on fn ⟨st, pl, part⟩ = q at *
    obtain ⟨eq, s4, V4⟩ := q
    dsimp only at hlg hT1 hrm4 hi4 hl4 hs4
    replace hs4 := Lib.hid hs4
    have c10 := hV3.c 10
    simp only [volR] at c10
    have cl := hV3.cLog hi3
    unfold ptrV at cl
    obtain ⟨d0, d1, d2, df⟩ := row3_cells w3 _ _ _ _ _ hbox3
    have hblt := lt_of_row hbox3
    have hvlt := hV3.vlt
    have hon : on ≤ 17 := by have := hdk.out; omega
    have hS4 : ∀ w4, Kept (fun b => (X b ∨ b = w.heap.size) ∨ ∃ ad, A2 = some ad ∧ ad.block = b) w3.drew w4 → VolX (fun b => (X b ∨ b = w.heap.size) ∨ ∃ ad, A2 = some ad ∧ ad.block = b) F w4 s4 V4 → (Kept X w w4 ∧ w4.heap[w.heap.size]? = some (.cells #[.int .i64 (st : Int), .int .i64 (mb : Int), .int .i64 (pl : Int)] 80) ∧ Rd w4 A2 part) ∧ w4.cell? ⟨F.v, 10, none⟩ = some (.slice (some ⟨F.lb, 0, none⟩) V3.devs.length F.lc) ∧ w4.cell? ⟨F.lb, on, none⟩ = some (.pointer (some ⟨F.l on, 0, none⟩)) ∧ w4.cell? ⟨w.heap.size, 0, none⟩ = some (.int .i64 (st : Int)) ∧ w4.cell? ⟨w.heap.size, 2, none⟩ = some (.int .i64 (pl : Int)) := fun w4 hK hV4 => by
     have hK' : Kept (fun b => (X b ∨ b = w.heap.size) ∨ ∃ ad, A2 = some ad ∧ ad.block = b) w3 w4 := (Kept.drew _ w3).trans hK
     have hb4 := (hK'.block w.heap.size (.inl (.inr rfl))).trans hbox3
     obtain ⟨x0, _, x2, _⟩ := row3_cells w4 _ _ _ _ _ hb4
     refine ⟨⟨hK03.trans (hK'.mono fun b hb => .inl (.inl hb)), hb4, hK'.rd hRd3 fun ad e => .inr ⟨ad, e, rfl⟩⟩, ?_, hV4.cLog hi4, x0, x2⟩
     have := hV4.c 10
     simp only [volR] at this
     rw [hl4] at this
     exact this
    replace hS4 := Lib.hid hS4
    replace hi4 := Lib.hid hi4
    clear hV3 hRd3 hbox3 hrm3 hsup3 hlen3 hK03 hl4
    generalize F.l on = li at *
    go_wp2_with fail
    refine wp_region_held_drew (S := (fun W => W.cell? ⟨F.v, 10, none⟩ = some (.slice (some ⟨F.lb, 0, none⟩) V3.devs.length F.lc) ∧ W.cell? ⟨F.lb, on, none⟩ = some (.pointer (some ⟨li, 0, none⟩)) ∧ W.cell? ⟨w.heap.size, 0, none⟩ = some (.int .i64 (st : Int)) ∧ W.cell? ⟨w.heap.size, 2, none⟩ = some (.int .i64 (pl : Int)))) (by kernel_rfl) ?_ (fun hHeld => ?_)
    ·(try dsimp only)
     exact ⟨c10, cl, d0, d2⟩
    refine tkA 0 ?_
    refine tkA 1 ?_
    refine tkA 2 ?_
    refine tkA 3 ?_
    refine tkA 4 ?_
    refine tkA 5 ?_
    refine tkA 6 ?_
    refine tkA 7 ?_
    refine tkA 8 ?_
    refine tkA 9 ?_
    refine tkA 10 ?_
    refine tkA 11 ?_
    refine tkA 12 ?_
    refine tkA 13 ?_
    refine rkA 14 (fun K hK => ?_)
    go_simp
    with_reducible refine hlg.mono ?_
    rintro e w4 ⟨rfl, hV4, hK4⟩
    obtain ⟨⟨hK04, hbox4, hRd4⟩, hS9⟩ := hS4.out w4 hK4 hV4
    clear hlg hS4 hK4
    (try go_wp2_with fail)
    refine hK.out _ _ ?_ (fun hHeld2 => ?_)
    ·(try dsimp only)
     exact hS9
    clear hK K
    replace hHeld := hHeld2
    clear hHeld2
    (try simp only [pA, pN, pB, pC, pD])
    refine tkA 15 ?_
    refine wpAnyH_done (by kernel_rfl) ?_ _
    clear hHeld
    replace hRd4 := Lib.hid hRd4
    replace hK04 := Lib.hid hK04
    replace hbox4 := Lib.hid hbox4
    by_cases e2 : eq = 0
    ·subst e2
     replace hT1 := Lib.hid (hT1.out.trans (if_pos rfl))
     obtain ⟨o, hmu, hM⟩ := hV4.used.put Try.setSlot (on, fn) ⟨by unfold smallN; omega, by unfold smallN; omega⟩
     unfold slotK unitV at hmu
     dsimp only at hmu
     have c12 := hV4.c 12
     simp only [volR] at c12
     have hvlt4 := hV4.vlt
     obtain ⟨hV5, hK5⟩ := hV4.setUsed hM
     rw [use_eq] at hV5
     have hbox5 : (setBlk w4 F.bu o).heap[w.heap.size]? = _ := (hK5.block w.heap.size (.inl (.inr rfl))).trans hbox4.out
     have hRd5 : Rd (setBlk w4 F.bu o) A2 part := hK5.rd hRd4.out fun ad e => .inr ⟨ad, e, rfl⟩
     have hK05 : Kept X w (setBlk w4 F.bu o) := hK04.out.trans (hK5.mono fun b hb => .inl (.inl hb))
     obtain ⟨w5, hw5⟩ : ∃ w5, w5 = setBlk w4 F.bu o := ⟨_, rfl⟩
     rw [← hw5] at hmu hV5 hbox5 hRd5 hK05
     have hi5 : on < (V4.use (on, fn)).devs.length := hi4.out
     have c9 := hV5.c 9
     simp only [volR] at c9
     have cd5 := hV5.cDev hi5
     unfold ptrV at cd5
     have hvlt5 := hV5.vlt
     have hfl := ra_dflush hV5 hi5
     have hrm6 := Lib.hid (room_vfl hrm4.out (V4.use (on, fn)) on)
     have hs6 : (volFl s4 (V4.use (on, fn)) on).2.2.sup = V.sup := hs4.out
     generalize V4.use (on, fn) = V5 at *
     generalize volFl s4 V5 on = g at *
     obtain ⟨eg, s6, V6⟩ := g
     dsimp only at hfl hT1 hrm6 hs6
     replace hs6 := Lib.hid hs6
     replace hRd5 := Lib.hid hRd5
     replace hK05 := Lib.hid hK05
     replace hbox5 := Lib.hid hbox5
     clear hV4 hRd4 hK04 hbox4 hrm4 hM hV5 hK5 hw5 hi4
     generalize F.a on = ai at *
     go_wp2_with fail
     with_reducible refine hfl.mono ?_
     rintro e w6 ⟨rfl, hV6, hK6⟩
     dsimp only at hV6
     have hbox6 := (hK6.block w.heap.size (.inl (.inr rfl))).trans hbox5.out
     have hRd6 : Rd w6 A2 part := hK6.rd hRd5.out fun ad e => .inr ⟨ad, e, rfl⟩
     have hK06 : Kept X w w6 := hK05.out.trans (hK6.mono fun b hb => .inl (.inl hb))
     clear hfl c9 cd5 hRd5 hK05 hbox5 c12 hmu hvlt4 hvlt5
     by_cases e3 : eg = 0
     ·subst e3
      replace hT1 := Lib.hid (hT1.out.trans (if_pos rfl))
      obtain ⟨o2, hmu, hM⟩ := hV6.drew.opens.put Try.setInt st (by unfold smallN; omega)
      unfold natK unitV at hmu
      have c11 : w6.drew.cell? ⟨F.v, 11, none⟩ = _ := hV6.drew.c 11
      simp only [volR] at c11
      obtain ⟨d0, d1, d2, df⟩ := row3_cells w6 _ _ _ _ _ hbox6
      have hblt := lt_of_row hbox6
      have hvlt6 := hV6.vlt
      obtain ⟨hV7, hK7⟩ := hV6.drew.setOpens hM
      rw [opn_eq] at hV7
      replace hK7 := (Kept.drew _ w6).trans hK7
      have hbox7 : (setBlk w6.drew F.bo o2).heap[w.heap.size]? = _ := (hK7.block w.heap.size (.inl (.inr rfl))).trans hbox6
      have hRd7 : Rd (setBlk w6.drew F.bo o2) A2 part := hK7.rd hRd6 fun ad e => .inr ⟨ad, e, rfl⟩
      have hK07 : Kept X w (setBlk w6.drew F.bo o2) := hK06.trans (hK7.mono fun b hb => .inl (.inl hb))
      obtain ⟨w7, hw7⟩ : ∃ w7, w7 = setBlk w6.drew F.bo o2 := ⟨_, rfl⟩
      rw [← hw7] at hmu hV7 hbox7 hRd7 hK07
      obtain ⟨x0, x1, x2, xf⟩ := row3_cells w7 _ _ _ _ _ hbox7
      have hblt7 := lt_of_row hbox7
      have hm7 : (V6.opn st).m = V.m := by unfold VolM.m VolM.opn; rw [hs6.out]
      have hbs7 : Rd w7 A bs := hK07.rd hr.out hA.out
      have hpt := ra_put hV7 (hrm6.out.mono (by omega)) mb st (by rw [hm7]; exact hmb) hst A 128 c bs hbs7 hL.out (fun ad e => .inl (.inl (hA.out ad e)))
      have hrm8 := Lib.hid (room_dwrite hrm6.out ((V6.opn st).dev ((V6.opn st).diskOf mb st)) (((V6.opn st).base + st : Nat) : Int) bs)
      have hs8 : (volPut s6 (V6.opn st) mb st bs).2.2.m = V.m := hm7
      unfold volBoth at hT1
      replace hrm8 : Hid (Room (999999980000 + 600 + 8 + 4) (volPut s6 (V6.opn st) mb st bs).2.1) := hrm8
      generalize volPut s6 (V6.opn st) mb st bs = u at *
      obtain ⟨eu, s8, V8⟩ := u
      dsimp only at hpt hT1 hrm8 hs8
      replace hRd7 := Lib.hid hRd7
      replace hK07 := Lib.hid hK07
      replace hbox7 := Lib.hid hbox7
      replace hs8 := Lib.hid hs8
      clear hV6 hRd6 hbox6 hK06 hK6 hM hV7 hK7 hw7 hrm6 hs6 hm7 hbs7
      go_wp2_with fail
      go_still_tail 7, (by kernel_rfl)
      change wpList _ _ _ _ _ (World.drew _)
      go_wp2_with fail
      with_reducible refine hpt.mono ?_
      rintro e w8 ⟨rfl, hV8, hK8⟩
      dsimp only at hV8
      have hbox8 := (hK8.block w.heap.size (.inl (.inr rfl))).trans hbox7.out
      have hRd8 : Rd w8 A2 part := hK8.rd hRd7.out fun ad e => .inr ⟨ad, e, rfl⟩
      have hK08 : Kept X w w8 := hK07.out.trans (hK8.mono fun b hb => .inl (.inl hb))
      clear hpt x0 x1 x2 xf d0 d1 d2 df c11 hmu hblt hblt7 hvlt6 hK07 hRd7 hbox7
      by_cases e4 : eu = 0
      ·subst e4
       replace hT1 := Lib.hid (hT1.out.trans (if_pos rfl))
       obtain ⟨d0, d1, d2, df⟩ := row3_cells w8 _ _ _ _ _ hbox8
       have hblt := lt_of_row hbox8
       have hbs8 : Rd w8 A bs := hK08.rd hr.out hA.out
       have hx := xor_ok A2 A 128 128 c2 c part bs w8 hRd8 hbs8 hpl1.out hL.out rfl (by omega)
       have hxl := Lib.hid (xorB_len hpl1.out hL.out)
       replace hV8 := Lib.hid hV8
       replace hK08 := Lib.hid hK08
       replace hbox8 := Lib.hid hbox8
       clear hRd8 hbs8 hK8
       go_wp2_with fail
       with_reducible refine hx.mono ?_
       rintro e w9 ⟨A9, c9, rfl, ho9, hb9⟩
       have hV9 := hV8.out.join hb9 ho9.within
       have hK9 := Lib.hid (hK08.out.trans (Kept.of_below hb9 fun b hb => hV8.out.lt b (.inl (.inl hb))))
       have hbox9 := hrow_keep hbox8.out hb9
       obtain ⟨x0, x1, x2, xf⟩ := row3_cells w9 _ _ _ _ _ hbox9
       have hblt9 := lt_of_row hbox9
       have hpt := ra_put hV9 (hrm8.out.mono (by omega)) p st (by rw [hs8.out]; exact hp) hst A9 128 c9 (xorB part bs) ho9.rd hxl.out (fun ad e => .inr ⟨ad, e, rfl⟩)
       generalize volPut s8 V8 p st (xorB part bs) = y at *
       obtain ⟨ey, s9, V9⟩ := y
       clear hx hV8 hK08 hbox8 hb9 ho9 hV9 hbox9 hblt d0 d1 d2 df
       go_wp2_with fail
       with_reducible refine hpt.mono ?_
       rintro e wz ⟨rfl, hVz, hKz⟩
       dsimp only at hVz
       have hfin : PutPost_ X F w T (.returned (.int .i64 ey)) wz := by
        rw [hT1.out]
        exact ⟨rfl, hVz.mono fun b hb => .inl (.inl (.inl hb)), hK9.out.trans (hKz.mono fun b hb => .inl (.inl (.inl hb)))⟩
       replace hfin := Lib.hid hfin
       clear hVz hKz hK9 hT1 hpt x0 x1 x2 xf hblt9
       go_wp2_with fail
       go_ret
       exact hfin.out
      ·have hb0 : (eu != 0) = true := by rw [bne_iff_ne]; exact e4
       have hT2 : T = (eu, s8, V8) := hT1.out.trans (if_neg e4)
       have hfin : PutPost_ X F w T (.returned (.int .i64 eu)) w8 := by
        rw [hT2]
        exact ⟨rfl, hV8.mono fun b hb => .inl (.inl hb), hK08⟩
       replace hfin := Lib.hid hfin
       clear hT1 hT2 hV8 hbox8 hRd8 e4 hK08
       go_wp2_with fail
       go_ret
       exact hfin.out
     ·have hb0 : (eg != 0) = true := by rw [bne_iff_ne]; exact e3
      have hT2 : T = (eg, s6, V6) := hT1.out.trans (if_neg e3)
      have hfin : PutPost_ X F w T (.returned (.int .i64 eg)) w6 := by
       rw [hT2]
       exact ⟨rfl, hV6.mono fun b hb => .inl (.inl hb), hK06⟩
      replace hfin := Lib.hid hfin
      clear hT1 hT2 hV6 hbox6 hRd6 e3 hK06
      go_wp2_with fail
      go_ret
      exact hfin.out
    ·have hb0 : (eq != 0) = true := by rw [bne_iff_ne]; exact e2
     have hT2 : T = (eq, s4, V4) := hT1.out.trans (if_neg e2)
     have hfin : PutPost_ X F w T (.returned (.int .i64 eq)) w4 := by
      rw [hT2]
      exact ⟨rfl, hV4.mono fun b hb => .inl (.inl hb), hK04.out⟩
     replace hfin := Lib.hid hfin
     clear hT1 hT2 hV4 hbox4 hRd4 e2 hK04
     go_wp2_with fail
     go_ret
     exact hfin.out
   ·have hb0 : (ef != 0) = true := by rw [bne_iff_ne]; exact e1
    have hT2 : T = (ef, s3, V3) := hT1.out.trans (if_neg e1)
    have hfin : PutPost_ X F w T (.returned (.int .i64 ef)) w3 := by
     rw [hT2]
     exact ⟨rfl, hV3.mono fun b hb => .inl (.inl hb), hK03⟩
    replace hfin := Lib.hid hfin
    clear hT1 hT2 hV3 hbox3 hRd3 e1 hK03 hi3 hsup3 hlen3
    go_wp2_with fail
    go_ret
    exact hfin.out
  ·have hb0 : (ep != 0) = true := by rw [bne_iff_ne]; exact e0
   have hT2 : T = (ep, s2, V) := hT1.out.trans (if_neg e0)
   have hfin : PutPost_ X F w T (.returned (.int .i64 ep)) wc := by
    rw [hT2]
    exact ⟨rfl, hV.out.mono fun b hb => .inl (.inl hb), hK.out⟩
   replace hfin := Lib.hid hfin
   clear hT1 hT2 hRd hbox hV hK e0
   go_wp2_with fail
   go_ret
   exact hfin.out
end
end
section
open Go.RowKit
section
variable {X : Nat → Prop} {F : VolF} {w w' : World} {s : ShM} {V : VolM}
theorem write_fn (W : World) (B x mem : Nat) (hc : W.cell? ⟨B, 1, none⟩ = some (.int .i64 (mem : Int))) : Go.Proofs.FnGives Try.prog 39 #[.pointer (some ⟨B, 0, none⟩)] #[natK x] (.bool (x == mem)) W := by
 show Calls Try.prog 39 #[natK x, .pointer (some ⟨B, 0, none⟩)] W _
 unfold natK
 go_enter Try.func39, Try.ntmps39
 go_wp2
 go_ret
 exact ⟨by simp [Bool.beq_eq_decide_eq]; omega, 0, rfl⟩
theorem memL_last {m st : Nat} (hm : 0 < m) : (memL m st)[m - 1]'(by rw [memL_len]; omega) = parN m st := by
 have h := parN_lt (st := st) hm
 simp only [memL, List.getElem_map, List.getElem_range]
 rw [show parN m st + 1 + (m - 1) = parN m st + m by omega, Nat.add_mod_right, Nat.mod_eq_of_lt h]
set_option maxHeartbeats 16000000 in
theorem ra_write (h : VolX X F w s V) (hroom : Room 999999970000 s) (b : Nat) (hb : b < V.size) (A : Option Addr) (c : Nat) (bs : Bytes) (hr : Rd w A bs) (hL : bs.length = 128) (hA : ∀ ad, A = some ad → X ad.block) :
  Calls Try.prog 12 #[.pointer (some ⟨F.v, 0, none⟩), .int .i64 (b : Int), .slice A 128 c] w (PutPost_ X F w (volWrite s V (b : Int) bs)) := by
 have hsp := ra_spot h b hb
 have hm3 := h.ok.m3N
 have hm16 := h.ok.m16N
 have h8 := h.slots8
 have hl17 := h.ok.len17
 have hml := spot_lt (b := b) (show 0 < V.m by omega)
 have hbb : V.size ≤ 1024 * 15 := by
  have h1 := h.ok.st1024
  rw [← h.ok.sN] at h1
  exact Nat.mul_le_mul (by omega) (by omega)
 have hsl : (spotN V.m b).stripe ≤ 1000000 := Nat.le_trans spot_le (by omega)
 have hpl : (spotN V.m b).place ≤ 1000000 := by
  have : b % (V.m - 1) < V.m - 1 := Nat.mod_lt _ (by omega)
  show b % (V.m - 1) ≤ _
  omega
 obtain ⟨T, hT⟩ : ∃ T, T = volWrite s V (b : Int) bs := ⟨_, rfl⟩
 rw [← hT]
 have hT1 : Hid (T = _) := Lib.hid (hT.trans (by unfold volWrite; rw [if_pos ⟨by omega, by omega⟩, if_pos hL, Int.toNat_natCast]))
 dsimp only at hT1
 unfold spotV at hsp
 generalize spotN V.m b = x at *
 generalize V.size = z at *
 obtain ⟨st, mb, pl⟩ := x
 dsimp only at hsp hml hsl hpl hT1
 replace h := Lib.hid h
 replace hr := Lib.hid hr
 replace hA := Lib.hid hA
 replace hL := Lib.hid hL
 clear hT
 go_enter Try.func12, Try.ntmps12
 go_wp2_with fail
 with_reducible refine hsp.mono ?_
 rintro e w1 ⟨rfl, hb1⟩
 clear hsp
 obtain ⟨W, hW⟩ : ∃ W, W = w1.alloc (.cells #[.int .i64 (st : Int), .int .i64 (mb : Int), .int .i64 (pl : Int)] 80) := ⟨_, rfl⟩
 have hbW := below_made' w1 (.cells #[.int .i64 (st : Int), .int .i64 (mb : Int), .int .i64 (pl : Int)] 80)
 have hbox : W.heap[w1.heap.size]? = some (.cells #[.int .i64 (st : Int), .int .i64 (mb : Int), .int .i64 (pl : Int)] 80) := by rw [hW]; exact heap_alloc_new _ _
 rw [← hW] at hbW
 have hV0 := h.out.below hb1
 have hVW : VolX (fun b => X b ∨ b = w1.heap.size) F W s V := hV0.more hbW fun b hx => by
  rcases hx with hx | rfl
  ·exact ⟨Nat.lt_of_lt_of_le (hV0.lt b hx) hbW.size, .inl hx⟩
  ·exact ⟨lt_of_row hbox, .inr (Nat.le_refl _)⟩
 have hKW : Kept X w W := (Kept.of_below hb1 h.out.lt).trans (Kept.of_below hbW hV0.lt)
 have hS : ∀ W', Below W.heap.size W W' → W'.cell? ⟨F.v, 11, none⟩ = some (.map (some F.bo)) ∧ W'.cell? ⟨w1.heap.size, 0, none⟩ = some (.int .i64 (st : Int)) ∧ (Instr.lookup 88 (.map (some F.bo)) (.int .i64 (st : Int)) true).run Try.prog W' = .ok (.tuple #[.agg #[], .bool (V.opens.contains st)]) W' := fun W' hb => by
  have hV' := hVW.below hb
  have c11 := hV'.c 11
  simp only [volR] at c11
  exact ⟨c11, cell_of_row W' w1.heap.size 0 _ _ _ (hrow_keep hbox hb), hV'.opens.look Try.setInt st (by unfold smallN; omega)⟩
 obtain ⟨W2, hW2⟩ : ∃ W2, W2 = (W.alloc (.cells #[] 84)).drew := ⟨_, rfl⟩
 have hb2 : Below W.heap.size W W2 := by rw [hW2]; exact ((Below.refl _ _).alloc (Nat.le_refl _) _).drew
 have hS1 := hS W.drew (Below.refl _ _).drew
 have hS2 := hS W2 hb2
 have hV2 := hVW.below hb2
 have hK2 : Kept X w W2 := hKW.trans (Kept.of_below hb2 fun b hb => hVW.lt b (.inl hb))
 have hbox2 := hrow_keep hbox hb2
 have hge := hb1.size
 rw [hW2] at hS2
 rw [hW] at hS1 hS2
 replace hS1 := Lib.hid hS1
 replace hS2 := Lib.hid hS2
 replace hV2 := Lib.hid hV2
 replace hK2 := Lib.hid hK2
 replace hbox2 := Lib.hid hbox2
 clear hb1 hbW hV0 hVW hKW hS hb2 hbox h
 generalize hop : V.opens.contains st = op at *
 replace hop := Lib.hid hop
 go_wp2_with fail
 refine wp_region_held_drew (S := (fun W' => W'.cell? ⟨F.v, 11, none⟩ = some (.map (some F.bo)) ∧ W'.cell? ⟨w1.heap.size, 0, none⟩ = some (.int .i64 (st : Int)) ∧ (Instr.lookup 88 (.map (some F.bo)) (.int .i64 (st : Int)) true).run Try.prog W' = .ok (.tuple #[.agg #[], .bool op]) W')) (by kernel_rfl) ?_ (fun hHeld => ?_)
 ·(try dsimp only)
  exact hS1.out
 refine tkA 0 ?_
 refine tkA 1 ?_
 refine tkA 2 ?_
 refine tkA 3 ?_
 refine tkA 4 ?_
 refine tkA 5 ?_
 refine tkA 6 ?_
 refine tkA 7 ?_
 refine tkA 8 ?_
 refine tkA 9 ?_
 refine rkA 10 (fun K hK => ?_)
 go_simp
 refine hK.out _ _ ?_ (fun hHeld2 => ?_)
 ·(try dsimp only)
  exact hS2.out
 clear hK K
 replace hHeld := hHeld2
 clear hHeld2
 (try simp only [pA, pN, pB, pC, pD])
 refine rkA 11 (fun K hK => ?_)
 go_simp
 refine hK.out _ _ ?_ (fun hHeld2 => ?_)
 ·(try dsimp only)
  exact hS2.out
 clear hK K
 replace hHeld := hHeld2
 clear hHeld2
 (try simp only [pA, pN, pB, pC, pD])
 refine tkA 12 ?_
 refine wpAnyH_done (by kernel_rfl) ?_ _
 have hWW : ((w1.alloc (.cells #[.int .i64 (st : Int), .int .i64 (mb : Int), .int .i64 (pl : Int)] 80)).alloc (.cells #[] 84)).drew = W2 := by rw [hW2, hW]
 rw [hWW]
 clear hHeld hWW hW2 hW hS1 hS2
 have hrd2 := hK2.out.rd hr.out hA.out
 replace hrd2 := Lib.hid hrd2
 go_upto_if 40 with (fail)
 go_cut [] (fun wc => ∃ s3 V3, Hid (T = volOnce s3 V3 ⟨st, mb, pl⟩ bs) ∧ Hid (V3.m = V.m ∧ V3.devs.length = V.devs.length) ∧ Hid (Room (999999970000 + 600) s3) ∧ Hid (wc.heap[w1.heap.size]? = some (.cells #[.int .i64 (st : Int), .int .i64 (mb : Int), .int .i64 (pl : Int)] 80)) ∧ Hid (VolX (fun b => X b ∨ b = w1.heap.size) F wc s3 V3) ∧ Hid (Kept X w wc))
 case first =>
  cases op with
  | true =>
   have hT2 : T = (if (volFlush s V).1 = 0 then volOnce (volFlush s V).2.1 (volFlush s V).2.2 ⟨st, mb, pl⟩ bs else volFlush s V) := hT1.out.trans (if_pos rfl)
   have hfl := ra_flush hV2.out (hroom.mono (by omega))
   have hrm := Lib.hid (room_vflush hroom V h8 hl17)
   have hfm : (volFlush s V).2.2.m = V.m ∧ (volFlush s V).2.2.devs.length = V.devs.length := ⟨by unfold VolM.m; rw [volFlush_sup], volFlush_len⟩
   generalize volFlush s V = r at *
   obtain ⟨er, s3, V3⟩ := r
   dsimp only at hfl hrm hT2 hfm
   replace hT2 := Lib.hid hT2
   replace hfm := Lib.hid hfm
   clear hT1 hV2 hroom hop
   go_wp2_with fail
   with_reducible refine hfl.mono ?_
   rintro e w3 ⟨rfl, hV3, hK3⟩
   dsimp only at hV3
   have hbox3 := (hK3.block w1.heap.size (.inr rfl)).trans hbox2.out
   have hK03 : Kept X w w3 := hK2.out.trans (hK3.mono fun b hb => .inl hb)
   clear hfl hK2 hbox2 hrd2 hK3
   by_cases e0 : er = 0
   ·subst e0
    have hT3 : Hid (T = _) := Lib.hid (hT2.out.trans (if_pos rfl))
    replace hbox3 := Lib.hid hbox3
    replace hK03 := Lib.hid hK03
    replace hV3 := Lib.hid hV3
    clear hT2
    go_wp2_with fail
    go_meet
    exact ⟨s3, V3, hT3, hfm, hrm, hbox3, hV3, hK03⟩
   ·have hb0 : (er != 0) = true := by rw [bne_iff_ne]; exact e0
    have hfin : PutPost_ X F w T (.returned (.int .i64 er)) w3 := by
     rw [hT2.out, if_neg e0]
     exact ⟨rfl, hV3.mono fun b hb => .inl hb, hK03⟩
    replace hfin := Lib.hid hfin
    clear hT2 hV3 hK03 hbox3 e0
    go_wp2_with fail
    go_ret
    exact hfin.out
  | false =>
   have hT2 : Hid (T = volOnce s V ⟨st, mb, pl⟩ bs) := Lib.hid (hT1.out.trans (if_neg (by simp)))
   have hrm := Lib.hid (hroom.mono (show 999999970000 ≤ 999999970000 + 600 by omega))
   clear hT1 hroom hop hrd2
   go_wp2_with fail
   go_meet
   exact ⟨s, V, hT2, Lib.hid ⟨rfl, rfl⟩, hrm, hbox2, hV2, hK2⟩
 case rest =>
  clear hT1 hop hV2 hK2 hbox2 hrd2 hroom
  obtain ⟨s3, V3, hT, hm3', hrm, hbox, hV, hK⟩ := hcut
  obtain ⟨hmm, hll⟩ := hm3'.out
  unfold volOnce at hT
  have c8 := hV.out.c 8
  simp only [volR] at c8
  have hvlt := hV.out.vlt
  have hof := lx_off hV.out.sh
  cases hoff : s3.off with
  | true =>
   rw [hoff] at hof hT
   have hfin : PutPost_ X F w T (.returned (.int .i64 3)) wc := by
    rw [hT.out, if_pos rfl]
    exact ⟨rfl, hV.out.mono fun b hb => .inl hb, hK.out⟩
   replace hfin := Lib.hid hfin
   clear hT hV hK hbox hrm hmm hll hm3' hoff
   go_wp2_with fail
   with_reducible refine hof.mono ?_
   rintro e wx ⟨rfl, rfl⟩
   clear hof
   go_wp2_with fail
   go_ret
   exact hfin.out
  | false =>
   rw [hoff] at hof hT
   replace hT := Lib.hid (hT.out.trans (if_neg (by simp)))
   obtain ⟨R, hR⟩ : ∃ R, R = volDo s3 V3 ⟨st, mb, pl⟩ bs := ⟨_, rfl⟩
   rw [← hR] at hT
   unfold volDo at hR
   dsimp only at hR
   replace hR := Lib.hid hR
   clear hoff
   go_wp2_with fail
   with_reducible refine hof.mono ?_
   rintro e wx ⟨rfl, rfl⟩
   clear hof
   have c1 := hV.out.cM
   rw [hmm] at c1
   have d0 := cell_of_row wc w1.heap.size 0 _ _ _ hbox.out
   obtain ⟨q, hq⟩ : ∃ q, V.m = q + 1 := ⟨V.m - 1, by omega⟩
   rw [hq] at c1 hm3 hm16
   have hmem := lay_members (q + 1) st hm3 hm16 hsl wc.drew
   have hSk : ∀ W', Below wc.heap.size wc W' → W'.cell? ⟨F.v, 1, none⟩ = some (.int .i64 ((q + 1 : Nat) : Int)) ∧ W'.cell? ⟨w1.heap.size, 0, none⟩ = some (.int .i64 (st : Int)) := fun W' hb => ⟨(hb.cell hvlt).trans c1, (hb.cell (lt_of_row hbox.out)).trans d0⟩
   have hblt := lt_of_row hbox.out
   replace hSk := Lib.hid hSk
   go_wp2_with fail
   refine wp_region_held_drew (S := (fun W' => W'.cell? ⟨F.v, 1, none⟩ = some (.int .i64 ((q + 1 : Nat) : Int)) ∧ W'.cell? ⟨w1.heap.size, 0, none⟩ = some (.int .i64 (st : Int)))) (by kernel_rfl) ?_ (fun hHeld => ?_)
   ·(try dsimp only)
    exact ⟨c1, d0⟩
   refine tkA 0 ?_
   refine tkA 1 ?_
   refine tkA 2 ?_
   refine tkA 3 ?_
   refine tkA 4 ?_
   refine tkA 5 ?_
   refine tkA 6 ?_
   refine rkA 7 (fun K hK => ?_)
   go_simp
   refine hmem.mono ?_
   rintro e w4 ⟨A4, c4, rfl, hO, hb4⟩
   have hS4 := hSk.out w4 ((Below.refl _ _).drew.trans hb4)
   (try go_wp2_with fail)
   refine hK.out _ _ ?_ (fun hHeld2 => ?_)
   ·(try dsimp only)
    exact hS4
   clear hK K
   replace hHeld := hHeld2
   clear hHeld2
   (try simp only [pA, pN, pB, pC, pD])
   refine tkA 8 ?_
   refine tkA 9 ?_
   refine tkA 10 ?_
   refine tkA 11 ?_
   refine tkA 12 ?_
   refine wpAnyH_done (by kernel_rfl) ?_ _
   clear hHeld hS4 hmem c1 d0 c8
   obtain ⟨hleft, gb, rfl, hg0, hg1⟩ := hO.some_ (i := 0) (by rw [List.length_map, memL_len]; omega)
   clear hleft
   have hcap := hO.cap
   have hbw4 : Below wc.heap.size wc w4 := (Below.refl _ _).drew.trans hb4
   have hbox4 := hrow_keep hbox.out hbw4
   have hlq : (memL (q + 1) st).length = q + 1 := memL_len _ _
   have hlast : w4.cell? ⟨gb, q, none⟩ = some (.int .i64 (parN (q + 1) st : Int)) := by
    have h1 := hO.cellN q (by simp [memL_len])
    rw [h1, List.getElem_map]
    have h2 := memL_last (m := q + 1) (st := st) (by omega)
    simp only [Nat.add_sub_cancel] at h2
    rw [h2]
    rfl
   have hVg : VolX (fun b => (X b ∨ b = w1.heap.size) ∨ b = gb) F w4 s3 V3 := hV.out.more hbw4 fun b hx => by
    rcases hx with hx | rfl
    ·exact ⟨Nat.lt_of_lt_of_le (hV.out.lt b hx) hbw4.size, .inl hx⟩
    ·exact ⟨hg1, .inr hg0⟩
   have hK4 : Kept (fun b => X b ∨ b = w1.heap.size) wc w4 := Kept.of_below hbw4 hV.out.lt
   have hgne : w1.heap.size ≠ gb := by
    have : wc.drew.heap.size = wc.heap.size := rfl
    omega
   have hdel := del_any 39 #[.pointer (some ⟨w1.heap.size, 0, none⟩)] (enters_of Try.func39 (by kernel_rfl) rfl) mb w4 gb q q ((memL (q + 1) st).take q) (by rw [List.length_take, hlq]; omega) (Nat.le_refl _) (by omega) (fun i hi => by
     have hi1 : i < q := by rw [List.length_take, hlq] at hi; omega
     have hi' : i < ((memL (q + 1) st).map natK).length := by rw [List.length_map, hlq]; omega
     have h1 := hO.cellN i hi'
     rw [List.getElem_map] at h1
     rw [List.getElem_take]
     exact ⟨h1, hO.frozenN i⟩)
    (fun W' hW x => write_fn W' w1.heap.size x mb (by
     have := hW w1.heap.size (lt_of_row hbox4) hgne
     rw [World.cell?_of_block this]
     exact cell_of_row w4 w1.heap.size 1 _ _ _ hbox4))
   have hlow : ∀ k ∈ ((memL (q + 1) st).take q).filter (fun k => !(k == mb)), k < V3.m := fun k hk => by
    rw [hmm, hq]
    exact memL_lt (List.mem_of_mem_take (List.mem_filter.1 hk).1)
   have hrl : (((memL (q + 1) st).take q).filter (fun k => !(k == mb))).length ≤ q := by
    have := List.length_filter_le (fun k => !(k == mb)) ((memL (q + 1) st).take q)
    rw [List.length_take] at this
    omega
   have hpV : parN (q + 1) st < V3.m := by rw [hmm, hq]; exact parN_lt (by omega)
   replace hR := hR.out
   rw [show V3.m = q + 1 by rw [hmm, hq], Nat.add_sub_cancel] at hR
   obtain ⟨rest, hrest⟩ : ∃ rest, rest = ((memL (q + 1) st).take q).filter (fun k => !(k == mb)) := ⟨_, rfl⟩
   rw [← hrest] at hR hdel hlow hrl
   generalize parN (q + 1) st = p at *
   have hXg : ∀ k, X k → k ≠ gb := fun k hk e => by
    have h1 := hV.out.lt k (.inl hk)
    have h2 : wc.drew.heap.size = wc.heap.size := rfl
    omega
   replace hXg := Lib.hid hXg
   replace hbox4 := Lib.hid hbox4
   replace hVg := Lib.hid hVg
   replace hK4 := Lib.hid hK4
   replace hR := Lib.hid hR
   replace hlow := Lib.hid hlow
   clear hO hb4 hbw4 hlq hrest hg0 hSk hV hbox hblt hvlt
   go_wp2_with fail
   with_reducible refine hdel.mono ?_
   rintro e w5 ⟨rfl, hr5, ho5, ht5, hp5, hs5, hx5⟩
   have hV5 : VolX (fun b => (X b ∨ b = w1.heap.size) ∨ b = gb) F w5 s3 V3 := hVg.out.other (Nat.le_of_eq hs5.symm) fun b _ hn => hx5 b fun e => hn (.inr e)
   have hbox5 := (hx5 w1.heap.size hgne).trans hbox4.out
   have hK5 : Kept X w w5 := (hK.out.trans (hK4.out.mono fun b hb => .inl hb)).trans ⟨ho5, ht5, hp5, Nat.le_of_eq hs5.symm, fun k hk => hx5 k (hXg.out k hk)⟩
   have hmb3 : mb < V3.m := by rw [hmm]; exact hml
   have hdA := fun n => ra_dead (hV5.below (below_drewN (Below.refl _ w5) n)) mb st hmb3
   have hdB := fun n => ra_dead (hV5.below (below_drewN (Below.refl _ w5) n)) p st hpV
   generalize volDead s3 V3 mb st = nd at *
   generalize volDead s3 V3 p st = np at *
   obtain ⟨d0, d1, d2, df⟩ := row3_cells w5 _ _ _ _ _ hbox5
   have hblt := lt_of_row hbox5
   replace hbox5 := Lib.hid hbox5
   replace hV5 := Lib.hid hV5
   replace hK5 := Lib.hid hK5
   replace hr5 := Lib.hid hr5
   clear hdel hlast hbox4 hVg hK hK4 ho5 ht5 hp5 hs5 hx5 hg1
   go_wp2_with fail
   go_quiet (first | with_reducible exact Calls.quiet_of (hdA _) | with_reducible exact Calls.quiet_of (hdB _))
   have hb56 := below_drewN (Below.refl w5.heap.size w5) nq
   have hV6 : VolX (fun b => (X b ∨ b = w1.heap.size) ∨ b = gb) F (w5.drewN nq) s3 V3 := hV5.out.below hb56
   have hbox6 : (w5.drewN nq).heap[w1.heap.size]? = _ := hrow_keep hbox5.out hb56
   have hK6 : Kept X w (w5.drewN nq) := hK5.out.trans (Kept.of_below hb56 fun b hb => hV5.out.lt b (.inl (.inl hb)))
   have hr6 : RdV (w5.drewN nq) (some ⟨gb, 0, none⟩) (rest.map natK) := hr5.out.below hb56
   have hrd6 : Rd (w5.drewN nq) A bs := hK6.rd hr.out hA.out
   have e0 : (w5.drewN nq).cell? ⟨w1.heap.size, 0, none⟩ = some (.int .i64 (st : Int)) := d0
   have e1 : (w5.drewN nq).cell? ⟨w1.heap.size, 1, none⟩ = some (.int .i64 (mb : Int)) := d1
   have e2 : (w5.drewN nq).cell? ⟨w1.heap.size, 2, none⟩ = some (.int .i64 (pl : Int)) := d2
   have hblt6 : w1.heap.size < (w5.drewN nq).heap.size := hblt
   clear hdA hdB d0 d1 d2 df hblt hb56 hV5 hbox5 hK5 hr5
   generalize w5.drewN nq = w6 at *
   replace hV6 := Lib.hid hV6
   replace hK6 := Lib.hid hK6
   replace hbox6 := Lib.hid hbox6
   replace hr6 := Lib.hid hr6
   replace hrd6 := Lib.hid hrd6
   go_upto_block 0 with fail
   go_cut [8] (fun q wc => q = .int .i64 R.1 ∧ Hid (VolX (fun b => (X b ∨ b = w1.heap.size) ∨ b = gb) F wc R.2.1 R.2.2) ∧ Hid (Kept X w wc) ∧ Hid (wc.heap[w1.heap.size]? = some (.cells #[.int .i64 (st : Int), .int .i64 (mb : Int), .int .i64 (pl : Int)] 80)))
   case first =>
    cases np with
    | true =>
     cases nd with
     | true =>
      have hR2 : R = (10, s3, V3) := hR.out
      have hfin : PutPost_ X F w T (.returned (.int .i64 10)) w6 := by
       rw [hT.out, hR2]
       exact ⟨rfl, hV6.out.mono fun b hb => .inl (.inl hb), hK6.out⟩
      replace hfin := Lib.hid hfin
      clear hV6 hK6 hbox6 hr6 hrd6 hT hR hR2 e0 e1 e2
      go_wp2_with fail
      go_ret
      exact hfin.out
     | false =>
      have hR2 : R = volPut s3 V3 mb st bs := hR.out
      have hpt := ra_put hV6.out (hrm.out.mono (by omega)) mb st hmb3 hsl A 128 c bs hrd6.out hL.out (fun ad e => .inl (.inl (hA.out ad e)))
      rw [← hR2] at hpt
      replace hR2 := Lib.hid hR2
      clear hV6 hr6 hrd6 hR
      go_wp2_with fail
      with_reducible refine hpt.mono ?_
      rintro e w7 ⟨rfl, hV7, hK7⟩
      have hbox7 := Lib.hid ((hK7.block w1.heap.size (.inl (.inr rfl))).trans hbox6.out)
      have hK07 := Lib.hid (hK6.out.trans (hK7.mono fun b hb => .inl (.inl hb)))
      replace hV7 := Lib.hid hV7
      clear hpt e0 e1 e2 hbox6 hK6 hK7
      go_wp2_with fail
      go_meet
      exact ⟨rfl, hV7, hK07, hbox7⟩
    | false =>
     cases nd with
     | true =>
      have hR2 : R = volOnly s3 V3 p st rest bs := hR.out
      have hpt := ra_only hV6.out (hrm.out.mono (by omega)) p st hpV hsl rest hlow.out _ rest.length q hr6.out rfl (by omega) (fun ad e => by injection e with e; subst e; exact .inr rfl) A c bs hrd6.out hL.out (fun ad e => .inl (.inl (hA.out ad e)))
      rw [← hR2] at hpt
      replace hR2 := Lib.hid hR2
      clear hV6 hr6 hrd6 hR
      go_wp2_with fail
      with_reducible refine hpt.mono ?_
      rintro e w7 ⟨rfl, hV7, hK7⟩
      have hbox7 := Lib.hid ((hK7.block w1.heap.size (.inl (.inr rfl))).trans hbox6.out)
      have hK07 := Lib.hid (hK6.out.trans (hK7.mono fun b hb => .inl (.inl hb)))
      replace hV7 := Lib.hid hV7
      clear hpt e0 e1 e2 hbox6 hK6 hK7
      go_wp2_with fail
      go_meet
      exact ⟨rfl, hV7, hK07, hbox7⟩
     | false =>
      have hR2 : R = volUpdate s3 V3 ⟨st, mb, pl⟩ p rest bs := hR.out
      have hpt := ra_update hV6.out (hrm.out.mono (by omega)) st mb pl p hmb3 hpV hsl hpl rest hlow.out _ rest.length q hr6.out rfl (by omega) (fun ad e => by injection e with e; subst e; exact .inr rfl) A c bs hrd6.out hL.out (fun ad e => .inl (.inl (hA.out ad e)))
      rw [← hR2] at hpt
      replace hR2 := Lib.hid hR2
      clear hV6 hr6 hrd6 hR
      go_wp2_with fail
      with_reducible refine hpt.mono ?_
      rintro e w7 ⟨rfl, hV7, hK7⟩
      have hbox7 := Lib.hid ((hK7.block w1.heap.size (.inl (.inr rfl))).trans hbox6.out)
      have hK07 := Lib.hid (hK6.out.trans (hK7.mono fun b hb => .inl (.inl hb)))
      replace hV7 := Lib.hid hV7
      clear hpt e0 e1 e2 hbox6 hK6 hK7
      go_wp2_with fail
      go_meet
      exact ⟨rfl, hV7, hK07, hbox7⟩
   case rest =>
    clear hV6 hK6 hbox6 hr6 hrd6 hR e0 e1 e2 hblt6
    obtain ⟨rfl, hV, hK, hbox⟩ := hcut
    obtain ⟨er, s8, V8⟩ := R
    dsimp only at hV hT
    by_cases e0 : er = 0
    ·subst e0
     have hT2 := hT.out.trans (if_pos rfl)
     obtain ⟨o2, hmu, hM⟩ := hV.out.drew.opens.put Try.setInt st (by unfold smallN; omega)
     unfold natK unitV at hmu
     have c11 := hV.out.c 11
     simp only [volR] at c11
     have d0 := cell_of_row wc w1.heap.size 0 _ _ _ hbox.out
     have hblt := lt_of_row hbox.out
     have hvlt := hV.out.vlt
     obtain ⟨hV9, hK9⟩ := hV.out.drew.setOpens hM
     rw [opn_eq] at hV9
     have hfin : PutPost_ X F w T (.returned (.int .i64 0)) (setBlk wc.drew F.bo o2) := by
      rw [hT2]
      exact ⟨rfl, hV9.mono fun b hb => .inl (.inl hb), hK.out.trans ((Kept.drew _ wc).trans (hK9.mono fun b hb => .inl (.inl hb)))⟩
     replace hfin := Lib.hid hfin
     clear hT hT2 hV hK hbox hM hV9 hK9
     go_wp2_with fail
     go_still_tail 7, (by kernel_rfl)
     change wpList _ _ _ _ _ (World.drew _)
     go_wp2_with fail
     go_ret
     exact hfin.out
    ·have hb0 : (er == 0) = false := by rw [beq_eq_false_iff_ne]; exact e0
     have hT2 : T = (er, s8, V8) := hT.out.trans (if_neg e0)
     have hfin : PutPost_ X F w T (.returned (.int .i64 er)) wc := by
      rw [hT2]
      exact ⟨rfl, hV.out.mono fun b hb => .inl (.inl hb), hK.out⟩
     replace hfin := Lib.hid hfin
     clear hT hT2 hV hK hbox e0
     go_wp2_with fail
     go_ret
     exact hfin.out
end
end
end Go.Proofs.Ytajnlhalanhicaa

/-
 Several texts of this work in one (merge.py): RdC, RdD, RdE, RdF, RdM, RdG, RdH, RdI, RdJ, RdK, RdL.
-/
import Derived.Test.YtajnlhalanhicaaRq
import Derived.Test.YtajnlhalanhicaaRp
import Derived.Test.YtajnlhalanhicaaSuY
import Derived.Test.YtajnlhalanhicaaHeldTail
import Derived.Test.YtajnlhalanhicaaOpG
import Derived.Test.YtajnlhalanhicaaCo
import Derived.Test.YtajnlhalanhicaaRaLz
import Derived.BigQuiet
namespace Go.Proofs.Ytajnlhalanhicaa
set_option linter.all false
set_option maxRecDepth 20000
section
open Go.RowKit
section
variable {base rb mb cap N m st lg : Nat} {G : Nat → Nat × Nat × Nat} {F F' : VolF} {tv : Value} {w w' : World} {s s' : ShM} {V V' : VolM} {L : Nat → List Bytes} {killed : Bool}
def RX (base rb mb : Nat) (G : Nat → Nat × Nat × Nat) (N : Nat) (b : Nat) : Prop := b < base ∨ b = rb ∨ MayB mb G N b
def rigR (F : VolF) (mb cap N m st lg : Nat) (tv : Value) (killed : Bool) : Array Value := #[.pointer (some ⟨F.g, 0, none⟩), .pointer (some ⟨F.v, 0, none⟩), .int .i64 (m : Int), .int .i64 (st : Int), .int .i64 (lg : Int), .slice (some ⟨mb, 0, none⟩) N cap, .bool killed, tv, .bool false]
structure RigAt (w : World) (base rb mb cap : Nat) (G : Nat → Nat × Nat × Nat) (F : VolF) (tv : Value) (m st lg N : Nat) (s : ShM) (V : VolM) (L : Nat → List Bytes) (killed : Bool) : Prop where
 row : w.heap[rb]? = some (.cells (rigR F mb cap N m st lg tv killed) 31)
 may : MayAt w base mb G cap N L
 vol : VolX (RX base rb mb G N) F w s V
 rbne : ¬ MayB mb G N rb
 low : base ≤ rb
 ncap : N ≤ cap
theorem RigAt.rlt (h : RigAt w base rb mb cap G F tv m st lg N s V L killed) : rb < w.heap.size := lt_of_row h.row
theorem RigAt.bsz (h : RigAt w base rb mb cap G F tv m st lg N s V L killed) : base ≤ w.heap.size := Nat.le_trans h.low (Nat.le_of_lt h.rlt)
theorem RigAt.c (h : RigAt w base rb mb cap G F tv m st lg N s V L killed) (k : Nat) : w.cell? ⟨rb, k, none⟩ = (rigR F mb cap N m st lg tv killed)[k]? := cell_of_row w rb k _ _ _ h.row
theorem RigAt.keep (h : RigAt w base rb mb cap G F tv m st lg N s V L killed) (hV : VolX (RX base rb mb G N) F w' s' V') (hK : Kept (RX base rb mb G N) w w') : RigAt w' base rb mb cap G F tv m st lg N s' V' L killed :=
 ⟨(hK.block rb (.inr (.inl rfl))).trans h.row, h.may.kept fun b hb => hK.block b (.inr (.inr hb)), hV, h.rbne, h.low, h.ncap⟩
theorem RigAt.below (h : RigAt w base rb mb cap G F tv m st lg N s V L killed) (hb : Below w.heap.size w w') : RigAt w' base rb mb cap G F tv m st lg N s V L killed :=
 h.keep (h.vol.below hb) (Kept.of_below hb h.vol.lt)
theorem RigAt.kbelow {w0 : World} (hB : Below base w0 w) (hK : Kept (RX base rb mb G N) w w') : Below base w0 w' := hB.trans (hK.below fun b hb => .inl hb)
theorem RigAt.put (h : RigAt w base rb mb cap G F tv m st lg N s V L killed) {k g' o' c' n : Nat} (hk : k < N) (hBt : But (G k).1 w w') {l : List Bytes} (hm : l.length = n) (hV : VlAt w' 9 base g' o' c' (l.map strV)) (hg : g' = (G k).1 ∨ w.heap.size ≤ g') :
  RigAt (w'.setCell ⟨mb, k, none⟩ (.slice (some ⟨g', o', none⟩) n c')) base rb mb cap (updM G k (g', o', c')) F tv m st lg N s V (updM L k l) killed ∧
  ∀ w0, Below base w0 w → Below base w0 (w'.setCell ⟨mb, k, none⟩ (.slice (some ⟨g', o', none⟩) n c')) := by
 have hsz : (w'.setCell ⟨mb, k, none⟩ (.slice (some ⟨g', o', none⟩) n c')).heap.size = w'.heap.size := by simp [World.setCell]
 have hM := h.may
 have hM' := hM.set (w' := w') (k := k) (n' := N) (by have := h.ncap; omega) (fun j hj => .inl hj) hBt.size (fun b hb hne => hBt.block b hb (hne hk)) hm hV (hg.imp (fun e => ⟨hk, e⟩) id)
 have hge := (hM.el k hk).1.1
 have hmbr : rb ≠ mb := fun e => h.rbne (.inl e)
 have hgr : rb ≠ (G k).1 := fun e => h.rbne (.inr ⟨k, hk, e⟩)
 have hsame : ∀ b, b < w.heap.size → ¬ RX base rb mb G N b → (w'.setCell ⟨mb, k, none⟩ (.slice (some ⟨g', o', none⟩) n c')).heap[b]? = w.heap[b]? := fun b hb hx => by
  rw [heap_setCell_other _ ⟨mb, k, none⟩ b _ (fun e => hx (.inr (.inr (.inl e))))]
  exact hBt.block b hb fun e => hx (.inr (.inr (.inr ⟨k, hk, e⟩)))
 have hsz2 := hBt.size
 have hY : ∀ b, RX base rb mb (updM G k (g', o', c')) N b → b < w'.heap.size ∧ (RX base rb mb G N b ∨ w.heap.size ≤ b) := fun b hb => by
  have hbz := h.bsz
  have hr := h.rlt
  rcases hb with hb | rfl | rfl | ⟨j, hj, rfl⟩
  ·exact ⟨by omega, .inl (.inl hb)⟩
  ·exact ⟨by omega, .inl (.inr (.inl rfl))⟩
  ·exact ⟨by have := hM.mblt; omega, .inl (.inr (.inr (.inl rfl)))⟩
  ·by_cases e : j = k
   ·subst e
    rw [updM_same]
    exact ⟨hV.lt, hg.imp (fun e => .inr (.inr (.inr ⟨j, hj, e⟩))) id⟩
   ·rw [updM_ne _ _ e]
    exact ⟨by have := (hM.el j hj).1.lt; omega, .inl (.inr (.inr (.inr ⟨j, hj, rfl⟩)))⟩
 have hrbY : ¬ MayB mb (updM G k (g', o', c')) N rb := fun hx => by
  rcases hx with e | ⟨j, hj, e⟩
  ·exact hmbr e
  ·by_cases e2 : j = k
   ·subst e2
    rw [updM_same] at e
    rcases hg with hg | hg
    ·exact hgr (e.trans hg)
    ·have := h.rlt
     have e : rb = g' := e
     omega
   ·rw [updM_ne _ _ e2] at e
    exact h.rbne (.inr ⟨j, hj, e⟩)
 refine ⟨⟨?_, hM', ?_, hrbY, h.low, h.ncap⟩, fun w0 hB => (hB.trans ⟨hBt.os, hBt.tape, hBt.output, hBt.size, fun b hb => hBt.block b (by have := h.bsz; omega) (by omega)⟩).setCell (p := ⟨mb, k, none⟩) hM.low _⟩
 ·rw [heap_setCell_other _ ⟨mb, k, none⟩ rb _ hmbr, hBt.block rb h.rlt hgr]
  exact h.row
 ·refine h.vol.rows (h.vol.sh.more (by rw [hsz]; exact hBt.size) (fun b hb hx => hsame b hb fun hx2 => hx (.inl hx2)) fun b hb => ?_) (fun b hb hy => ?_) (fun b hb => hsame b (h.vol.olt b hb) (h.vol.out b hb)) h.vol.ok
  ·rw [hsz]
   rcases hb with hb | hb
   ·exact ⟨(hY b hb).1, (hY b hb).2.imp (fun h => .inl h) id⟩
   ·exact ⟨by have := h.vol.olt b hb; omega, .inl (.inr hb)⟩
  ·rcases (hY b hy).2 with h1 | h1
   ·exact h.vol.out b hb h1
   ·have := h.vol.olt b hb; omega
end
end
section
open Go.RowKit
section
variable {base rb mb cap N m st lg : Nat} {G : Nat → Nat × Nat × Nat} {F F' : VolF} {tv : Value} {w w' : World} {s s' : ShM} {V V' : VolM} {L : Nat → List Bytes} {killed : Bool} {U D : Nat → Nat → Bytes} {M : Nat → Nat → Bytes → Prop} {B : Nat → Nat} {O : Nat → Bytes} {May : Nat → Bytes → Prop}
theorem VlAt.lit {W : World} {E base : Nat} (v : Value) (hb : base ≤ W.heap.size) : VlAt (W.alloc (.cells #[v] E)) E base W.heap.size 0 1 [v] := by
 refine ⟨hb, by simp, by simp [maxLen], #[v], heap_alloc_new W _, rfl, fun i hi => ?_⟩
 simp only [List.length_singleton] at hi
 obtain rfl : i = 0 := by omega
 rfl
theorem Rd.blk {w w' : World} {A : Option Addr} {bs : List UInt8} (h : Rd w A bs) (hb : ∀ ad, A = some ad → w'.heap[ad.block]? = w.heap[ad.block]?) : Rd w' A bs :=
 ⟨h.1, h.2.1, fun ad e i hi => (World.cell?_of_block (by rw [add_block]; exact hb ad e)).trans (h.2.2 ad e i hi)⟩
end
end
section
open Go.RowKit
section
variable {base rb mb cap N m st lg : Nat} {G : Nat → Nat × Nat × Nat} {F F' : VolF} {tv : Value} {w w' : World} {s s' : ShM} {V V' : VolM} {L : Nat → List Bytes} {killed : Bool}
def DoPost (w : World) (base rb mb cap : Nat) (tv : Value) (m st lg N K : Nat) (killed : Bool) (e : Ending) (w' : World) : Prop :=
 e = .returned (.bool true) ∧ ∃ G F s V L, RigAt w' base rb mb cap G F tv m st lg N s V L killed ∧ RigOk s V N L killed (m, st) ∧ (∀ b, b < N → (L b).length ≤ K) ∧ Below base w w'
structure RigHalf (w : World) (base rb mb cap : Nat) (G : Nat → Nat × Nat × Nat) (F : VolF) (tv : Value) (m st lg N : Nat) (L : Nat → List Bytes) (killed : Bool) : Prop where
 row : w.heap[rb]? = some (.cells (rigR F mb cap N m st lg tv killed) 31)
 may : MayAt w base mb G cap N L
 rbne : ¬ MayB mb G N rb
 low : base ≤ rb
 ncap : N ≤ cap
theorem RigHalf.keep (h : RigHalf w base rb mb cap G F tv m st lg N L killed) (hK : Kept (RX base rb mb G N) w w') : RigHalf w' base rb mb cap G F tv m st lg N L killed :=
 ⟨(hK.block rb (.inr (.inl rfl))).trans h.row, h.may.kept fun b hb => hK.block b (.inr (.inr hb)), h.rbne, h.low, h.ncap⟩
theorem RigHalf.rlt (h : RigHalf w base rb mb cap G F tv m st lg N L killed) : rb < w.heap.size := lt_of_row h.row
theorem RigUp.room {Y : Sup} {q : Nat × Nat} (h : RigUp s Y N L killed q) : Room 100 s := by
 obtain ⟨U, D, ha, _⟩ := h.st.cons
 exact ha.room
theorem RigOk.room {q : Nat × Nat} (h : RigOk s V N L killed q) : Room 100 s := by
 rcases h.st with ⟨U, M, D, B, O, hl, _⟩ | hd
 ·exact hl.arr.room
 ·obtain ⟨M, a, _⟩ := hd.crash; exact a.room
end
end
section
open Go.RowKit
section
variable {X Y : Nat → Prop} {base rb mb cap N m st lg xb : Nat} {G : Nat → Nat × Nat × Nat} {F F' : VolF} {tv : Value} {w w' : World} {s s' : ShM} {V V' : VolM} {L : Nat → List Bytes} {killed : Bool}
theorem VolX.turn (h : VolX X F w s V) (hs : w.heap.size ≤ w'.heap.size) (hsame : ∀ b, b < w.heap.size → ¬ X b → w'.heap[b]? = w.heap[b]?) (hY : ∀ b, Y b → b < w'.heap.size ∧ (X b ∨ w.heap.size ≤ b)) : VolX Y F w' s V := by
 refine h.rows (h.sh.more hs (fun b hb hx => hsame b hb fun hx2 => hx (.inl hx2)) fun b hb => ?_) (fun b hb hy => ?_) (fun b hb => hsame b (h.olt b hb) (h.out b hb)) h.ok
 ·rcases hb with hb | hb
  ·exact ⟨(hY b hb).1, (hY b hb).2.imp (fun h => .inl h) id⟩
  ·exact ⟨Nat.lt_of_lt_of_le (h.olt b hb) hs, .inl (.inr hb)⟩
 ·rcases (hY b hy).2 with h1 | h1
  ·exact h.out b hb h1
  ·have := h.olt b hb; omega
theorem But.from {g : Nat} {w W w' : World} (hb : Below w.heap.size w W) (h : But g W w') : But g w w' :=
 ⟨h.os.trans hb.os, h.tape.trans hb.tape, h.output.trans hb.output, Nat.le_trans hb.size h.size, fun k hk hne => (h.block k (Nat.lt_of_lt_of_le hk hb.size) hne).trans (hb.block k hk)⟩
theorem Try.infoStr1 : (Try.prog.info? 9).map (fun i => (i.zero, i.size, i.bytes)) = some (some (.string ⟨#[]⟩), 1, 16) := by kernel_rfl
end
end
section
open Go.RowKit
theorem mod08 (a n : Int) (w : World) (hn : 0 < n) (hn2 : n ≤ 1000000) (h0 : -9223372036854775808 ≤ a) (h1 : a ≤ 9223372036854775807) : Calls Try.prog 8 #[.int .i64 a, .int .i64 n] w fun e w' => e = .returned (.int .i64 (a % n)) ∧ w = w' := by
 have t1 := Int.tmod_lt_of_pos a hn
 have t2 := Int.lt_tmod_of_pos a hn
 have hem := Int.emod_eq_of_lt (a := a.tmod n) (b := n)
 have hde : a % n = if a.tmod n < 0 then a.tmod n + n else a.tmod n := by
  have e : a = n * a.tdiv n + a.tmod n := (Int.mul_tdiv_add_tmod a n).symm
  have e2 : a % n = a.tmod n % n := by
   conv => lhs; rw [e]
   rw [Int.add_comm, Int.add_mul_emod_self_left]
  rw [e2]
  split
  ·have : (a.tmod n + n) % n = a.tmod n % n := by simp
   rw [← this]
   exact Int.emod_eq_of_lt (by omega) (by omega)
  ·exact Int.emod_eq_of_lt (by omega) (by omega)
 have hw1 : IntKind.i64.wrap (a.tmod n) = a.tmod n := IntWalk.i64_in _ (by omega)
 have hnz : (n = 0) = False := eq_false (by omega)
 clear hem
 by_cases hneg : a.tmod n < 0
 ·rw [if_pos hneg] at hde
  have hw2 : IntKind.i64.wrap (a.tmod n + n) = a.tmod n + n := IntWalk.i64_in _ (by omega)
  rw [hde]
  clear hde
  go_enter Try.func8, Try.ntmps8
  go_wp2_with fail
  go_ret
  exact ⟨rfl, rfl⟩
 ·rw [if_neg hneg] at hde
  rw [hde]
  clear hde
  go_enter Try.func8, Try.ntmps8
  go_wp2_with fail
  go_ret
  exact ⟨rfl, rfl⟩
end
section
open Go.RowKit
section
variable {base rb mb cap N m st lg K : Nat} {G : Nat → Nat × Nat × Nat} {F F' : VolF} {tv : Value} {w w' : World} {s s' : ShM} {V V' : VolM} {L : Nat → List Bytes} {killed : Bool}
theorem DoPost.mono {K' : Nat} {e : Ending} (h : DoPost w base rb mb cap tv m st lg N K killed e w') (hK : K ≤ K') : DoPost w base rb mb cap tv m st lg N K' killed e w' := by
 obtain ⟨a, G, F, s, V, L, b, c, d, f⟩ := h
 exact ⟨a, G, F, s, V, L, b, c, fun q hq => Nat.le_trans (d q hq) hK, f⟩
theorem VolX.shelved {X : Nat → Prop} (h : VolX X F w s V) (hS : ShX (fun b => X b ∨ b ∈ F.own) F.g w' s') (hK : Kept (fun b => X b ∨ b ∈ F.own) w w') (h1 : s'.disks.length = s.disks.length) (h2 : s'.sectors = s.sectors) : VolX X F w' s' V :=
 h.rows hS h.out (fun b hb => hK.block b (.inr hb)) (h.ok.same h1 h2)
theorem killR_kept (s : ShM) (d : Int) : (s.killR d).2.disks.length = s.disks.length ∧ (s.killR d).2.sectors = s.sectors := by
 unfold ShM.killR
 split
 ·exact ⟨by simp [ShM.setDisk], rfl⟩
 ·exact ⟨rfl, rfl⟩
end
end
section
open Go.RowKit
section
variable {base rb mb cap N m st lg K : Nat} {G : Nat → Nat × Nat × Nat} {F F' : VolF} {tv : Value} {w w' : World} {s s' : ShM} {V V' : VolM} {L : Nat → List Bytes} {killed : Bool}
end
end
section
open Go.RowKit
section
variable {base rb mb cap N m st lg K : Nat} {G : Nat → Nat × Nat × Nat} {F F' : VolF} {tv : Value} {w w' : World} {s s' : ShM} {V V' : VolM} {L : Nat → List Bytes} {killed : Bool}
end
end
section
open Go.RowKit
section
variable {base rb m st lg k : Nat} {G : Nat → Nat × Nat × Nat} {F : VolF} {tv v v' : Value} {w w' w5 W3 : World} {s : ShM} {V : VolM} {zs : Bytes}
def headV (G : Nat → Nat × Nat × Nat) (j : Nat) : Value := .slice (some ⟨(G j).1, (G j).2.1, none⟩) 1 (G j).2.2
def BX (base rb : Nat) (G : Nat → Nat × Nat × Nat) (k : Nat) (v : Value) (b : Nat) : Prop := b < base ∨ b = rb ∨ v.ownBlock = some b ∨ ∃ j, j < k ∧ b = (G j).1
def begR (F : VolF) (v : Value) (m st lg : Nat) (tv : Value) : Array Value := #[.pointer (some ⟨F.g, 0, none⟩), .pointer (some ⟨F.v, 0, none⟩), .int .i64 (m : Int), .int .i64 (st : Int), .int .i64 (lg : Int), v, .bool false, tv, .bool false]
structure BegAt (w : World) (base rb : Nat) (G : Nat → Nat × Nat × Nat) (k : Nat) (v : Value) (F : VolF) (tv : Value) (m st lg : Nat) (zs : Bytes) (s : ShM) (V : VolM) : Prop where
 row : w.heap[rb]? = some (.cells (begR F v m st lg tv) 31)
 own : w.ownsRow base 33 1 v k ((List.range k).map (headV G))
 el : ∀ j, j < k → VlAt w 9 base (G j).1 (G j).2.1 (G j).2.2 [strV zs] ∧ v.ownBlock ≠ some (G j).1 ∧ (G j).1 ≠ rb
 ne : ∀ i j, i < k → j < k → i ≠ j → (G i).1 ≠ (G j).1
 vrb : v.ownBlock ≠ some rb
 low : base ≤ rb
 vol : VolX (BX base rb G k v) F w s V
theorem headV_congr {G' : Nat → Nat × Nat × Nat} (h : ∀ j, j < k → G' j = G j) : (List.range k).map (headV G') = (List.range k).map (headV G) :=
 List.map_congr_left fun j hj => by unfold headV; rw [h j (List.mem_range.1 hj)]
theorem BegAt.step (h : BegAt w base rb G k v F tv m st lg zs s V) {ib : Nat} (hb : Below w.heap.size w W3) (hib : w.heap.size ≤ ib) (hv : VlAt W3 9 base ib 0 1 [strV zs]) (hrow : w5.ownsRow base 33 1 v' (k + 1) ((List.range k).map (headV G) ++ [.slice (some ⟨ib, 0, none⟩) 1 1])) (hg : W3.grownBy w5 v.ownBlock) (hw : v'.ownBlock = v.ownBlock ∨ v'.ownBlock = some W3.heap.size) :
  BegAt (w5.setCell ⟨rb, 5, none⟩ v') base rb (updM G k (ib, 0, 1)) (k + 1) v' F tv m st lg zs s V ∧ ∀ w0, Below base w0 w → Below base w0 (w5.setCell ⟨rb, 5, none⟩ v') := by
 have hsz : (w5.setCell ⟨rb, 5, none⟩ v').heap.size = w5.heap.size := by simp [World.setCell]
 have hvo := ownsRow_lt h.own
 have hs3 := hb.size
 have hs5 := hg.size
 have hrl := lt_of_row h.row
 have hibl := hv.lt
 have hsame : ∀ b, b < w.heap.size → v.ownBlock ≠ some b → b ≠ rb → (w5.setCell ⟨rb, 5, none⟩ v').heap[b]? = w.heap[b]? := fun b hb2 hne hr => by
  rw [heap_setCell_other _ ⟨rb, 5, none⟩ b _ hr]
  exact (hg.block b (by omega) (fun e => hne e.symm)).trans (hb.block b hb2)
 have hrow5 : w5.heap[rb]? = w.heap[rb]? := (hg.block rb (by omega) (fun e => h.vrb e.symm)).trans (hb.block rb hrl)
 have hv'rb : v'.ownBlock ≠ some rb := fun e => by
  rcases hw with hw | hw
  ·exact h.vrb (hw ▸ e)
  ·rw [hw] at e; injection e with e; omega
 have hibv : v'.ownBlock ≠ some ib := fun e => by
  rcases hw with hw | hw
  ·have := (hvo ib (hw ▸ e)).2; omega
  ·rw [hw] at e; injection e with e; omega
 have hibrb : ib ≠ rb := by omega
 have hibk : (w5.setCell ⟨rb, 5, none⟩ v').heap[ib]? = W3.heap[ib]? := by
  rw [heap_setCell_other _ ⟨rb, 5, none⟩ ib _ hibrb]
  exact hg.block ib hibl fun e => by have := (hvo ib e.symm).2; omega
 have hlt := h.vol.lt
 refine ⟨⟨?_, ?_, fun j hj => ?_, fun i j hi hj hij => ?_, hv'rb, h.low, ?_⟩, fun w0 hB => (hB.trans ⟨hg.os.trans hb.os, hg.tape.trans hb.tape, hg.output.trans hb.output, Nat.le_trans hb.size hg.size, fun b hb2 => ?_⟩).setCell (p := ⟨rb, 5, none⟩) h.low _⟩
 ·exact (heap_setCell_same w5 rb 5 _ _ v' (hrow5.trans h.row)).trans rfl
 ·rw [List.range_succ, List.map_append, headV_congr (G := G) (G' := updM G k (ib, 0, 1)) (fun j hj => updM_ne _ _ (by omega))]
  have : [k].map (headV (updM G k (ib, 0, 1))) = [.slice (some ⟨ib, 0, none⟩) 1 1] := by simp [headV, updM_same]
  rw [this]
  exact ownsRow_blk hrow fun b hb2 => heap_setCell_other _ ⟨rb, 5, none⟩ b _ fun e => hv'rb (by rw [hb2, e])
 ·by_cases e : j = k
  ·subst e
   rw [updM_same]
   exact ⟨hv.kept hibk, hibv, hibrb⟩
  ·obtain ⟨e1, e2, e3⟩ := h.el j (by omega)
   rw [updM_ne _ _ e]
   have hjl := e1.lt
   refine ⟨e1.kept (hsame _ hjl e2 e3), fun e4 => ?_, e3⟩
   rcases hw with hw | hw
   ·exact e2 (hw ▸ e4)
   ·rw [hw] at e4; injection e4 with e4; omega
 ·by_cases e1 : i = k
  ·subst e1
   rw [updM_same, updM_ne _ _ (fun x => hij x.symm)]
   have := (h.el j (by omega)).1.lt
   show ib ≠ (G j).1
   omega
  ·by_cases e2 : j = k
   ·subst e2
    rw [updM_same, updM_ne _ _ e1]
    have := (h.el i (by omega)).1.lt
    show (G i).1 ≠ ib
    omega
   ·rw [updM_ne _ _ e1, updM_ne _ _ e2]
    exact h.ne i j (by omega) (by omega) hij
 ·refine h.vol.turn (by rw [hsz]; omega) (fun b hb2 hx => hsame b hb2 (fun e => hx (.inr (.inr (.inl e)))) (fun e => hx (.inr (.inl e)))) fun b hb2 => ?_
  rw [hsz]
  rcases hb2 with hb2 | rfl | hb2 | ⟨j, hj, rfl⟩
  ·exact ⟨by have := h.low; omega, .inl (.inl hb2)⟩
  ·exact ⟨by omega, .inl (.inr (.inl rfl))⟩
  ·refine ⟨(ownsRow_lt hrow b hb2).2, ?_⟩
   rcases hw with hw | hw
   ·exact .inl (.inr (.inr (.inl (hw ▸ hb2))))
   ·rw [hw] at hb2; injection hb2 with hb2; exact .inr (by omega)
  ·by_cases e : j = k
   ·subst e
    rw [updM_same]
    exact ⟨by show ib < _; omega, .inr hib⟩
   ·rw [updM_ne _ _ e]
    exact ⟨by have := (h.el j (by omega)).1.lt; omega, .inl (.inr (.inr (.inr ⟨j, by omega, rfl⟩)))⟩
 ·have h1 := h.low
  refine (hg.block b (by omega) fun e => ?_).trans (hb.block b (by omega))
  have := (hvo b e.symm).1
  omega
theorem BegAt.done (h : BegAt w base rb G k v F tv m st lg zs s V) (hk : 0 < k) : ∃ mb cap, RigAt w base rb mb cap G F tv m st lg k s V (fun _ => [zs]) false := by
 obtain ⟨hl, hown⟩ := h.own
 rcases hown with ⟨_, h0⟩ | ⟨g, cap, cur, rfl, hbg, hg, hnc, hcm, hcs, htk⟩
 ·omega
 ·refine ⟨g, cap, h.row, ⟨⟨cur, hg, by rw [hcs, Nat.mul_one], fun j hj => ?_⟩, fun j hj => ?_, h.ne, hbg⟩, ?_, fun hx => ?_, h.low, hnc⟩
  ·rw [Nat.mul_one] at htk
   have h1 : (cur.toList.take k)[j]? = some (headV G j) := by
    rw [htk, List.getElem?_map, List.getElem?_range hj]
    rfl
   rw [List.getElem?_take_of_lt hj, Array.getElem?_toList] at h1
   exact h1
  ·obtain ⟨e1, e2, _⟩ := h.el j hj
   exact ⟨e1, fun e => e2 (by simp [Value.ownBlock, e])⟩
  ·refine h.vol.mono fun b hb => ?_
   rcases hb with hb | hb | hb | hb
   ·exact .inl hb
   ·exact .inr (.inl hb)
   ·exact .inr (.inr (.inl (by simp [Value.ownBlock, hb])))
   ·exact .inr (.inr (.inr hb))
  ·rcases hx with hx | ⟨j, hj, hx⟩
   ·exact h.vrb (by simp [Value.ownBlock, hx])
   ·exact (h.el j hj).2.2 hx.symm
end
end
section
open Go.RowKit
section
variable {w w' : World}
def BeginFull (w : World) (me stp lo : Int) (e : Ending) (w' : World) : Prop :=
 ∃ rb mb cap G F tv m st lg N s V, (e = .returned (.pointer (some ⟨rb, 0, none⟩)) ∧ RigAt w' w.heap.size rb mb cap G F tv m st lg N s V (fun _ => [zeroSec]) false ∧ RigOk s V N (fun _ => [zeroSec]) false (m, st) ∧ N ≤ 1000 ∧ m ≤ 16 ∧ Below w.heap.size w w') ∧
  ((m : Int) = 3 + me % 14 ∧ (st : Int) = 1 + stp % 6 ∧ (lg : Int) = 1 + lo % 8) ∧ 0 ≤ s.count ∧ s.count ≤ 100000 ∧ V.sup = madeSup m st lg ∧ s.stops = false ∧ V.opens = [] ∧ V.used = []
theorem Try.infoBool : (Try.prog.info? 4).map (fun i => (i.zero, i.size, i.bytes)) = some (some (.bool false), 1, 1) := by kernel_rfl
theorem Try.infoStrs : (Try.prog.info? 33).map (fun i => (i.zero, i.size, i.bytes)) = some (some (.slice none 0 0), 1, 24) := by kernel_rfl
theorem made_bools (n : Nat) (hn : n ≤ 100) : ∃ cur : Array Value, ∀ W : World, (Instr.makeSlice 29 (.int .i64 (n : Int)) (.int .i64 (n : Int))).run Try.prog W = .ok (.slice (some ⟨W.heap.size, 0, none⟩) n n) (W.alloc (.cells cur 4)) := by
 obtain ⟨i0, hi0, hz0, hz1, hz2⟩ := info_parts Try.infoBool
 refine ⟨madeCells (Value.bool false).cells (n * 1), fun W => ?_⟩
 have h := run_make (P := Try.prog) (w := W) 29 4 i0 (.bool false) Try.underlying29 hi0 hz0 .i64 .i64 (n : Int) (n : Int) (by omega) (Int.le_refl _) (by rw [hz2]; omega) (by omega)
 simp only [hz1, Int.toNat_natCast] at h
 exact h
set_option maxRecDepth 100000 in
set_option maxHeartbeats 16000000 in
theorem begin_full (me stp lo : Int) (hm0 : -9223372036854775808 ≤ me) (hm1 : me ≤ 9223372036854775807) (hs0 : -9223372036854775808 ≤ stp) (hs1 : stp ≤ 9223372036854775807) (hl0 : -9223372036854775808 ≤ lo) (hl1 : lo ≤ 9223372036854775807) :
  Calls Try.prog 6 #[.int .i64 me, .int .i64 stp, .int .i64 lo] w (BeginFull w me stp lo) := by
 obtain ⟨a, ha⟩ := Int.eq_ofNat_of_zero_le (Int.emod_nonneg me (show (14 : Int) ≠ 0 by omega))
 obtain ⟨b, hb⟩ := Int.eq_ofNat_of_zero_le (Int.emod_nonneg stp (show (6 : Int) ≠ 0 by omega))
 obtain ⟨c, hc⟩ := Int.eq_ofNat_of_zero_le (Int.emod_nonneg lo (show (8 : Int) ≠ 0 by omega))
 have ha14 : a < 14 := by have := Int.emod_lt_of_pos me (show (0 : Int) < 14 by omega); omega
 have hb6 : b < 6 := by have := Int.emod_lt_of_pos stp (show (0 : Int) < 6 by omega); omega
 have hc8 : c < 8 := by have := Int.emod_lt_of_pos lo (show (0 : Int) < 8 by omega); omega
 have hmda := mod08 me 14 w (by omega) (by omega) hm0 hm1
 have hmdb := mod08 stp 6 w (by omega) (by omega) hs0 hs1
 have hmdc := mod08 lo 8 w (by omega) (by omega) hl0 hl1
 rw [ha] at hmda
 rw [hb] at hmdb
 rw [hc] at hmdc
 replace ha := Lib.hid ha
 replace hb := Lib.hid hb
 replace hc := Lib.hid hc
 obtain ⟨m, hm⟩ : ∃ m, m = a + 3 := ⟨_, rfl⟩
 obtain ⟨st, hst⟩ : ∃ st, st = b + 1 := ⟨_, rfl⟩
 obtain ⟨lg, hlg⟩ : ∃ lg, lg = c + 1 := ⟨_, rfl⟩
 obtain ⟨d, hd⟩ : ∃ d, d = m + 1 := ⟨_, rfl⟩
 have hw1 : IntKind.i64.wrap (3 + (a : Int)) = (m : Int) := by rw [IntWalk.i64_in _ (by omega)]; omega
 have hw2 : IntKind.i64.wrap (1 + (b : Int)) = (st : Int) := by rw [IntWalk.i64_in _ (by omega)]; omega
 have hw3 : IntKind.i64.wrap (1 + (c : Int)) = (lg : Int) := by rw [IntWalk.i64_in _ (by omega)]; omega
 have hw4 : IntKind.i64.wrap ((m : Int) + 1) = (d : Int) := by rw [IntWalk.i64_in _ (by omega)]; omega
 have hmb : 3 ≤ m ∧ m ≤ 16 := by omega
 have hsb : 1 ≤ st ∧ st ≤ 6 := by omega
 have hlb : 1 ≤ lg ∧ lg ≤ 8 := by omega
 replace hd := Lib.hid hd
 have hE : Hid ((m : Int) = 3 + me % 14 ∧ (st : Int) = 1 + stp % 6 ∧ (lg : Int) = 1 + lo % 8) := Lib.hid ⟨by have := ha.out; omega, by have := hb.out; omega, by have := hc.out; omega⟩
 clear hm hst hlg ha14 hb6 hc8 ha hb hc
 have hbW := below_made' w (.cells #[.pointer none, .pointer none, .int .i64 (m : Int), .int .i64 (st : Int), .int .i64 (lg : Int), .slice none 0 0, .bool false, .slice none 0 0, .bool false] 31)
 have hbx := heap_alloc_new w (.cells #[.pointer none, .pointer none, .int .i64 (m : Int), .int .i64 (st : Int), .int .i64 (lg : Int), .slice none 0 0, .bool false, .slice none 0 0, .bool false] 31)
 have r2 := cell_of_row _ w.heap.size 2 _ _ _ hbx
 have hrl := lt_of_row hbx
 have hnew := lx_new (X := fun b => b < w.heap.size ∨ b = w.heap.size) (w := w.alloc (.cells #[.pointer none, .pointer none, .int .i64 (m : Int), .int .i64 (st : Int), .int .i64 (lg : Int), .slice none 0 0, .bool false, .slice none 0 0, .bool false] 31)) (fun b hb => by rcases hb with h | rfl <;> omega) d 40 (by have := hd.out; omega) (by have := hd.out; omega) (by omega) (by omega)
 rw [show ((40 : Nat) : Int) = 40 from rfl] at hnew
 replace hbW := Lib.hid hbW
 replace hbx := Lib.hid hbx
 go_enter Try.func6, Try.ntmps6
 go_wp2_with fail
 with_reducible refine hmda.mono ?_
 rintro e wx ⟨rfl, rfl⟩
 clear hmda
 go_wp2_with fail
 with_reducible refine hmdb.mono ?_
 rintro e wx ⟨rfl, rfl⟩
 clear hmdb
 go_wp2_with fail
 with_reducible refine hmdc.mono ?_
 rintro e wx ⟨rfl, rfl⟩
 clear hmdc
 go_wp2_with fail
 with_reducible refine hnew.mono ?_
 rintro e w1 ⟨g, rfl, hS1, hB1⟩
 clear hnew hw1 hw2 hw3 hw4
 have hbW1 := Lib.hid (below_to hbW.out hB1)
 have hbx1 := hrow_keep hbx.out hB1
 have hbo : buildOk (freshSh d 40) (newSup m st lg) = true := by
  have hdl : (freshSh d 40).disks.length = d := by simp [freshSh]
  have hbk : blocksI ((freshSh d 40).sectors : Nat) = 37 := by show blocksI ((40 : Nat) : Int) = 37; decide
  unfold buildOk
  rw [hdl, hbk]
  unfold newSup
  dsimp only
  have := hd.out
  exact decide_eq_true (by omega)
 have hrm : Room 999999900000 (freshSh d 40) := (room_fresh d 40).mono (by omega)
 have hcr := ra_create hS1.drew hrm m st lg hbo
 have hd' := hd.out
 subst hd'
 obtain ⟨hmf, hstp, hsupE, hopn, husd, _⟩ := make_fresh (m + 1) (by omega) (by omega) m st lg hbo
 obtain ⟨hc0, hcM⟩ := begin_count m st lg hmb.1 hmb.2 hsb.1 hsb.2 hlb.1 hlb.2 hbo
 have hX := Lib.hid (And.intro hc0 (And.intro hcM (And.intro hsupE (And.intro hstp (And.intro hopn husd)))))
 clear hstp hsupE hopn husd hc0 hcM
 have hbl := Lib.hid fun hok => begin_live m st lg hmb.1 hmb.2 hsb.1 hsb.2 hlb.1 hlb.2 hbo hok
 generalize volMake (freshSh (m + 1) 40) (volBuild (freshSh (m + 1) 40) (newSup m st lg)) = r at *
 obtain ⟨er, s2, V⟩ := r
 dsimp only at hmf hbl hcr hX
 subst hmf
 have r2 := cell_of_row w1 w.heap.size 2 _ _ _ hbx1
 have r3 := cell_of_row w1 w.heap.size 3 _ _ _ hbx1
 have r4 := cell_of_row w1 w.heap.size 4 _ _ _ hbx1
 have hrl := lt_of_row hbx1
 have hSk : ∀ W, Kept (fun b => b < w.heap.size ∨ b = w.heap.size) w1.drew W → W.cell? ⟨w.heap.size, 2, none⟩ = some (.int .i64 (m : Int)) ∧ W.cell? ⟨w.heap.size, 3, none⟩ = some (.int .i64 (st : Int)) ∧ W.cell? ⟨w.heap.size, 4, none⟩ = some (.int .i64 (lg : Int)) := fun W hk =>
  ⟨(World.cell?_of_block (hk.block _ (.inr rfl))).trans r2, (World.cell?_of_block (hk.block _ (.inr rfl))).trans r3, (World.cell?_of_block (hk.block _ (.inr rfl))).trans r4⟩
 replace hSk := Lib.hid hSk
 replace hbx1 := Lib.hid hbx1
 clear hbo hrm hd hS1 hB1 hbW hbx
 go_wp2_with fail
 refine wp_region_held_drew (S := (fun W => W.cell? ⟨w.heap.size, 2, none⟩ = some (.int .i64 (m : Int)) ∧ W.cell? ⟨w.heap.size, 3, none⟩ = some (.int .i64 (st : Int)) ∧ W.cell? ⟨w.heap.size, 4, none⟩ = some (.int .i64 (lg : Int)))) (by kernel_rfl) ?_ (fun hHeld => ?_)
 ·(try dsimp only)
  exact ⟨r2, r3, r4⟩
 refine tkA 0 ?_
 refine tkA 1 ?_
 refine tkA 2 ?_
 refine tkA 3 ?_
 refine tkA 4 ?_
 refine tkA 5 ?_
 refine tkA 6 ?_
 refine tkA 7 ?_
 refine tkA 8 ?_
 refine tkA 9 ?_
 refine tkA 10 ?_
 refine tkA 11 ?_
 refine tkA 12 ?_
 refine rkA 13 (fun K hK => ?_)
 go_simp
 with_reducible refine hcr.mono ?_
 rintro e w4 ⟨hm4, _, hK4⟩
 obtain ⟨F, rfl, rfl, hV4⟩ := hm4 rfl
 have hS4 := hSk.out w4 hK4
 (try go_wp2_with fail)
 refine hK.out _ _ ?_ (fun hHeld2 => ?_)
 ·(try dsimp only)
  (first | exact hHeld | exact hS4)
 clear hK K
 replace hHeld := hHeld2
 clear hHeld2
 (try simp only [pA, pN, pB, pC, pD])
 refine tkA 14 ?_
 refine tkA 15 ?_
 refine tkA 16 ?_
 refine tkA 17 ?_
 refine tkA 18 ?_
 refine wpAnyH_done (by kernel_rfl) ?_ _
 obtain ⟨hrig, _, hvs, hvm, hvst⟩ := hbl.out hV4.ok
 obtain ⟨q, hq⟩ : ∃ q, m = q + 1 := ⟨m - 1, by omega⟩
 subst hq
 obtain ⟨N, hNe⟩ : ∃ N, N = st * q := ⟨_, rfl⟩
 have hNb : N ≤ 6 * 15 := by rw [hNe]; exact Nat.mul_le_mul hsb.2 (by omega)
 have hN0 : 0 < N := by rw [hNe]; exact Nat.mul_pos (by omega) (by omega)
 simp only [Nat.add_sub_cancel] at hrig hvs
 rw [← hNe] at hrig hvs
 have hw6 : IntKind.i64.wrap ((st : Int) * (q : Int)) = (N : Int) := by rw [← Int.natCast_mul, ← hNe, IntWalk.i64_in _ (by omega)]
 have hbx4 := (hK4.block w.heap.size (.inr rfl)).trans hbx1.out
 have hbW4 := Lib.hid (hbW1.out.trans ((Below.refl _ _).drew.trans (hK4.below (base := w.heap.size) fun b hb => .inl hb)))
 obtain ⟨r2, r3, r4⟩ := hS4
 have hszc := fun n => ra_size (hV4.below (below_drewN (Below.refl _ w4) n))
 simp only [hvs] at hszc
 have hrl := lt_of_row hbx4
 replace hV4 := Lib.hid hV4
 replace hbx4 := Lib.hid hbx4
 replace hrig := Lib.hid hrig
 clear hHeld hcr hSk hbl hm4 hK4 hbx1 hbW1 hNe hvs hvm hvst
 go_wp2_with fail
 go_quiet (first | with_reducible exact Calls.quiet_of (hszc _))
 have hb5 := below_drewN (Below.refl w4.heap.size w4) nq
 have hV5 := hV4.out.below hb5
 have hbx5 : (w4.drewN nq).heap[w.heap.size]? = _ := hbx4.out
 have hbW5 : Below w.heap.size w (w4.drewN nq) := below_drewN hbW4.out nq
 clear hszc r2 r3 r4 hrl hV4 hbx4 hbW4 hb5
 generalize w4.drewN nq = w5 at *
 have c0 := cell_of_row w5 w.heap.size 0 _ _ _ hbx5
 have c1 := cell_of_row w5 w.heap.size 1 _ _ _ hbx5
 have c3 := cell_of_row w5 w.heap.size 3 _ _ _ hbx5
 have c7 := cell_of_row w5 w.heap.size 7 _ _ _ hbx5
 have cf := fun j => frozen_of_row w5 w.heap.size j _ _ hbx5
 have hrl := lt_of_row hbx5
 obtain ⟨cur, hmk⟩ := made_bools st (by omega)
 replace hV5 := Lib.hid hV5
 replace hbx5 := Lib.hid hbx5
 replace hbW5 := Lib.hid hbW5
 have hl1 := heap_setCell_same w5 w.heap.size 0 _ _ (Value.pointer (some ⟨F.g, 0, none⟩)) hbx5.out
 have hl2 := heap_setCell_same _ w.heap.size 1 _ _ (Value.pointer (some ⟨F.v, 0, none⟩)) hl1
 have hl3 := heap_setCell_same _ w.heap.size 7 _ _ (Value.slice (some ⟨w5.heap.size, 0, none⟩) st st) hl2
 obtain ⟨zs, hzs⟩ : ∃ zs, zs = zeroSec := ⟨_, rfl⟩
 have hBeg0 : BegAt ((((w5.setCell ⟨w.heap.size, 0, none⟩ (.pointer (some ⟨F.g, 0, none⟩))).setCell ⟨w.heap.size, 1, none⟩ (.pointer (some ⟨F.v, 0, none⟩))).setCell ⟨w.heap.size, 7, none⟩ (.slice (some ⟨w5.heap.size, 0, none⟩) st st)).alloc (.cells cur 4)) w.heap.size w.heap.size (fun _ => (0, 0, 0)) 0 (.slice none 0 0) F (.slice (some ⟨w5.heap.size, 0, none⟩) st st) (q + 1) st lg zs s2 V := by
  refine ⟨(heap_alloc_old _ _ (lt_of_row hl3)).trans (hl3.trans rfl), World.ownsRow_nil _ _ _ _, (fun j hj => absurd hj (by omega)), (fun i j hi => absurd hi (by omega)), (fun e => by cases e), Nat.le_refl _, ?_⟩
  have hsz : (((w5.setCell ⟨w.heap.size, 0, none⟩ (.pointer (some ⟨F.g, 0, none⟩))).setCell ⟨w.heap.size, 1, none⟩ (.pointer (some ⟨F.v, 0, none⟩))).setCell ⟨w.heap.size, 7, none⟩ (.slice (some ⟨w5.heap.size, 0, none⟩) st st)).heap.size = w5.heap.size := by simp [World.setCell]
  have h1 := hV5.out.other (w' := (((w5.setCell ⟨w.heap.size, 0, none⟩ (.pointer (some ⟨F.g, 0, none⟩))).setCell ⟨w.heap.size, 1, none⟩ (.pointer (some ⟨F.v, 0, none⟩))).setCell ⟨w.heap.size, 7, none⟩ (.slice (some ⟨w5.heap.size, 0, none⟩) st st))) (Nat.le_of_eq hsz.symm) fun b _ hn => by
   have hne : b ≠ w.heap.size := fun e => hn (.inr e)
   rw [heap_setCell_other _ ⟨w.heap.size, 7, none⟩ b _ hne, heap_setCell_other _ ⟨w.heap.size, 1, none⟩ b _ hne, heap_setCell_other _ ⟨w.heap.size, 0, none⟩ b _ hne]
  exact (h1.alloc _).mono fun b hb => by
   rcases hb with hb | hb | hb | ⟨j, hj, _⟩
   ·exact .inl hb
   ·exact .inr hb
   ·cases hb
   ·omega
 have hBel0 : Below w.heap.size w ((((w5.setCell ⟨w.heap.size, 0, none⟩ (.pointer (some ⟨F.g, 0, none⟩))).setCell ⟨w.heap.size, 1, none⟩ (.pointer (some ⟨F.v, 0, none⟩))).setCell ⟨w.heap.size, 7, none⟩ (.slice (some ⟨w5.heap.size, 0, none⟩) st st)).alloc (.cells cur 4)) :=
  (((hbW5.out.setCell (p := ⟨w.heap.size, 0, none⟩) (Nat.le_refl _) _).setCell (p := ⟨w.heap.size, 1, none⟩) (Nat.le_refl _) _).setCell (p := ⟨w.heap.size, 7, none⟩) (Nat.le_refl _) _).alloc (by simp [World.setCell]; have := hbW5.out.size; omega) _
 have hmz := made_zero
 rw [← hzs] at hmz
 have hzl : zs.length = 128 := by rw [hzs]; simp [zeroSec]
 have hms : Hid (∀ W : World, (convert 32 9 (.slice (some ⟨W.heap.size, 0, none⟩) 128 128)).run Try.prog (W.alloc (.cells (bVs zs).toArray 5)).drew = .ok (.string ⟨zs.toArray⟩) (W.alloc (.cells (bVs zs).toArray 5)).drew) := Lib.hid fun W =>
  run_string_rd (P := Try.prog) _ 32 9 5 Try.underlying32 Try.underlying5 Try.underlying9 _ 128 128 zs (Rd.lit W 5 zs (by rw [hzl]; omega)) hzl
 replace hBeg0 := Lib.hid hBeg0
 replace hBel0 := Lib.hid hBel0
 replace hzs := Lib.hid hzs
 clear hl1 hl2 hl3 hzl hV5 hbx5 hbW5
 go_wp2_with fail
 generalize ((((w5.setCell ⟨w.heap.size, 0, none⟩ (.pointer (some ⟨F.g, 0, none⟩))).setCell ⟨w.heap.size, 1, none⟩ (.pointer (some ⟨F.v, 0, none⟩))).setCell ⟨w.heap.size, 7, none⟩ (.slice (some ⟨w5.heap.size, 0, none⟩) st st)).alloc (.cells cur 4)) = w6 at *
 generalize Value.slice (some ⟨w5.heap.size, 0, none⟩) st st = tv at *
 clear c0 c1 c3 c7 cf hrl hmk
 go_loopw [11] (fun p wr => ∃ (k : Nat) (v : Value) (G : Nat → Nat × Nat × Nat), p = .int .i64 k ∧ k ≤ N ∧ Hid (BegAt wr w.heap.size w.heap.size G k v F tv (q + 1) st lg zs s2 V) ∧ Hid (Below w.heap.size w wr))
  (fun p _ => N - (intOf p).toNat)
 case atStart => exact ⟨0, _, _, by go_num, by omega, hBeg0, hBel0⟩
 case round =>
  clear hBeg0 hBel0
  obtain ⟨k, v, G, rfl, hk, hBeg, hBel⟩ := hrel
  have hsz := ra_size hBeg.out.vol
  rw [show V.size = N from hrig.out.size.symm] at hsz
  by_cases hkN : k < N
  ·go_wp2_with fail
   with_reducible refine hsz.mono ?_
   rintro e wx ⟨rfl, j, rfl⟩
   have hbj := below_drewN (Below.refl wr.heap.size wr) j
   have hB1 : BegAt (wr.drewN j) w.heap.size w.heap.size G k v F tv (q + 1) st lg zs s2 V := by
    have h := hBeg.out
    exact ⟨h.row, h.own, h.el, h.ne, h.vrb, h.low, h.vol.below hbj⟩
   have hBel1 : Below w.heap.size w (wr.drewN j) := below_drewN hBel.out j
   clear hsz hBeg hBel hbj
   generalize wr.drewN j = W0 at *
   have r5 := cell_of_row W0 w.heap.size 5 _ _ _ hB1.row
   have f5 := frozen_of_row W0 w.heap.size 5 _ _ hB1.row
   have hrl := lt_of_row hB1.row
   simp only [begR] at r5
   have hms0 := hms.out W0
   have hb1 : Below W0.heap.size W0 (W0.alloc (.cells (bVs zs).toArray 5)) := below_made' _ _
   have hb2 : Below W0.heap.size W0 ((W0.alloc (.cells (bVs zs).toArray 5)).alloc (.cells #[.string ⟨zs.toArray⟩] 9)) := hb1.trans ((below_made' _ _).mono (by simp))
   have hb3 : Below W0.heap.size W0 (((W0.alloc (.cells (bVs zs).toArray 5)).alloc (.cells #[.string ⟨zs.toArray⟩] 9)).alloc (.cells #[.slice (some ⟨W0.heap.size + 1, 0, none⟩) 1 1] 33)).drew := (hb2.trans ((below_made' _ _).mono (by simp; omega))).drew
   have hS1 : (W0.alloc (.cells (bVs zs).toArray 5)).drew.cell? ⟨w.heap.size, 5, none⟩ = some v := (hb1.cell hrl).trans r5
   have hS2 : ((W0.alloc (.cells (bVs zs).toArray 5)).alloc (.cells #[.string ⟨zs.toArray⟩] 9)).drew.cell? ⟨w.heap.size, 5, none⟩ = some v := (hb2.cell hrl).trans r5
   have hS3 : (((W0.alloc (.cells (bVs zs).toArray 5)).alloc (.cells #[.string ⟨zs.toArray⟩] 9)).alloc (.cells #[.slice (some ⟨W0.heap.size + 1, 0, none⟩) 1 1] 33)).drew.cell? ⟨w.heap.size, 5, none⟩ = some v := (hb3.cell hrl).trans r5
   have hs1 : (W0.alloc (.cells (bVs zs).toArray 5)).heap.size = W0.heap.size + 1 := World.size_alloc _ _
   have hs2 : ((W0.alloc (.cells (bVs zs).toArray 5)).alloc (.cells #[.string ⟨zs.toArray⟩] 9)).heap.size = W0.heap.size + 2 := by rw [World.size_alloc, hs1]
   have hs3 : (((W0.alloc (.cells (bVs zs).toArray 5)).alloc (.cells #[.string ⟨zs.toArray⟩] 9)).alloc (.cells #[.slice (some ⟨W0.heap.size + 1, 0, none⟩) 1 1] 33)).drew.heap.size = W0.heap.size + 3 := (World.size_alloc _ _).trans (by rw [hs2])
   have hv3 : VlAt (((W0.alloc (.cells (bVs zs).toArray 5)).alloc (.cells #[.string ⟨zs.toArray⟩] 9)).alloc (.cells #[.slice (some ⟨W0.heap.size + 1, 0, none⟩) 1 1] 33)).drew 9 w.heap.size (W0.heap.size + 1) 0 1 [strV zs] := by
    have h := VlAt.lit (W := W0.alloc (.cells (bVs zs).toArray 5)) (E := 9) (base := w.heap.size) (strV zs) (by rw [hs1]; omega)
    rw [hs1] at h
    exact h.kept (heap_alloc_old _ _ (by rw [hs2]; omega))
   have hus : RdV (((W0.alloc (.cells (bVs zs).toArray 5)).alloc (.cells #[.string ⟨zs.toArray⟩] 9)).alloc (.cells #[.slice (some ⟨W0.heap.size + 1, 0, none⟩) 1 1] 33)).drew (some ⟨W0.heap.size + 2, 0, none⟩) [.slice (some ⟨W0.heap.size + 1, 0, none⟩) 1 1] := by
    have h := RdV.lit ((W0.alloc (.cells (bVs zs).toArray 5)).alloc (.cells #[.string ⟨zs.toArray⟩] 9)) 33 [.slice (some ⟨W0.heap.size + 1, 0, none⟩) 1 1] (by simp)
    rw [hs2] at h
    exact h
   have hrow3 := ownsRow_below hB1.own hb3
   have hvrb := hB1.vrb
   replace hv3 := Lib.hid hv3
   replace hus := Lib.hid hus
   replace hrow3 := Lib.hid hrow3
   replace hB1 := Lib.hid hB1
   replace hBel1 := Lib.hid hBel1
   go_wp2_with fail
   refine wp_region_held_tail (S := (fun W => W.cell? ⟨w.heap.size, 5, none⟩ = some v)) 12 (by kernel_rfl) (by decide) ?_ (fun hHeld => ?_)
   ·(try dsimp only)
    exact r5
   refine tkT 0 ?_
   refine tkT 1 ?_
   refine tkT 2 ?_
   refine tkT 3 ?_
   refine tkT 4 ?_
   refine rkT 5 (fun K hK => ?_)
   go_simp
   refine hK.out _ _ ?_ (fun hHeld2 => ?_)
   ·(try dsimp only)
    (first | exact hHeld | exact hS1 | exact hS2 | exact hS3 | exact hS5)
   clear hK K
   replace hHeld := hHeld2
   clear hHeld2
   (try simp only [pA, pN, pB, pC, pD])
   refine rkT 6 (fun K hK => ?_)
   go_simp
   refine hK.out _ _ ?_ (fun hHeld2 => ?_)
   ·(try dsimp only)
    (first | exact hHeld | exact hS1 | exact hS2 | exact hS3 | exact hS5)
   clear hK K
   replace hHeld := hHeld2
   clear hHeld2
   (try simp only [pA, pN, pB, pC, pD])
   refine rkT 7 (fun K hK => ?_)
   go_simp
   refine hK.out _ _ ?_ (fun hHeld2 => ?_)
   ·(try dsimp only)
    (first | exact hHeld | exact hS1 | exact hS2 | exact hS3 | exact hS5)
   clear hK K
   replace hHeld := hHeld2
   clear hHeld2
   (try simp only [pA, pN, pB, pC, pD])
   refine rkT 8 (fun K hK => ?_)
   go_simp
   refine hK.out _ _ ?_ (fun hHeld2 => ?_)
   ·(try dsimp only)
    (first | exact hHeld | exact hS1 | exact hS2 | exact hS3 | exact hS5)
   clear hK K
   replace hHeld := hHeld2
   clear hHeld2
   (try simp only [pA, pN, pB, pC, pD])
   refine rkT 9 (fun K hK => ?_)
   refine step_append_at (by rfl) _ _ 26 rfl w.heap.size 33 _ 1 24 Try.underlying26 Try.infoStrs rfl (by omega) v k ((List.range k).map (headV G)) [.slice (some ⟨W0.heap.size + 1, 0, none⟩) 1 1] (some ⟨W0.heap.size + 2, 0, none⟩) 1 1 rfl rfl hrow3.out hus.out (by simp [Value.oneCell']) rfl (by simp only [maxLen]; omega) (by omega) (by omega) ?_
   intro v5 w5 hrow5 hg5 hw5
   obtain ⟨A5, c5, rfl, _, _⟩ := ownsRow_form hrow5
   have hS5 : w5.cell? ⟨w.heap.size, 5, none⟩ = some v := (World.cell?_of_block (hg5.block w.heap.size (by omega) (fun e => hvrb e.symm))).trans hS3
   refine hK.out _ _ ?_ (fun hHeld2 => ?_)
   ·(try dsimp only)
    (first | exact hHeld | exact hS1 | exact hS2 | exact hS3 | exact hS5)
   clear hK K
   replace hHeld := hHeld2
   clear hHeld2
   (try simp only [pA, pN, pB, pC, pD])
   refine tkT 10 ?_
   refine tkT 11 ?_
   refine wt_tail (by kernel_rfl) ?_
   simp only [List.drop_succ_cons, List.drop_zero]
   have hr3 : (((W0.alloc (.cells (bVs zs).toArray 5)).alloc (.cells #[.string ⟨zs.toArray⟩] 9)).alloc (.cells #[.slice (some ⟨W0.heap.size + 1, 0, none⟩) 1 1] 33)).drew.heap[w.heap.size]? = W0.heap[w.heap.size]? := hb3.block w.heap.size hrl
   have hr5 : w5.heap[w.heap.size]? = W0.heap[w.heap.size]? := (hg5.block w.heap.size (by omega) (fun e => hvrb e.symm)).trans hr3
   have hf5 : w5.frozen? ⟨w.heap.size, 5, none⟩ = false := (World.frozen?_of_block hr5).trans f5
   have hrl5 : w.heap.size < w5.heap.size := by have := hg5.size; omega
   obtain ⟨hBeg2, hBk⟩ := hB1.out.step hb3 (ib := W0.heap.size + 1) (by omega) hv3.out hrow5 hg5 hw5
   have hBel2 := Lib.hid (hBk w hBel1.out)
   replace hBeg2 := Lib.hid hBeg2
   clear hHeld hms0 hb1 hb2 hb3 hS1 hS2 hS3 hs1 hs2 hs3 hv3 hus hrow3 hB1 hBel1 hrow5 hg5 hw5 hr3 hr5 hBk
   go_wp2
   go_roundw
   case rel =>
    (repeat apply Exists.intro)
    exact ⟨⟨k + 1, _, _, by go_num, by omega, hBeg2, hBel2⟩, rfl⟩
   case measure => simp [intOf]; omega
  ·obtain rfl : k = N := by omega
   have hfin : ∀ j, BeginFull w me stp lo (.returned (.pointer (some ⟨w.heap.size, 0, none⟩))) (wr.drewN j) := fun j => by
    have hbj := below_drewN (Below.refl wr.heap.size wr) j
    obtain ⟨mb, cap, hR⟩ := hBeg.out.done hN0
    rw [hzs.out] at hR
    exact ⟨w.heap.size, mb, cap, G, F, tv, q + 1, st, lg, k, s2, V, ⟨rfl, hR.below hbj, hrig.out, by omega, by omega, below_drewN hBel.out j⟩, hE.out, hX.out⟩
   replace hfin := Lib.hid hfin
   clear hBeg hBel hrig
   go_wp2_with fail
   with_reducible refine hsz.mono ?_
   rintro e wx ⟨rfl, j, rfl⟩
   replace hfin := Lib.hid (hfin.out j)
   clear hsz
   go_wp2_with fail
   go_ret
   exact hfin.out
end
end
section
open Go.RowKit
section
variable {base rb mb cap N m st lg K : Nat} {G : Nat → Nat × Nat × Nat} {F F' : VolF} {tv : Value} {w w' : World} {s s' : ShM} {V V' : VolM} {L : Nat → List Bytes} {killed : Bool}
end
end
end Go.Proofs.Ytajnlhalanhicaa

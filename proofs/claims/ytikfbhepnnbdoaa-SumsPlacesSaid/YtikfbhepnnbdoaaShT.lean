/-
  slices.Backward over the writes that wait: the iterator's contract.
-/
import Derived.RangeFuncNested
import Derived.RangeFuncBound
import Derived.RangeFuncCalls
import Derived.RangeFuncLeaves
import Derived.Shelf.Abstract
import Derived.Shelf.RegionOpen
import Derived.WalkKit
import Derived.OwnWalkIn
import Derived.TacticsInMore
import Derived.LoopNIn
import Derived.LoopIn
import Derived.Test.YtikfbhepnnbdoaaShR
namespace Go.Proofs.Ytikfbhepnnbdoaa
set_option linter.all false
open Go.RowKit Go.Shelf

attribute [local go_sem] Oper.semAt_some

/-- what has come when k rounds are over -/
def upto {α : Type} (f : Nat → α) (k : Nat) : List α := (List.range k).map f
theorem upto_succ {α : Type} (f : Nat → α) (k : Nat) : upto f (k + 1) = upto f k ++ [f k] := by simp [upto, List.range_succ]
theorem upto_length {α : Type} (f : Nat → α) (k : Nat) : (upto f k).length = k := by simp [upto]

abbrev Back := Nat × (Nat × Bytes)
/-- the k-th from behind -/
def backF (ws : List (Nat × Bytes)) (k : Nat) : Back := (ws.length - 1 - k, ws.getD (ws.length - 1 - k) (0, []))
def backE (x : Back) : Array Value := #[.int .i64 (x.1 : Int), .agg #[.int .i64 (x.2.1 : Int), .string ⟨x.2.2.toArray⟩]]

/-- nothing below n₀, nor block Bs, has turned -/
def KB (n₀ Bs : Nat) (A B : World) : Prop := Below n₀ A B ∧ B.heap[Bs]? = A.heap[Bs]?
theorem KB.refl (n₀ Bs : Nat) (A : World) : KB n₀ Bs A A := ⟨Below.refl _ _, rfl⟩
theorem KB.trans {n₀ Bs : Nat} {A B C : World} (h : KB n₀ Bs A B) (k : KB n₀ Bs B C) : KB n₀ Bs A C := ⟨h.1.trans k.1, k.2.trans h.2⟩

set_option maxRecDepth 100000 in
set_option maxHeartbeats 2000000 in
theorem back1_in (F : Fence) (n : Nat) (hF : F.fn 56) (hro : F.round = none) (hn : 1 ≤ n) (l Bs n₀ b cap : Nat) (ws : List (Nat × Bytes)) (len : Nat) (hlen0 : ws.length = len) (hreach : len ≤ 1000000000000) (hb : b < n₀) (J Jx : List Back → World → Prop)
    (hY : ∀ pre x W, J pre W → pre.length < len → YieldAt F (n - 1) Try.prog l (backE x) W fun e W' =>
      (e = .returned (.bool true) ∧ J (pre ++ [x]) W' ∧ KB n₀ Bs W W') ∨ (e = .returned (.bool false) ∧ Jx (pre ++ [x]) W'))
    (W : World) (hBs : W.cell? ⟨Bs, 0, none⟩ = some (.slice (some ⟨b, 0, none⟩) len cap)) (hc : ∀ j, j < len → W.cell? ⟨b, j * 2, none⟩ = some (.int .i64 ((ws.getD j (0, [])).1 : Int)) ∧ W.cell? ⟨b, j * 2 + 1, none⟩ = some (.string ⟨(ws.getD j (0, [])).2.toArray⟩)) (h0 : J [] W) :
    CallsIn F n Try.prog 56 #[.func (.yield l) #[] #[], .pointer (some ⟨Bs, 0, none⟩)] W fun e W' => (∃ v, e = .returned v) ∧
      ((∃ ys, ys = upto (backF ws) len ∧ J ys W') ∨ (∃ pre, (∃ k, k ≤ len ∧ pre = upto (backF ws) k) ∧ Jx pre W')) := by
  refine callsIn_of_wp Try.func56 rfl hF ?_ hro
  simp only [Try.ntmps56, List.size_toArray, List.length_cons, List.length_nil, Nat.reduceAdd, Nat.reduceSub, Array.replicate_succ, Array.replicate_zero, List.push_toArray, List.append_toArray, List.nil_append, List.cons_append]
  have hlen := Lib.hid hlen0
  clear hlen0
  gi_wp2
  gi_loopw [3] (fun i wr => ∃ k : Nat, k ≤ len ∧ i = .int .i64 ((len : Int) - 1 - k) ∧ J (upto (backF ws) k) wr ∧ KB n₀ Bs W wr)
    (fun i _ => (intOf i + 1).toNat)
  case atStart => exact ⟨0, Nat.zero_le _, by simp, h0, KB.refl _ _ _⟩
  case round =>
    obtain ⟨k, hk, rfl, hJs, hnx⟩ := hrel
    have hBs2 := (World.cell?_of_block hnx.2 (a := ⟨Bs, 0, none⟩)).trans hBs
    by_cases hlt : k < len
    · obtain ⟨m, hm⟩ : ∃ m, len = m + 1 + k := ⟨len - 1 - k, by omega⟩
      have hml : m < len := by omega
      have hmi : (len : Int) - 1 - k = (m : Int) := by omega
      have hx0 := (hnx.1.cell (p := ⟨b, m * 2, none⟩) hb).trans (hc m hml).1
      have hx1 := (hnx.1.cell (p := ⟨b, m * 2 + 1, none⟩) hb).trans (hc m hml).2
      have hbf : backF ws k = (m, ((ws.getD m (0, [])).1, (ws.getD m (0, [])).2)) := by
        have e : ws.length - 1 - k = m := by rw [hlen.out]; omega
        simp only [backF, e]
      rw [hmi]
      obtain ⟨fn, tmps, assign, body, hy, hR⟩ := hY _ (m, ((ws.getD m (0, [])).1, (ws.getD m (0, [])).2)) wr hJs (by rw [upto_length]; exact hlt)
      replace hbf := Lib.hid hbf
      simp only [backE] at hy
      generalize (ws.getD m (0, [])).1 = n1 at *
      generalize (ws.getD m (0, [])).2 = b1 at *
      have hmlt : (m : Int) < (len : Int) := by omega
      have hlb := World.block_lt_of_cell? wr _ hx0
      have hm2 : (m : Int) - 1 = (len : Int) - 1 - ((k + 1 : Nat) : Int) := by omega
      have hm3 : ((m : Int) - 1 + 1).toNat < ((m : Int) + 1).toNat := by omega
      replace hm2 := Lib.hid hm2
      replace hm3 := Lib.hid hm3
      replace hm := Lib.hid hm
      replace hmi := Lib.hid hmi
      gi_wp2
      refine hR.mono ?_
      rintro e W3 (⟨rfl, hJ3, hk3⟩ | ⟨rfl, hJx3⟩)
      · gi_wp2
        go_roundw
        case rel => exact ⟨k + 1, by omega, by rw [← hm2.out], by rw [upto_succ, hbf.out]; exact hJ3, hnx.trans hk3⟩
        case measure => simpa [intOf] using hm3.out
      · gi_wp2
        refine bodyPost_ret (results_none rfl _ _ _) rfl ?_
        exact ⟨⟨_, rfl⟩, .inr ⟨_, ⟨k + 1, by omega, by rw [upto_succ, hbf.out]⟩, hJx3⟩⟩
    · obtain rfl : k = len := by omega
      have hmi : (k : Int) - 1 - k = -1 := by omega
      rw [hmi]
      replace hmi := Lib.hid hmi
      gi_wp2
      go_end0
      exact ⟨⟨_, rfl⟩, .inl ⟨_, rfl, hJs⟩⟩

/-- the slice value v holds the writes ws, in a block below n₀ -/
def Waits (n₀ : Nat) (W : World) (b cap : Nat) (ws : List (Nat × Bytes)) : Prop :=
  b < n₀ ∧ ∀ j, j < ws.length → W.cell? ⟨b, j * 2, none⟩ = some (.int .i64 ((ws.getD j (0, [])).1 : Int)) ∧ W.cell? ⟨b, j * 2 + 1, none⟩ = some (.string ⟨(ws.getD j (0, [])).2.toArray⟩)
theorem Waits.below {n₀ : Nat} {A B : World} (h : Below n₀ A B) {b cap : Nat} {ws : List (Nat × Bytes)} (hw : Waits n₀ A b cap ws) : Waits n₀ B b cap ws :=
  ⟨hw.1, fun j hj => ⟨(h.cell (p := ⟨b, j * 2, none⟩) hw.1).trans (hw.2 j hj).1, (h.cell (p := ⟨b, j * 2 + 1, none⟩) hw.1).trans (hw.2 j hj).2⟩⟩

set_option maxHeartbeats 1000000 in
theorem back_in (F : Fence) (n : Nat) (h5 : F.fn 45) (hro : F.round = none) (a : Option Addr) (len cap : Nat) (w : World) :
    CallsIn F n Try.prog 45 #[.slice a len cap] w fun e w' => e = .returned (.func (.func 56) #[] #[.pointer (some ⟨w.heap.size, 0, none⟩)]) ∧ w' = w.alloc (.cells #[.slice a len cap] 72) := by
  refine callsIn_of_wp Try.func45 rfl h5 ?_ hro
  simp only [Try.ntmps45, List.size_toArray, List.length_cons, List.length_nil, Nat.reduceAdd, Nat.reduceSub, Array.replicate_succ, Array.replicate_zero, List.push_toArray, List.append_toArray, List.nil_append, List.cons_append]
  gi_wp2
  go_ret
  exact ⟨rfl, rfl⟩

theorem back_stops (F : Fence) (n : Nat) (hF : F.fn 56) (hro : F.round = none) (hn : 1 ≤ n) (Bs n₀ b cap : Nat) (ws : List (Nat × Bytes)) (hreach : ws.length ≤ 1000000000000) (w : World) (hBs : Bs < w.heap.size) (hn₀ : n₀ ≤ w.heap.size)
    (hc : w.cell? ⟨Bs, 0, none⟩ = some (.slice (some ⟨b, 0, none⟩) ws.length cap)) (hI : Waits n₀ w b cap ws) :
    SeqStopsK F n Try.prog 56 #[.pointer (some ⟨Bs, 0, none⟩)] backE (KB n₀ Bs) (fun ys => ys = upto (backF ws) ws.length) (fun pre => ∃ k, k ≤ ws.length ∧ pre = upto (backF ws) k) ws.length w := fun l J Jx W hW _ _ hY h0 => by
  have hc' := (hW.cell (p := ⟨Bs, 0, none⟩) hBs).trans hc
  have hI' := hI.below (hW.mono hn₀)
  exact back1_in F n hF hro hn l Bs n₀ b cap ws ws.length rfl hreach hI.1 J Jx hY W hc' hI'.2 h0
end Go.Proofs.Ytikfbhepnnbdoaa

/-
 THE WALK of super.Decode.
-/
import Derived.Test.YtajnlhalanhicaaSupX
import Derived.Handy
namespace Go.Proofs.Ytajnlhalanhicaa
set_option linter.all false
set_option maxRecDepth 20000
open Go.RowKit
def fld (bs : List UInt8) (a n : Nat) : Nat := leNum ((bs.drop a).take n)
def spareI (q : Nat) : Int := if q = 255 then -1 else (q : Int)
def parseS (bs : List UInt8) : Sup :=
 { gen := (fld bs 4 8 : Nat), members := (fld bs 12 1 : Nat), disk := (fld bs 13 1 : Nat), logs := (fld bs 14 1 : Nat), spare := spareI (fld bs 15 1), stripes := (fld bs 16 4 : Nat), mark := (fld bs 20 4 : Nat), cursor := (fld bs 24 4 : Nat) }
def decOK (bs : List UInt8) : Bool := decide (bs.length = 128) && (rightB (parseS bs) && decide (supBytes (parseS bs) = bs))
def noSup : Sup := ⟨0, 0, 0, 0, 0, 0, 0, 0⟩
def decS (bs : List UInt8) : Sup := if decOK bs then parseS bs else noSup
def decE (bs : List UInt8) : Int := if decOK bs then 0 else 8
def DecPost (w : World) (bs : List UInt8) (e : Ending) (w' : World) : Prop := e = .returned (.tuple #[(.agg #[.int .i64 ((decS bs)).gen, .int .i64 ((decS bs)).members, .int .i64 ((decS bs)).disk, .int .i64 ((decS bs)).stripes, .int .i64 ((decS bs)).logs, .int .i64 ((decS bs)).spare, .int .i64 ((decS bs)).mark, .int .i64 ((decS bs)).cursor]), .int .i64 (decE bs)]) ∧ Below w.heap.size w w'
theorem decS_bad {bs : List UInt8} (h : decOK bs = false) : decS bs = noSup := by unfold decS; rw [h]; rfl
theorem decE_bad {bs : List UInt8} (h : decOK bs = false) : decE bs = 8 := by unfold decE; rw [h]; rfl
theorem decS_ok {bs : List UInt8} (h : decOK bs = true) : decS bs = parseS bs := by unfold decS; rw [h]; rfl
theorem decE_ok {bs : List UInt8} (h : decOK bs = true) : decE bs = 0 := by unfold decE; rw [h]; rfl
theorem Own.cap {w : World} {E base n c : Nat} {A : Option Addr} {bs : List UInt8} (h : Own w E base (.slice A n c) bs) : n ≤ c := by
 rcases h.2 with ⟨h1, h2⟩ | ⟨g, cap, cur, h1, _, _, h3, _⟩
 ·injection h1 with e1 e2 e3
  omega
 ·injection h1 with e1 e2 e3
  omega
theorem dec_magic {bs : List UInt8} (h : decOK bs = true) : bs.take 4 = magicL := by
 unfold decOK at h
 simp only [Bool.and_eq_true, decide_eq_true_eq] at h
 rw [← h.2.2]
 rfl
set_option maxRecDepth 100000 in
set_option maxHeartbeats 2000000 in
theorem dec_short (A : Option Addr) (L c : Nat) (bs : List UInt8) (w : World) (hL : bs.length = L) (_hmax : L ≤ 9223372036854775807) (h : L ≠ 128) :
  Calls Try.prog 89 #[.slice A L c] w (DecPost w bs) := by
 have hk : decOK bs = false := by unfold decOK; simp; intro h2; omega
 unfold DecPost
 rw [decS_bad hk, decE_bad hk]
 have hne : ((L : Int) != 128) = true := by rw [bne_iff_ne]; omega
 clear hk hL
 go_enter Try.func89, Try.ntmps89
 go_wp2_with fail
 go_returns
 exact ⟨rfl, (Below.refl _ _).alloc (Nat.le_refl _) _⟩
set_option maxRecDepth 100000 in
set_option maxHeartbeats 2000000 in
theorem dec_nomagic (A : Option Addr) (c : Nat) (bs : List UInt8) (w : World) (hr : Rd w A bs) (hL : bs.length = 128) (hc : 128 ≤ c) (h : bs.take 4 ≠ magicL) :
  Calls Try.prog 89 #[.slice A 128 c] w (DecPost w bs) := by
 have hk : decOK bs = false := by
  cases hd : decOK bs with
  | false => rfl
  | true => exact absurd (dec_magic hd) h
 unfold DecPost
 rw [decS_bad hk, decE_bad hk]
 obtain ⟨ad, rfl⟩ := hr.some_ (i := 0) (by omega)
 have hr4 : Rd (w.alloc (.cells #[.int .i64 0, .int .i64 0, .int .i64 0, .int .i64 0, .int .i64 0, .int .i64 0, .int .i64 0, .int .i64 0] 53)) (some ad) (bs.take 4) := by
  have h0 := hr.alloc (.cells #[.int .i64 0, .int .i64 0, .int .i64 0, .int .i64 0, .int .i64 0, .int .i64 0, .int .i64 0, .int .i64 0] 53)
  refine ⟨by have := h0.1; simp; omega, (fun e => by cases e), fun a e i hi => ?_⟩
  injection e with e
  subst e
  have := h0.cell i (by simp at hi; omega)
  rw [this]
  simp
 have hs := fun cc => run_string_rd (P := Try.prog) _ 32 9 5 Try.underlying32 Try.underlying5 Try.underlying9 (some ad) 4 cc _ hr4 (by simp; omega)
 have hne : (bs.take 4 == [65, 83, 72, 76]) = false := by
  rw [beq_eq_false_iff_ne]
  exact h
 generalize bs.take 4 = b4 at *
 clear hk hL h hr4 hr
 go_enter Try.func89, Try.ntmps89
 go_wp2_with fail
 go_returns
 exact ⟨rfl, (Below.refl _ _).alloc (Nat.le_refl _) _⟩
def fv (bs : List UInt8) (j : Nat) : Nat := fld bs (atL.getD j 0) (sizeL.getD j 0)
def xsR (bs : List UInt8) (k : Nat) : Array Value := ((List.range 8).map fun j => Value.int .i64 (if j < k then (fv bs j : Int) else 0)).toArray
theorem xsR_set (bs : List UInt8) (k : Nat) (hk : k < 8) : (xsR bs k).setIfInBounds k (.int .i64 (fv bs k : Nat)) = xsR bs (k + 1) := by
 have h8 : k = 0 ∨ k = 1 ∨ k = 2 ∨ k = 3 ∨ k = 4 ∨ k = 5 ∨ k = 6 ∨ k = 7 := by omega
 rcases h8 with rfl | rfl | rfl | rfl | rfl | rfl | rfl | rfl <;> rfl
theorem fv_small (bs : List UInt8) (k : Nat) (hk : 0 < k) (h8 : k < 8) : fv bs k < 4294967296 := by
 have h := leNum_lt ((bs.drop (atL.getD k 0)).take (sizeL.getD k 0))
 have hs : sizeL.getD k 0 ≤ 4 := by
  have h8 : k = 1 ∨ k = 2 ∨ k = 3 ∨ k = 4 ∨ k = 5 ∨ k = 6 ∨ k = 7 := by omega
  rcases h8 with rfl | rfl | rfl | rfl | rfl | rfl | rfl <;> decide
 have hlen : ((bs.drop (atL.getD k 0)).take (sizeL.getD k 0)).length ≤ 4 := by rw [List.length_take]; omega
 exact Nat.lt_of_lt_of_le h (Nat.le_trans (Nat.pow_le_pow_right (by omega) hlen) (by decide))
theorem dec_gen {bs : List UInt8} (h : 4611686018427387904 < fv bs 0) : decOK bs = false := by
 have : rightB (parseS bs) = false := by
  unfold rightB
  rw [decide_eq_false_iff_not]
  intro hR
  have h1 : ((fld bs 4 8 : Nat) : Int) ≤ 4611686018427387904 := hR.2.1
  have h2 : fv bs 0 = fld bs 4 8 := rfl
  omega
 unfold decOK
 rw [this]
 simp
theorem lay_at (k : Nat) (hk : k < 8) : ∃ a n : Nat, atL.getD k 0 = a ∧ sizeL.getD k 0 = n ∧ 1 ≤ n ∧ n ≤ 8 ∧ a + n ≤ 28 ∧
  ∀ w, (Instr.index 109 (.agg layR) (.int .i64 k)).run Try.prog w = .ok (.agg #[.int .i64 a, .int .i64 n]) w := by
 have h8 : k = 0 ∨ k = 1 ∨ k = 2 ∨ k = 3 ∨ k = 4 ∨ k = 5 ∨ k = 6 ∨ k = 7 := by omega
 rcases h8 with rfl | rfl | rfl | rfl | rfl | rfl | rfl | rfl
 ·exact ⟨_, _, rfl, rfl, by decide, by decide, by decide, fun w => by kernel_rfl⟩
 ·exact ⟨_, _, rfl, rfl, by decide, by decide, by decide, fun w => by kernel_rfl⟩
 ·exact ⟨_, _, rfl, rfl, by decide, by decide, by decide, fun w => by kernel_rfl⟩
 ·exact ⟨_, _, rfl, rfl, by decide, by decide, by decide, fun w => by kernel_rfl⟩
 ·exact ⟨_, _, rfl, rfl, by decide, by decide, by decide, fun w => by kernel_rfl⟩
 ·exact ⟨_, _, rfl, rfl, by decide, by decide, by decide, fun w => by kernel_rfl⟩
 ·exact ⟨_, _, rfl, rfl, by decide, by decide, by decide, fun w => by kernel_rfl⟩
 ·exact ⟨_, _, rfl, rfl, by decide, by decide, by decide, fun w => by kernel_rfl⟩
end Go.Proofs.Ytajnlhalanhicaa

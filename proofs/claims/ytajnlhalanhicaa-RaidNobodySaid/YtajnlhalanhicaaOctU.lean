/-
  Package octets and its reference say the same: one contract each, good and bad inputs together.
-/
import Derived.Test.YtajnlhalanhicaaOctL
import Derived.Test.YtajnlhalanhicaaOctRX
namespace Go.Proofs.Ytajnlhalanhicaa
set_option linter.all false
set_option maxRecDepth 20000
open Go.RowKit

def putOK (x : Nat) (n : Int) : Bool := decide (1 ≤ n ∧ n ≤ 8 ∧ x < 256 ^ n.toNat)
def putL (x : Nat) (n : Int) : List UInt8 := if putOK x n then leBytes x n.toNat else []
def putE (x : Nat) (n : Int) : Int := if putOK x n then 0 else 1
def getOK (L : Nat) (o n : Int) : Bool := decide (1 ≤ n ∧ n ≤ 8 ∧ 0 ≤ o ∧ o + n ≤ (L : Int))
def getN (bs : List UInt8) (o n : Int) : Nat := if getOK bs.length o n then leNum ((bs.drop o.toNat).take n.toNat) else 0
def getE (bs : List UInt8) (o n : Int) : Int := if getOK bs.length o n then 0 else 1



def PutPost (w : World) (x : Nat) (n : Int) (e : Ending) (w' : World) : Prop :=
  ∃ A c, e = .returned (.tuple #[.slice A (putL x n).length c, .int .i64 (putE x n)]) ∧ Own w' 5 w.heap.size (.slice A (putL x n).length c) (putL x n) ∧ Below w.heap.size w w'

theorem not_putOK {x : Nat} {n : Int} (hx : x < 18446744073709551616) (h : putOK x n = false) : n < 1 ∨ 8 < n ∨ (n < 8 ∧ 256 ^ n.toNat ≤ x) := by
  unfold putOK at h
  simp only [decide_eq_false_iff_not] at h
  by_cases h1 : n < 1
  · exact .inl h1
  by_cases h2 : 8 < n
  · exact .inr (.inl h2)
  refine .inr (.inr ?_)
  have h3 : ¬ x < 256 ^ n.toNat := fun h3 => h ⟨by omega, by omega, h3⟩
  refine ⟨?_, by omega⟩
  by_cases h4 : n = 8
  · subst h4
    exact absurd (Nat.lt_of_lt_of_le hx (by decide)) h3
  · omega

theorem put_u (x : Nat) (n : Int) (w : World) (hx : x < 18446744073709551616) : Calls Try.prog 49 #[.int .u64 x, .int .i64 n] w (PutPost w x n) := by
  cases hk : putOK x n with
  | true =>
    have h := of_decide_eq_true hk
    obtain ⟨m, rfl⟩ := Int.eq_ofNat_of_zero_le (show 0 ≤ n by omega)
    refine (put_ok x m w (by omega) (by omega) (by simpa using h.2.2)).mono ?_
    rintro e w' ⟨A, c, rfl, hown, hb⟩
    unfold PutPost putL putE
    rw [hk]
    simp only [if_true, Int.toNat_natCast, leBytes_len]
    exact ⟨A, c, rfl, hown, hb⟩
  | false =>
    refine (put_bad x n w (not_putOK hx hk)).mono ?_
    rintro e w' ⟨rfl, rfl⟩
    unfold PutPost putL putE
    rw [hk]
    exact ⟨none, 0, rfl, own_nil _ _ _, Below.refl _ _⟩

theorem get_u (A : Option Addr) (L c : Nat) (bs : List UInt8) (o n : Int) (w : World) (hr : Rd w A bs) (hL : bs.length = L) :
    Calls Try.prog 86 #[.slice A L c, .int .i64 o, .int .i64 n] w fun e w' => e = .returned (.tuple #[.int .u64 (getN bs o n : Nat), .int .i64 (getE bs o n)]) ∧ w = w' := by
  subst hL
  unfold getN getE
  cases hk : getOK bs.length o n with
  | true =>
    have h := of_decide_eq_true hk
    obtain ⟨m, rfl⟩ := Int.eq_ofNat_of_zero_le (show 0 ≤ n by omega)
    obtain ⟨p, rfl⟩ := Int.eq_ofNat_of_zero_le (show 0 ≤ o by omega)
    exact get_ok A _ c bs p m w hr rfl (by omega) (by omega) (by omega)
  | false =>
    have h := of_decide_eq_false hk
    exact get_bad A _ c o n w hr.le (by omega)

def xorL (xs ys : List UInt8) : List UInt8 := if xs.length = ys.length then List.zipWith (· ^^^ ·) xs ys else []
def xorE (xs ys : List UInt8) : Int := if xs.length = ys.length then 0 else 1
def XorPost (w : World) (xs ys : List UInt8) (e : Ending) (w' : World) : Prop :=
  ∃ A c, e = .returned (.tuple #[.slice A (xorL xs ys).length c, .int .i64 (xorE xs ys)]) ∧ Own w' 5 w.heap.size (.slice A (xorL xs ys).length c) (xorL xs ys) ∧ Below w.heap.size w w'

theorem xor_u (A B : Option Addr) (n m c d : Nat) (xs ys : List UInt8) (w : World) (ha : Rd w A xs) (hb : Rd w B ys) (hn : xs.length = n) (hm : ys.length = m) (h47 : n ≤ 140737488355328) :
    Calls Try.prog 73 #[.slice A n c, .slice B m d] w (XorPost w xs ys) := by
  subst hn hm
  unfold XorPost xorL xorE
  by_cases h : xs.length = ys.length
  · rw [if_pos h, if_pos h]
    have hl : (List.zipWith (· ^^^ ·) xs ys).length = xs.length := by simp [h]
    rw [hl]
    exact xor_ok A B _ _ c d xs ys w ha hb rfl rfl h h47
  · rw [if_neg h, if_neg h]
    refine (xor_bad A B _ _ c d w h).mono ?_
    rintro e w' ⟨rfl, rfl⟩
    exact ⟨none, 0, rfl, own_nil _ _ _, Below.refl _ _⟩

end Go.Proofs.Ytajnlhalanhicaa

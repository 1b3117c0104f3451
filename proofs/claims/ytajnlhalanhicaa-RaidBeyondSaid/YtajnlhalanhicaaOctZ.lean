/-
 Several texts of this work in one (merge.py): OctL, OctRX, OctU.
-/
import Derived.Test.YtajnlhalanhicaaOct
import Derived.Test.YtajnlhalanhicaaBase
import Derived.Lib.SlBytesConst
namespace Go.Proofs.Ytajnlhalanhicaa
set_option linter.all false
set_option maxRecDepth 20000
section
open Go.RowKit
end
section
open Go.RowKit
end
section
open Go.RowKit
def getOK (L : Nat) (o n : Int) : Bool := decide (1 ≤ n ∧ n ≤ 8 ∧ 0 ≤ o ∧ o + n ≤ (L : Int))
def getN (bs : List UInt8) (o n : Int) : Nat := if getOK bs.length o n then leNum ((bs.drop o.toNat).take n.toNat) else 0
def getE (bs : List UInt8) (o n : Int) : Int := if getOK bs.length o n then 0 else 1
theorem get_u (A : Option Addr) (L c : Nat) (bs : List UInt8) (o n : Int) (w : World) (hr : Rd w A bs) (hL : bs.length = L) :
  Calls Try.prog 86 #[.slice A L c, .int .i64 o, .int .i64 n] w fun e w' => e = .returned (.tuple #[.int .u64 (getN bs o n : Nat), .int .i64 (getE bs o n)]) ∧ w = w' := by
 subst hL
 unfold getN getE
 cases hk : getOK bs.length o n with
 | true =>
  have h := of_decide_eq_true hk
  obtain ⟨m, rfl⟩ := Int.eq_ofNat_of_zero_le (show 0 ≤ n by omega)
  obtain ⟨p, rfl⟩ := Int.eq_ofNat_of_zero_le (show 0 ≤ o by omega)
  exact get_ok A _ c bs p m w hr rfl (by omega) (by omega) (by omega)
 | false =>
  have h := of_decide_eq_false hk
  exact get_bad A _ c o n w hr.le (by omega)
end
end Go.Proofs.Ytajnlhalanhicaa

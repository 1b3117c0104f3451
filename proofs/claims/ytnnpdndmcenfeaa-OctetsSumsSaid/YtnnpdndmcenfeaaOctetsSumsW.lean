/-
  THE WALK of OctetsSums: the sum and the reference's are one.
-/
import Derived.Test.YtnnpdndmcenfeaaOctL
import Derived.Test.YtnnpdndmcenfeaaOctR
namespace Go.Proofs.Ytnnpdndmcenfeaa
open Go.RowKit

set_option maxRecDepth 100000 in
set_option maxHeartbeats 1000000 in
theorem octetsSums_walk (seed : Nat) (A : Option Addr) (n c : Nat) (bs : List UInt8) (W : World) (hs : seed < 4294967296) (hr : Rd W A bs) (hn : bs.length = n) (_h47 : n ≤ 140737488351232) :
    Calls Try.prog 5 #[.int .u32 seed, .slice A n c] W fun e W' => e = .returned (.bool true) ∧ Below W.heap.size W W' := by
  have HR := Lib.hid hr
  have HN := Lib.hid hn
  clear hr hn
  go_enter Try.func5, Try.ntmps5
  go_wp2_with (go_at_call 22; refine (lives01 _).mono ?_; rintro e w1 ⟨rfl, hb1⟩)
  refine (crc_any A n c bs seed _ (HR.out.below hb1) HN.out hs).mono ?_
  rintro e w2 ⟨rfl, hb2⟩
  have hb12 := below_to hb1 hb2
  go_wp2_with fail
  refine (rcrc_any A n c bs seed _ (HR.out.below hb12) HN.out hs).mono ?_
  rintro e w' ⟨rfl, rfl⟩
  go_wp2_with fail
  go_ret
  exact ⟨rfl, hb12⟩
end Go.Proofs.Ytnnpdndmcenfeaa

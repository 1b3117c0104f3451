/-
  THE WALK of SumsSum.
-/
import Derived.Test.YtikfbhepnnbdoaaSuL
import Derived.Test.YtikfbhepnnbdoaaSuR
namespace Go.Proofs.Ytikfbhepnnbdoaa
set_option linter.all false
open Go.RowKit

set_option maxRecDepth 100000 in
set_option maxHeartbeats 1000000 in
theorem sumsSum_walk (disk block : Int) (A : Option Addr) (n c : Nat) (bs : List UInt8) (W : World) (_h1 : -9223372036854775808 ≤ disk) (_h2 : disk ≤ 9223372036854775807) (_h3 : -9223372036854775808 ≤ block) (_h4 : block ≤ 9223372036854775807) (hr : Rd W A bs) (hn : bs.length = n) (h47 : n ≤ 140737488351232) :
    Calls Try.prog 5 #[.int .i64 disk, .int .i64 block, .slice A n c] W fun e W' => e = .returned (.bool true) ∧ Below W.heap.size W W' := by
  have h1 : Hid (∀ W', Below W.heap.size W W' → _) := Lib.hid fun W' h => su_sum disk block A n c bs W' (hr.below h) hn
  have h2 : Hid (∀ W', Below W.heap.size W W' → _) := Lib.hid fun W' h => rsu_sum disk block A n c bs W' (hr.below h) hn h47
  generalize sumB disk block bs = sm at *
  clear hr hn
  go_enter Try.func5, Try.ntmps5
  go_wp2_with fail
  refine (lives06 W).mono ?_
  rintro e w1 ⟨rfl, hb1⟩
  go_wp2_with fail
  refine (h1.out w1 hb1).mono ?_
  rintro e w2 ⟨rfl, hb2⟩
  have hb2 := below_to hb1 hb2
  go_wp2_with fail
  refine (h2.out w2 hb2).mono ?_
  rintro e w3 ⟨rfl, hb3⟩
  have hb3 := below_to hb2 hb3
  go_wp2
  go_ret
  exact ⟨by simp, hb3⟩
end Go.Proofs.Ytikfbhepnnbdoaa

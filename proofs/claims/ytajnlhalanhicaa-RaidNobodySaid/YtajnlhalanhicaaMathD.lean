/-
  Bytes in the middle of others; numbers of the same bytes. No program in sight.
-/
import Derived.Test.YtajnlhalanhicaaBase
namespace Go.Proofs.Ytajnlhalanhicaa
set_option linter.all false
set_option maxRecDepth 20000

theorem drop_take_mid (xs ms ys : List UInt8) : ((xs ++ (ms ++ ys)).drop xs.length).take ms.length = ms := by
  rw [List.drop_left, List.take_left]

theorem leBytes_inj {x y n : Nat} (hx : x < 256 ^ n) (hy : y < 256 ^ n) (h : leBytes x n = leBytes y n) : x = y := by
  have h2 := congrArg leNum h
  rwa [leNum_leBytes, leNum_leBytes, Nat.mod_eq_of_lt hx, Nat.mod_eq_of_lt hy] at h2

end Go.Proofs.Ytajnlhalanhicaa

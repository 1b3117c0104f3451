/-
  THE WALK over the shelf's lives.
-/
import Derived.Test.YtajnlhalanhicaaShJ
namespace Go.Proofs.Ytajnlhalanhicaa
set_option linter.all false
set_option maxRecDepth 20000
open Go.RowKit

/-! what comes of the calls, step by step -/
def lv1 : ShM := (ShM.writeR (freshSh 2 10) 0 5 (secOf 1)).2
def lv2 : ShM := (lv1.flushR 0).2
def lv3 : ShM := (lv2.writeR 0 5 (secOf 2)).2
def lv4 : ShM := (lv3.writeR 0 6 (secOf 3)).2
def lv5 : ShM := lv4.crash [[1]]
def lv6 : ShM := (lv5.readR 0 5).2.2
def lv7 : ShM := (lv6.readR 0 6).2.2
theorem lv_a : (ShM.writeR (freshSh 2 10) 0 5 (secOf 1)).1 = 0 := by decide +kernel
theorem lv_b : (lv1.flushR 0).1 = 0 := by decide +kernel
theorem lv_r1 : ((freshSh 2 10).disk (0 : Int).toNat).waits.length ≤ 1000000000000 := by decide +kernel
theorem lv_r2 : (lv2.disk (0 : Int).toNat).waits.length ≤ 1000000000000 := by decide +kernel
theorem lv_r3 : (lv3.disk (0 : Int).toNat).waits.length ≤ 1000000000000 := by decide +kernel
theorem lv_n : lv4.waitsR 0 = 2 := by decide +kernel
theorem lv_r5 : (lv5.disk (0 : Int).toNat).waits.length ≤ 1000000000000 := by decide +kernel
theorem lv_r6 : (lv6.disk (0 : Int).toNat).waits.length ≤ 1000000000000 := by decide +kernel
theorem lv_x : (lv5.readR 0 5).1 = secOf 1 := by decide +kernel
theorem lv_f : (lv5.readR 0 5).2.1 = 0 := by decide +kernel
theorem lv_y : (lv6.readR 0 6).1 = secOf 3 := by decide +kernel
theorem lv_g : (lv6.readR 0 6).2.1 = 0 := by decide +kernel
theorem lv_c : lv7.count = 6 := by decide +kernel
theorem lv_w : lv7.waitsR 0 = 0 := by decide +kernel

end Go.Proofs.Ytajnlhalanhicaa

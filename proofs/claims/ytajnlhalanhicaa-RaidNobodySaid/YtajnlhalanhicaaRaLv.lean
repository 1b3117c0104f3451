/-
  What lives() of the volume's law comes to, as plain data. No walk.
-/
import Derived.Test.YtajnlhalanhicaaRaM
import Derived.Test.YtajnlhalanhicaaShL
namespace Go.Proofs.Ytajnlhalanhicaa
set_option linter.all false
set_option maxRecDepth 20000
open Go.RowKit

def rv0 : ShM := freshSh 3 40
def rvV : VolM := volBuild rv0 (newSup 3 2 1)
def rv1 : Int × ShM × VolM := volMake rv0 rvV
def rv2 : Int × ShM × VolM := volWrite rv1.2.1 rv1.2.2 3 (secOf 8)
def rv3 : Int × ShM × VolM := volFlush rv2.2.1 rv2.2.2
def rv4 : ShM := (rv3.2.1.killR 0).2
def rv5 : Bytes × Int × ShM × VolM := volRead rv4 rv3.2.2 3
def rv6 : Bool × Int × ShM := volWhole rv5.2.2.1 rv5.2.2.2 0
def roomy (s : ShM) : Bool := s.disks.all fun k => decide (k.waits.length ≤ 100)
set_option maxRecDepth 100000 in
theorem rv_build : buildOk rv0 (newSup 3 2 1) = true := by decide +kernel
theorem rv_1 : rv1.1 = 0 := by decide +kernel
theorem rv_2 : rv2.1 = 0 := by decide +kernel
theorem rv_3 : rv3.1 = 0 := by decide +kernel
theorem rv_r : roomy rv1.2.1 = true ∧ roomy rv2.2.1 = true ∧ roomy rv3.2.1 = true ∧ roomy rv4 = true ∧ roomy rv5.2.2.1 = true := by decide +kernel
theorem rv_5 : rv5.1 = secOf 8 ∧ rv5.2.1 = 0 := by decide +kernel
theorem rv_6 : rv6.1 = false ∧ rv6.2.1 = 0 := by decide +kernel
theorem rv_s : rv1.2.2.size = 4 ∧ rv5.2.2.2.size = 4 ∧ rv5.2.2.2.stripes = 2 := by decide +kernel
theorem rv_d : (volDeads rv6.2.2 rv5.2.2.2).length = 1 := by decide +kernel
end Go.Proofs.Ytajnlhalanhicaa

/- Parts of a proof. -/
import Derived.Test.YtfpohljcapcliaaGreatDoorL
set_option linter.all false
set_option maxHeartbeats 10000000
set_option maxRecDepth 100000
noncomputable section
namespace Go.Ly
open Go Go.Am Go.Proofs
def a5:AFn:=KF Tryz.f5 _
def a13:AFn:=KF Tryz.f13 _
def a21:AFn:=KF Tryz.f21 _
def a29:AFn:=KF Tryz.f29 _
def a37:AFn:=KF Tryz.f37 _
def a45:AFn:=KF Tryz.f45 _
def a53:AFn:=KF Tryz.f53 _
def a61:AFn:=KF Tryz.f61 _
def a69:AFn:=KF Tryz.f69 _
def a77:AFn:=KF Tryz.f77 _
def a85:AFn:=KF Tryz.f85 _
def a93:AFn:=KF Tryz.f93 _
def a101:AFn:=KF Tryz.f101 _
def a109:AFn:=KF Tryz.f109 _
def a117:AFn:=KF Tryz.f117 _
def a125:AFn:=KF Tryz.f125 _
def a133:AFn:=KF Tryz.f133 _
def a141:AFn:=KF Tryz.f141 _
def a149:AFn:=KF Tryz.f149 _
def a157:AFn:=KF Tryz.f157 _
def a165:AFn:=KF Tryz.f165 _
def a174:AFn:=KF Tryz.f174 _
end Go.Ly
end

/- Parts of a proof. -/
import Derived.Test.YtfpohljcapcliaaGreatDoorL
set_option linter.all false
set_option maxHeartbeats 10000000
set_option maxRecDepth 100000
noncomputable section
namespace Go.Ly
open Go Go.Am Go.Proofs
def a3:AFn:=KF Tryz.f3 _
def a11:AFn:=KF Tryz.f11 _
def a19:AFn:=KF Tryz.f19 _
def a27:AFn:=KF Tryz.f27 _
def a35:AFn:=KF Tryz.f35 _
def a43:AFn:=KF Tryz.f43 _
def a51:AFn:=KF Tryz.f51 _
def a59:AFn:=KF Tryz.f59 _
def a67:AFn:=KF Tryz.f67 _
def a75:AFn:=KF Tryz.f75 _
def a83:AFn:=KF Tryz.f83 _
def a91:AFn:=KF Tryz.f91 _
def a99:AFn:=KF Tryz.f99 _
def a107:AFn:=KF Tryz.f107 _
def a115:AFn:=KF Tryz.f115 _
def a123:AFn:=KF Tryz.f123 _
def a131:AFn:=KF Tryz.f131 _
def a139:AFn:=KF Tryz.f139 _
def a147:AFn:=KF Tryz.f147 _
def a155:AFn:=KF Tryz.f155 _
def a163:AFn:=KF Tryz.f163 _
def a171:AFn:=KF Tryz.f171 _
end Go.Ly
end

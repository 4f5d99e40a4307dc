/- Parts of a proof. -/
import Derived.Test.YtfpohljcapcliaaGreatDoorL
set_option linter.all false
set_option maxHeartbeats 10000000
set_option maxRecDepth 100000
noncomputable section
namespace Go.Ly
open Go Go.Am Go.Proofs
def a10:AFn:=KF Tryz.f10 _
def a18:AFn:=KF Tryz.f18 _
def a26:AFn:=KF Tryz.f26 _
def a34:AFn:=KF Tryz.f34 _
def a42:AFn:=KF Tryz.f42 _
def a50:AFn:=KF Tryz.f50 _
def a58:AFn:=KF Tryz.f58 _
def a66:AFn:=KF Tryz.f66 _
def a74:AFn:=KF Tryz.f74 _
def a82:AFn:=KF Tryz.f82 _
def a90:AFn:=KF Tryz.f90 _
def a98:AFn:=KF Tryz.f98 _
def a106:AFn:=KF Tryz.f106 _
def a114:AFn:=KF Tryz.f114 _
def a122:AFn:=KF Tryz.f122 _
def a130:AFn:=KF Tryz.f130 _
def a138:AFn:=KF Tryz.f138 _
def a146:AFn:=KF Tryz.f146 _
def a154:AFn:=KF Tryz.f154 _
def a162:AFn:=KF Tryz.f162 _
def a170:AFn:=KF Tryz.f170 _
end Go.Ly
end

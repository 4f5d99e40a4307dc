/- Parts of a proof. -/
import Derived.Test.YtfpohljcapcliaaGreatDoorL
set_option linter.all false
set_option maxHeartbeats 10000000
set_option maxRecDepth 100000
noncomputable section
namespace Go.Ly
open Go Go.Am Go.Proofs
def a8:AFn:=KF Tryz.f8 _
def a16:AFn:=KF Tryz.f16 _
def a24:AFn:=KF Tryz.f24 _
def a32:AFn:=KF Tryz.f32 _
def a40:AFn:=KF Tryz.f40 _
def a48:AFn:=KF Tryz.f48 _
def a56:AFn:=KF Tryz.f56 _
def a64:AFn:=KF Tryz.f64 _
def a72:AFn:=KF Tryz.f72 _
def a80:AFn:=KF Tryz.f80 _
def a88:AFn:=KF Tryz.f88 _
def a96:AFn:=KF Tryz.f96 _
def a104:AFn:=KF Tryz.f104 _
def a112:AFn:=KF Tryz.f112 _
def a120:AFn:=KF Tryz.f120 _
def a128:AFn:=KF Tryz.f128 _
def a136:AFn:=KF Tryz.f136 _
def a144:AFn:=KF Tryz.f144 _
def a152:AFn:=KF Tryz.f152 _
def a160:AFn:=KF Tryz.f160 _
def a168:AFn:=KF Tryz.f168 _
end Go.Ly
end

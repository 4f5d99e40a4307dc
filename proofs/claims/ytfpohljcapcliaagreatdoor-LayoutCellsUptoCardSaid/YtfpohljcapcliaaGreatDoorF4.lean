/- Parts of a proof. -/
import Derived.Test.YtfpohljcapcliaaGreatDoorL
set_option linter.all false
set_option maxHeartbeats 10000000
set_option maxRecDepth 100000
noncomputable section
namespace Go.Ly
open Go Go.Am Go.Proofs
def a7:AFn:=KF Tryz.f7 _
def a15:AFn:=KF Tryz.f15 _
def a23:AFn:=KF Tryz.f23 _
def a31:AFn:=KF Tryz.f31 _
def a39:AFn:=KF Tryz.f39 _
def a47:AFn:=KF Tryz.f47 _
def a55:AFn:=KF Tryz.f55 _
def a63:AFn:=KF Tryz.f63 _
def a71:AFn:=KF Tryz.f71 _
def a79:AFn:=KF Tryz.f79 _
def a87:AFn:=KF Tryz.f87 _
def a95:AFn:=KF Tryz.f95 _
def a103:AFn:=KF Tryz.f103 _
def a111:AFn:=KF Tryz.f111 _
def a119:AFn:=KF Tryz.f119 _
def a127:AFn:=KF Tryz.f127 _
def a135:AFn:=KF Tryz.f135 _
def a143:AFn:=KF Tryz.f143 _
def a151:AFn:=KF Tryz.f151 _
def a159:AFn:=KF Tryz.f159 _
def a167:AFn:=KF Tryz.f167 _
def a176:AFn:=KF Tryz.f176 _
end Go.Ly
end

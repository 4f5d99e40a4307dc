/- Parts of a proof. -/
import Derived.Test.YtfpohljcapcliaaGreatDoorL
set_option linter.all false
set_option maxHeartbeats 10000000
set_option maxRecDepth 100000
noncomputable section
namespace Go.Ly
open Go Go.Am Go.Proofs
def a9:AFn:=KF Tryz.f9 _
def a17:AFn:=KF Tryz.f17 _
def a25:AFn:=KF Tryz.f25 _
def a33:AFn:=KF Tryz.f33 _
def a41:AFn:=KF Tryz.f41 _
def a49:AFn:=KF Tryz.f49 _
def a57:AFn:=KF Tryz.f57 _
def a65:AFn:=KF Tryz.f65 _
def a73:AFn:=KF Tryz.f73 _
def a81:AFn:=KF Tryz.f81 _
def a89:AFn:=KF Tryz.f89 _
def a97:AFn:=KF Tryz.f97 _
def a105:AFn:=KF Tryz.f105 _
def a113:AFn:=KF Tryz.f113 _
def a121:AFn:=KF Tryz.f121 _
def a129:AFn:=KF Tryz.f129 _
def a137:AFn:=KF Tryz.f137 _
def a145:AFn:=KF Tryz.f145 _
def a153:AFn:=KF Tryz.f153 _
def a161:AFn:=KF Tryz.f161 _
def a169:AFn:=KF Tryz.f169 _
end Go.Ly
end

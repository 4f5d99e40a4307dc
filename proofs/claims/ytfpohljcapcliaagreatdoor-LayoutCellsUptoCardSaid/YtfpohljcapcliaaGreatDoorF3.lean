/- Parts of a proof. -/
import Derived.Test.YtfpohljcapcliaaGreatDoorL
set_option linter.all false
set_option maxHeartbeats 10000000
set_option maxRecDepth 100000
noncomputable section
namespace Go.Ly
open Go Go.Am Go.Proofs
def a6:AFn:=KF Tryz.f6 _
def a14:AFn:=KF Tryz.f14 _
def a22:AFn:=KF Tryz.f22 _
def a30:AFn:=KF Tryz.f30 _
def a38:AFn:=KF Tryz.f38 _
def a46:AFn:=KF Tryz.f46 _
def a54:AFn:=KF Tryz.f54 _
def a62:AFn:=KF Tryz.f62 _
def a70:AFn:=KF Tryz.f70 _
def a78:AFn:=KF Tryz.f78 _
def a86:AFn:=KF Tryz.f86 _
def a94:AFn:=KF Tryz.f94 _
def a102:AFn:=KF Tryz.f102 _
def a110:AFn:=KF Tryz.f110 _
def k118:KS Tryz.f118:={k:=_}
def a118:AFn:=KG Tryz.f118 k118 _
def a126:AFn:=KF Tryz.f126 _
def a134:AFn:=KF Tryz.f134 _
def a142:AFn:=KF Tryz.f142 _
def a150:AFn:=KF Tryz.f150 _
def a158:AFn:=KF Tryz.f158 _
def a166:AFn:=KF Tryz.f166 _
def a175:AFn:=KF Tryz.f175 _
end Go.Ly
end

/- Parts of a proof. -/
import Derived.Test.YtfpohljcapcliaaGreatDoorL
set_option linter.all false
set_option maxHeartbeats 10000000
set_option maxRecDepth 100000
noncomputable section
namespace Go.Ly
open Go Go.Am Go.Proofs
def a4:AFn:=KF Tryz.f4 _
def a12:AFn:=KF Tryz.f12 _
def a20:AFn:=KF Tryz.f20 _
def a28:AFn:=KF Tryz.f28 _
def a36:AFn:=KF Tryz.f36 _
def a44:AFn:=KF Tryz.f44 _
def a52:AFn:=KF Tryz.f52 _
def a60:AFn:=KF Tryz.f60 _
def a68:AFn:=KF Tryz.f68 _
def a76:AFn:=KF Tryz.f76 _
def a84:AFn:=KF Tryz.f84 _
def a92:AFn:=KF Tryz.f92 _
def a100:AFn:=KF Tryz.f100 _
def a108:AFn:=KF Tryz.f108 _
def a116:AFn:=KF Tryz.f116 _
def a124:AFn:=KF Tryz.f124 _
def a132:AFn:=KF Tryz.f132 _
def a140:AFn:=KF Tryz.f140 _
def a148:AFn:=KF Tryz.f148 _
def a156:AFn:=KF Tryz.f156 _
def a164:AFn:=KF Tryz.f164 _
def a173:AFn:=KF Tryz.f173 _
end Go.Ly
end

/- Parts of a proof. -/
import Derived.Test.YtcdjfccgahefaaaGreatDoorF0
import Derived.Test.YtcdjfccgahefaaaGreatDoorF1
import Derived.Test.YtcdjfccgahefaaaGreatDoorF2
import Derived.Test.YtcdjfccgahefaaaGreatDoorF3
import Derived.Test.YtcdjfccgahefaaaGreatDoorF4
import Derived.Test.YtcdjfccgahefaaaGreatDoorF5
import Derived.Test.YtcdjfccgahefaaaGreatDoorF6
import Derived.Test.YtcdjfccgahefaaaGreatDoorF7
import Derived.Test.YtcdjfccgahefaaaGreatDoorC
set_option linter.all false
set_option maxHeartbeats 10000000
set_option maxRecDepth 100000
noncomputable section
namespace Go.Ly
open Go Go.Am
abbrev p3x1111111110100:=KE (pt a3.body [1,1,1,1,1,1,1,1,1,0,1,0,0]) _
abbrev p3x11111111101001000:=KE (pt a3.body [1,1,1,1,1,1,1,1,1,0,1,0,0,1,0,0,0]) _
abbrev p3x11111111101001001:=KE (pt a3.body [1,1,1,1,1,1,1,1,1,0,1,0,0,1,0,0,1]) _
abbrev p4x11110:=KE (pt a4.body [1,1,1,1,0]) _
abbrev p4x11111:=KE (pt a4.body [1,1,1,1,1]) _
abbrev p4x11111111111110100:=KE (pt a4.body [1,1,1,1,1,1,1,1,1,1,1,1,1,0,1,0,0]) _
abbrev p7x1110100:=KE (pt a7.body [1,1,1,0,1,0,0]) _
abbrev p10x1110100:=KE (pt a10.body [1,1,1,0,1,0,0]) _
abbrev p11x10100:=KE (pt a11.body [1,0,1,0,0]) _
abbrev p13x0:=KE (pt a13.body [0]) _
abbrev p13x10:=KE (pt a13.body [1,0]) _
abbrev p13x110:=KE (pt a13.body [1,1,0]) _
abbrev p13x1110:=KE (pt a13.body [1,1,1,0]) _
abbrev p13x11110:=KE (pt a13.body [1,1,1,1,0]) _
abbrev p13x111110:=KE (pt a13.body [1,1,1,1,1,0]) _
abbrev p13x111111:=KE (pt a13.body [1,1,1,1,1,1]) _
abbrev p13x11111100:=KE (pt a13.body [1,1,1,1,1,1,0,0]) _
abbrev p13x1111110100:=KE (pt a13.body [1,1,1,1,1,1,0,1,0,0]) _
abbrev p13x1111111:=KE (pt a13.body [1,1,1,1,1,1,1]) _
abbrev p13x111111100:=KE (pt a13.body [1,1,1,1,1,1,1,0,0]) _
abbrev p13x11111110100:=KE (pt a13.body [1,1,1,1,1,1,1,0,1,0,0]) _
abbrev p13x11111111:=KE (pt a13.body [1,1,1,1,1,1,1,1]) _
abbrev p13x1111111100:=KE (pt a13.body [1,1,1,1,1,1,1,1,0,0]) _
abbrev p13x111111110100:=KE (pt a13.body [1,1,1,1,1,1,1,1,0,1,0,0]) _
abbrev p13x111111111:=KE (pt a13.body [1,1,1,1,1,1,1,1,1]) _
abbrev p15x110100:=KE (pt a15.body [1,1,0,1,0,0]) _
abbrev p24x10100:=KE (pt a24.body [1,0,1,0,0]) _
abbrev p33x0:=KE (pt a33.body [0]) _
abbrev p33x10:=KE (pt a33.body [1,0]) _
abbrev p33x110:=KE (pt a33.body [1,1,0]) _
abbrev p33x1110:=KE (pt a33.body [1,1,1,0]) _
abbrev p33x11110:=KE (pt a33.body [1,1,1,1,0]) _
abbrev p33x111110:=KE (pt a33.body [1,1,1,1,1,0]) _
abbrev p33x1111110:=KE (pt a33.body [1,1,1,1,1,1,0]) _
abbrev p33x111111100:=KE (pt a33.body [1,1,1,1,1,1,1,0,0]) _
abbrev p33x1111111010:=KE (pt a33.body [1,1,1,1,1,1,1,0,1,0]) _
abbrev p33x1111111011:=KE (pt a33.body [1,1,1,1,1,1,1,0,1,1]) _
abbrev p33x11111110110111100:=KE (pt a33.body [1,1,1,1,1,1,1,0,1,1,0,1,1,1,1,0,0]) _
abbrev p33x11111111:=KE (pt a33.body [1,1,1,1,1,1,1,1]) _
abbrev p34x1100:=KE (pt a34.body [1,1,0,0]) _
abbrev p34x110011001100:=KE (pt a34.body [1,1,0,0,1,1,0,0,1,1,0,0]) _
abbrev p34x110011001100110011110100:=KE (pt a34.body [1,1,0,0,1,1,0,0,1,1,0,0,1,1,0,0,1,1,1,1,0,1,0,0]) _
abbrev p35x0:=KE (pt a35.body [0]) _
abbrev p35x10:=KE (pt a35.body [1,0]) _
abbrev p35x110:=KE (pt a35.body [1,1,0]) _
abbrev p35x11100:=KE (pt a35.body [1,1,1,0,0]) _
abbrev p35x111000:=KE (pt a35.body [1,1,1,0,0,0]) _
abbrev p35x1110010:=KE (pt a35.body [1,1,1,0,0,1,0]) _
abbrev p35x111001100:=KE (pt a35.body [1,1,1,0,0,1,1,0,0]) _
abbrev p35x1110011000:=KE (pt a35.body [1,1,1,0,0,1,1,0,0,0]) _
abbrev p35x11100110010:=KE (pt a35.body [1,1,1,0,0,1,1,0,0,1,0]) _
abbrev p35x11100110011:=KE (pt a35.body [1,1,1,0,0,1,1,0,0,1,1]) _
abbrev p35x111001100110:=KE (pt a35.body [1,1,1,0,0,1,1,0,0,1,1,0]) _
abbrev p35x111001100111:=KE (pt a35.body [1,1,1,0,0,1,1,0,0,1,1,1]) _
abbrev p35x1110011001110:=KE (pt a35.body [1,1,1,0,0,1,1,0,0,1,1,1,0]) _
abbrev p35x111001100111100:=KE (pt a35.body [1,1,1,0,0,1,1,0,0,1,1,1,1,0,0]) _
abbrev p35x1110011001111000:=KE (pt a35.body [1,1,1,0,0,1,1,0,0,1,1,1,1,0,0,0]) _
abbrev p35x11100110011110010:=KE (pt a35.body [1,1,1,0,0,1,1,0,0,1,1,1,1,0,0,1,0]) _
abbrev p35x1110011001111001100:=KE (pt a35.body [1,1,1,0,0,1,1,0,0,1,1,1,1,0,0,1,1,0,0]) _
abbrev p35x11100110011110011000:=KE (pt a35.body [1,1,1,0,0,1,1,0,0,1,1,1,1,0,0,1,1,0,0,0]) _
abbrev p35x111001100111100110010:=KE (pt a35.body [1,1,1,0,0,1,1,0,0,1,1,1,1,0,0,1,1,0,0,1,0]) _
abbrev p35x1110011001111001100110:=KE (pt a35.body [1,1,1,0,0,1,1,0,0,1,1,1,1,0,0,1,1,0,0,1,1,0]) _
abbrev p35x11100110011110011001110:=KE (pt a35.body [1,1,1,0,0,1,1,0,0,1,1,1,1,0,0,1,1,0,0,1,1,1,0]) _
abbrev p35x11100110011110011001111:=KE (pt a35.body [1,1,1,0,0,1,1,0,0,1,1,1,1,0,0,1,1,0,0,1,1,1,1]) _
abbrev p35x111001100111100110011110:=KE (pt a35.body [1,1,1,0,0,1,1,0,0,1,1,1,1,0,0,1,1,0,0,1,1,1,1,0]) _
abbrev p35x111001100111100110011111:=KE (pt a35.body [1,1,1,0,0,1,1,0,0,1,1,1,1,0,0,1,1,0,0,1,1,1,1,1]) _
abbrev p35x1110011001111001100111110:=KE (pt a35.body [1,1,1,0,0,1,1,0,0,1,1,1,1,0,0,1,1,0,0,1,1,1,1,1,0]) _
abbrev p35x1110011001111001100111111:=KE (pt a35.body [1,1,1,0,0,1,1,0,0,1,1,1,1,0,0,1,1,0,0,1,1,1,1,1,1]) _
abbrev p35x11100110011110011001111110:=KE (pt a35.body [1,1,1,0,0,1,1,0,0,1,1,1,1,0,0,1,1,0,0,1,1,1,1,1,1,0]) _
abbrev p35x11100110011110011001111111:=KE (pt a35.body [1,1,1,0,0,1,1,0,0,1,1,1,1,0,0,1,1,0,0,1,1,1,1,1,1,1]) _
abbrev p35x111001100111100110011111110:=KE (pt a35.body [1,1,1,0,0,1,1,0,0,1,1,1,1,0,0,1,1,0,0,1,1,1,1,1,1,1,0]) _
abbrev p35x1110011001111001100111111110:=KE (pt a35.body [1,1,1,0,0,1,1,0,0,1,1,1,1,0,0,1,1,0,0,1,1,1,1,1,1,1,1,0]) _
abbrev p35x1110011001111001100111111111:=KE (pt a35.body [1,1,1,0,0,1,1,0,0,1,1,1,1,0,0,1,1,0,0,1,1,1,1,1,1,1,1,1]) _
abbrev p35x111001100111100111:=KE (pt a35.body [1,1,1,0,0,1,1,0,0,1,1,1,1,0,0,1,1,1]) _
abbrev p35x11100111:=KE (pt a35.body [1,1,1,0,0,1,1,1]) _
abbrev p36x0:=KE (pt a36.body [0]) _
abbrev p36x10:=KE (pt a36.body [1,0]) _
abbrev p36x1100:=KE (pt a36.body [1,1,0,0]) _
abbrev p36x110100:=KE (pt a36.body [1,1,0,1,0,0]) _
abbrev p36x1101000:=KE (pt a36.body [1,1,0,1,0,0,0]) _
abbrev p36x11010010:=KE (pt a36.body [1,1,0,1,0,0,1,0]) _
abbrev p36x11010011000:=KE (pt a36.body [1,1,0,1,0,0,1,1,0,0,0]) _
abbrev p36x110100110010:=KE (pt a36.body [1,1,0,1,0,0,1,1,0,0,1,0]) _
abbrev p36x11010011001100:=KE (pt a36.body [1,1,0,1,0,0,1,1,0,0,1,1,0,0]) _
abbrev p36x110100110011000:=KE (pt a36.body [1,1,0,1,0,0,1,1,0,0,1,1,0,0,0]) _
abbrev p36x1101001100110010:=KE (pt a36.body [1,1,0,1,0,0,1,1,0,0,1,1,0,0,1,0]) _
abbrev p36x1101001100110011000:=KE (pt a36.body [1,1,0,1,0,0,1,1,0,0,1,1,0,0,1,1,0,0,0]) _
abbrev p36x11010011001100110010:=KE (pt a36.body [1,1,0,1,0,0,1,1,0,0,1,1,0,0,1,1,0,0,1,0]) _
abbrev p36x110100110011001100110:=KE (pt a36.body [1,1,0,1,0,0,1,1,0,0,1,1,0,0,1,1,0,0,1,1,0]) _
abbrev p36x11010011001100110011100:=KE (pt a36.body [1,1,0,1,0,0,1,1,0,0,1,1,0,0,1,1,0,0,1,1,1,0,0]) _
abbrev p36x110100110011001100111000:=KE (pt a36.body [1,1,0,1,0,0,1,1,0,0,1,1,0,0,1,1,0,0,1,1,1,0,0,0]) _
abbrev p36x1101001100110011001110010:=KE (pt a36.body [1,1,0,1,0,0,1,1,0,0,1,1,0,0,1,1,0,0,1,1,1,0,0,1,0]) _
abbrev p36x110100110011001100111001100:=KE (pt a36.body [1,1,0,1,0,0,1,1,0,0,1,1,0,0,1,1,0,0,1,1,1,0,0,1,1,0,0]) _
abbrev p36x11010011001100110011100111:=KE (pt a36.body [1,1,0,1,0,0,1,1,0,0,1,1,0,0,1,1,0,0,1,1,1,0,0,1,1,1]) _
abbrev p36x11010011001100111:=KE (pt a36.body [1,1,0,1,0,0,1,1,0,0,1,1,0,0,1,1,1]) _
abbrev p36x110100111:=KE (pt a36.body [1,1,0,1,0,0,1,1,1]) _
abbrev p36x111:=KE (pt a36.body [1,1,1]) _
abbrev p38x10100:=KE (pt a38.body [1,0,1,0,0]) _
abbrev p40x110100:=KE (pt a40.body [1,1,0,1,0,0]) _
abbrev p42x10100:=KE (pt a42.body [1,0,1,0,0]) _
abbrev p43x11110100:=KE (pt a43.body [1,1,1,1,0,1,0,0]) _
abbrev p44x1110100:=KE (pt a44.body [1,1,1,0,1,0,0]) _
abbrev p46x11110100:=KE (pt a46.body [1,1,1,1,0,1,0,0]) _
abbrev p46x11110101:=KE (pt a46.body [1,1,1,1,0,1,0,1]) _
abbrev p50x100:=KE (pt a50.body [1,0,0]) _
abbrev p50x1001100111100:=KE (pt a50.body [1,0,0,1,1,0,0,1,1,1,1,0,0]) _
abbrev p51x100:=KE (pt a51.body [1,0,0]) _
abbrev p51x10011001110100:=KE (pt a51.body [1,0,0,1,1,0,0,1,1,1,0,1,0,0]) _
abbrev p52x111110100:=KE (pt a52.body [1,1,1,1,1,0,1,0,0]) _
abbrev p52x11111010011001111100:=KE (pt a52.body [1,1,1,1,1,0,1,0,0,1,1,0,0,1,1,1,1,1,0,0]) _
abbrev p54x10100:=KE (pt a54.body [1,0,1,0,0]) _
abbrev p55x110100:=KE (pt a55.body [1,1,0,1,0,0]) _
abbrev p56x10100:=KE (pt a56.body [1,0,1,0,0]) _
abbrev p59x110100:=KE (pt a59.body [1,1,0,1,0,0]) _
abbrev p62x10100:=KE (pt a62.body [1,0,1,0,0]) _
abbrev p62x10101:=KE (pt a62.body [1,0,1,0,1]) _
abbrev p65x101010110100:=KE (pt a65.body [1,0,1,0,1,0,1,1,0,1,0,0]) _
abbrev p65x101011111010100:=KE (pt a65.body [1,0,1,0,1,1,1,1,1,0,1,0,1,0,0]) _
abbrev p71x10100:=KE (pt a71.body [1,0,1,0,0]) _
abbrev p78x1110100:=KE (pt a78.body [1,1,1,0,1,0,0]) _
abbrev p78x1110101:=KE (pt a78.body [1,1,1,0,1,0,1]) _
abbrev p82x1110100:=KE (pt a82.body [1,1,1,0,1,0,0]) _
abbrev p82x1110101:=KE (pt a82.body [1,1,1,0,1,0,1]) _
abbrev p102x100:=KE (pt a102.body [1,0,0]) _
abbrev p118x110100:=KE (pt a118.body [1,1,0,1,0,0]) _
abbrev p127x11110100:=KE (pt a127.body [1,1,1,1,0,1,0,0]) _
abbrev p127x11110101:=KE (pt a127.body [1,1,1,1,0,1,0,1]) _
abbrev p131x110100:=KE (pt a131.body [1,1,0,1,0,0]) _
abbrev p133x10100:=KE (pt a133.body [1,0,1,0,0]) _
abbrev p139x1110100:=KE (pt a139.body [1,1,1,0,1,0,0]) _
abbrev p139x1110101:=KE (pt a139.body [1,1,1,0,1,0,1]) _
abbrev p144x011100:=KE (pt a144.body [0,1,1,1,0,0]) _
abbrev p154x11000:=KE (pt a154.body [1,1,0,0,0]) _
abbrev p161x0:=KE (pt a161.body [0]) _
abbrev p161x10:=KE (pt a161.body [1,0]) _
abbrev p161x110:=KE (pt a161.body [1,1,0]) _
abbrev p161x1110:=KE (pt a161.body [1,1,1,0]) _
abbrev p161x1111:=KE (pt a161.body [1,1,1,1]) _
abbrev p168x11000:=KE (pt a168.body [1,1,0,0,0]) _
abbrev p170x10100:=KE (pt a170.body [1,0,1,0,0]) _
end Go.Ly
namespace Go.Ly
open Go Go.Am
structure Has (fns:Go.Am.F) (orc:Orc):Prop where
 f3:fns 3=some a3
 o3:orc 3=none
 f4:fns 4=some a4
 o4:orc 4=none
 f5:fns 5=some a5
 o5:orc 5=none
 f7:fns 7=some a7
 o7:orc 7=none
 f8:fns 8=some a8
 o8:orc 8=none
 f9:fns 9=some a9
 o9:orc 9=none
 f10:fns 10=some a10
 o10:orc 10=none
 f11:fns 11=some a11
 o11:orc 11=none
 f12:fns 12=some a12
 o12:orc 12=none
 f13:fns 13=some a13
 o13:orc 13=none
 f15:fns 15=some a15
 o15:orc 15=none
 f20:fns 20=some a20
 o20:orc 20=none
 f21:fns 21=some a21
 o21:orc 21=none
 f22:fns 22=some a22
 o22:orc 22=none
 f23:fns 23=some a23
 o23:orc 23=none
 f24:fns 24=some a24
 o24:orc 24=none
 f25:fns 25=some a25
 o25:orc 25=none
 f26:fns 26=some a26
 o26:orc 26=none
 f27:fns 27=some a27
 o27:orc 27=none
 f28:fns 28=some a28
 o28:orc 28=none
 f29:fns 29=some a29
 o29:orc 29=none
 f30:fns 30=some a30
 o30:orc 30=none
 f31:fns 31=some a31
 o31:orc 31=none
 f32:fns 32=some a32
 o32:orc 32=none
 f33:fns 33=some a33
 o33:orc 33=none
 f34:fns 34=some a34
 o34:orc 34=none
 f35:fns 35=some a35
 o35:orc 35=none
 f36:fns 36=some a36
 o36:orc 36=none
 f38:fns 38=some a38
 o38:orc 38=none
 f40:fns 40=some a40
 o40:orc 40=none
 f41:fns 41=some a41
 o41:orc 41=none
 f42:fns 42=some a42
 o42:orc 42=none
 f43:fns 43=some a43
 o43:orc 43=none
 f44:fns 44=some a44
 o44:orc 44=none
 f45:fns 45=some a45
 o45:orc 45=none
 f46:fns 46=some a46
 o46:orc 46=none
 f47:fns 47=some a47
 o47:orc 47=none
 f48:fns 48=some a48
 o48:orc 48=none
 f49:fns 49=some a49
 o49:orc 49=none
 f50:fns 50=some a50
 o50:orc 50=none
 f51:fns 51=some a51
 o51:orc 51=none
 f52:fns 52=some a52
 o52:orc 52=none
 f53:fns 53=some a53
 o53:orc 53=none
 f54:fns 54=some a54
 o54:orc 54=none
 f55:fns 55=some a55
 o55:orc 55=none
 f56:fns 56=some a56
 o56:orc 56=none
 f57:fns 57=some a57
 o57:orc 57=none
 f58:fns 58=some a58
 o58:orc 58=none
 f59:fns 59=some a59
 o59:orc 59=none
 f60:fns 60=some a60
 o60:orc 60=none
 f62:fns 62=some a62
 o62:orc 62=none
 f63:fns 63=some a63
 o63:orc 63=none
 f64:fns 64=some a64
 o64:orc 64=none
 f65:fns 65=some a65
 o65:orc 65=none
 f66:fns 66=some a66
 o66:orc 66=none
 f67:fns 67=some a67
 o67:orc 67=none
 f68:fns 68=some a68
 o68:orc 68=none
 f69:fns 69=some a69
 o69:orc 69=none
 f70:fns 70=some a70
 o70:orc 70=none
 f71:fns 71=some a71
 o71:orc 71=none
 f72:fns 72=some a72
 o72:orc 72=none
 f73:fns 73=some a73
 o73:orc 73=none
 f74:fns 74=some a74
 o74:orc 74=none
 f75:fns 75=some a75
 o75:orc 75=none
 f76:fns 76=some a76
 o76:orc 76=none
 f77:fns 77=some a77
 o77:orc 77=none
 f78:fns 78=some a78
 o78:orc 78=none
 f79:fns 79=some a79
 o79:orc 79=none
 f80:fns 80=some a80
 o80:orc 80=none
 f81:fns 81=some a81
 o81:orc 81=none
 f82:fns 82=some a82
 o82:orc 82=none
 f83:fns 83=some a83
 o83:orc 83=none
 f84:fns 84=some a84
 o84:orc 84=none
 f85:fns 85=some a85
 o85:orc 85=none
 f86:fns 86=some a86
 o86:orc 86=none
 f87:fns 87=some a87
 o87:orc 87=none
 f88:fns 88=some a88
 o88:orc 88=none
 f89:fns 89=some a89
 o89:orc 89=none
 f90:fns 90=some a90
 o90:orc 90=none
 f91:fns 91=some a91
 o91:orc 91=none
 f92:fns 92=some a92
 o92:orc 92=none
 f93:fns 93=some a93
 o93:orc 93=none
 f94:fns 94=some a94
 o94:orc 94=none
 f95:fns 95=some a95
 o95:orc 95=none
 f96:fns 96=some a96
 o96:orc 96=none
 f97:fns 97=some a97
 o97:orc 97=none
 f98:fns 98=some a98
 o98:orc 98=none
 f99:fns 99=some a99
 o99:orc 99=none
 f100:fns 100=some a100
 o100:orc 100=none
 f101:fns 101=some a101
 o101:orc 101=none
 f102:fns 102=some a102
 o102:orc 102=none
 f103:fns 103=some a103
 o103:orc 103=none
 f104:fns 104=some a104
 o104:orc 104=none
 f105:fns 105=some a105
 o105:orc 105=none
 f106:fns 106=some a106
 o106:orc 106=none
 f107:fns 107=some a107
 o107:orc 107=none
 f108:fns 108=some a108
 o108:orc 108=none
 f109:fns 109=some a109
 o109:orc 109=none
 f110:fns 110=some a110
 o110:orc 110=none
 f111:fns 111=some a111
 o111:orc 111=none
 f112:fns 112=some a112
 o112:orc 112=none
 f113:fns 113=some a113
 o113:orc 113=none
 f114:fns 114=some a114
 o114:orc 114=none
 f115:fns 115=some a115
 o115:orc 115=none
 f116:fns 116=some a116
 o116:orc 116=none
 f117:fns 117=some a117
 o117:orc 117=none
 f118:fns 118=some a118
 o118:orc 118=none
 f119:fns 119=some a119
 o119:orc 119=none
 f120:fns 120=some a120
 o120:orc 120=none
 f121:fns 121=some a121
 o121:orc 121=none
 f122:fns 122=some a122
 o122:orc 122=none
 f123:fns 123=some a123
 o123:orc 123=none
 f124:fns 124=some a124
 o124:orc 124=none
 f125:fns 125=some a125
 o125:orc 125=none
 f126:fns 126=some a126
 o126:orc 126=none
 f127:fns 127=some a127
 o127:orc 127=none
 f128:fns 128=some a128
 o128:orc 128=none
 f129:fns 129=some a129
 o129:orc 129=none
 f130:fns 130=some a130
 o130:orc 130=none
 f131:fns 131=some a131
 o131:orc 131=none
 f132:fns 132=some a132
 o132:orc 132=none
 f133:fns 133=some a133
 o133:orc 133=none
 f134:fns 134=some a134
 o134:orc 134=none
 f135:fns 135=some a135
 o135:orc 135=none
 f136:fns 136=some a136
 o136:orc 136=none
 f137:fns 137=some a137
 o137:orc 137=none
 f138:fns 138=some a138
 o138:orc 138=none
 f139:fns 139=some a139
 o139:orc 139=none
 f140:fns 140=some a140
 o140:orc 140=none
 f141:fns 141=some a141
 o141:orc 141=none
 f142:fns 142=some a142
 o142:orc 142=none
 f143:fns 143=some a143
 o143:orc 143=none
 f144:fns 144=some a144
 o144:orc 144=none
 f145:fns 145=some a145
 o145:orc 145=none
 f146:fns 146=some a146
 o146:orc 146=none
 f149:fns 149=some a149
 o149:orc 149=none
 f150:fns 150=some a150
 o150:orc 150=none
 f151:fns 151=some a151
 o151:orc 151=none
 f152:fns 152=some a152
 o152:orc 152=none
 f153:fns 153=some a153
 o153:orc 153=none
 f154:fns 154=some a154
 o154:orc 154=none
 f155:fns 155=some a155
 o155:orc 155=none
 f156:fns 156=some a156
 o156:orc 156=none
 f157:fns 157=some a157
 o157:orc 157=none
 f158:fns 158=some a158
 o158:orc 158=none
 f159:fns 159=some a159
 o159:orc 159=none
 f160:fns 160=some a160
 o160:orc 160=none
 f161:fns 161=some a161
 o161:orc 161=none
 f162:fns 162=some a162
 o162:orc 162=none
 f163:fns 163=some a163
 o163:orc 163=none
 f164:fns 164=some a164
 o164:orc 164=none
 f165:fns 165=some a165
 o165:orc 165=none
 f166:fns 166=some a166
 o166:orc 166=none
 f168:fns 168=some a168
 o168:orc 168=none
 f170:fns 170=some a170
 o170:orc 170=none
 f171:fns 171=some a171
 o171:orc 171=none
end Go.Ly
namespace Go.Ly
open Go Go.Am Go.Fs Go.Gn
variable {fns:Go.Am.F} {orc:Orc}
theorem vB (t:Tk):OL t t=true:=by cases t<;>simp [OL]
theorem Au (k:IntKind):kEq k k=true:=by cases k<;>rfl
theorem Hb:∀n:List (List UInt8),kJ (n.map AV.str) (n.map AV.str)=true
 |[]=>by simp [kJ]
 |a::n=>by simp [kJ,dS,jT,Hb n]
theorem uR {v:AV} {n:List (List UInt8)} (h:iK v (n.map AV.str)):dS v v=true:=by
 generalize hx:n.map AV.str=xs at h
 cases h with
 |nil=>simp [dS]
 |sl tk xs=>subst hx;simp [dS,vB,Hb]
mutual
theorem A7:∀{p:Part} {v:AV},RV p v→dS v v=true
 |_,_,.exp h1 h2=>by simp [dS,kJ,Au,iM,jT,jK h1,jK h2]
 |_,_,.desc h1 h2 h3 h4 h5=>by simp [dS,kJ,jT,iE,jK h1,jK h2,jK h3,jK h4,jK h5]
 |_,_,.decl h0 h1 h2 h3=>by simp [dS,kJ,Au,iM,uR h0,jK h1,jK h2,jK h3]
 |_,_,.imp h1 h2 h3=>by simp [dS,kJ,Au,iM,jT,iE,jK h1,jK h2,jK h3]
 |_,_,.case h1 h2=>by simp [dS,kJ,jK h1,jK h2]
theorem jK:∀{l:List Part} {v:AV},RVs l v→dS v v=true
 |_,_,.nil=>by simp [dS]
 |_,_,.sl tk h=>by simp [dS,vB,QG h]
theorem QG:∀{l:List Part} {xs:List AV},RVL l xs→kJ xs xs=true
 |_,_,.nil=>by simp [kJ]
 |_,_,.cons h1 h2=>by simp [kJ,A7 h1,QG h2]
end
theorem oL (n:Nat) (a b:AV):LG n a b=dS a b:=rfl
theorem pV {l:List Part} {v:AV} (h:RVs l v):v.known=true:=by cases h<;>rfl
theorem jU {l:List Part} {v:AV} (h:RVs l v):v.cells=[v]:=by cases h<;>rfl
theorem iY {rec:Task→R Ans} {rd:Option Nat} (q:Nat) (vs:List aD) (rs:List CT) (s:St):Fk rec rd [] q vs rs s= .ok ⟨.normal,s,vs,rs⟩:=rfl
theorem iH {rec:Task→R Ans} {rd:Option Nat} (o:mT) (l:List mT) (q:Nat) (vs:List aD) (rs:List CT) (s:St):Fk rec rd (o::l) q vs rs s=pZ rec rd o.o l (Fk rec rd l) q vs rs s o.k:=rfl
theorem fR (h:aD):rN [] h=h:=rfl
theorem dZ (o:kZ) (l:List mT) (h:aD):rN (⟨o,.soft⟩::l) h=rN l h:=rfl
theorem eD (o:kZ) (w:List Nat) (l:List mT) (h:aD):rN (⟨o,.look w⟩::l) h=rN l h:=rfl
theorem eE (o:kZ) (b:List Bool) (l:List mT) (h:aD):rN (⟨o,.uB b⟩::l) h=rN l h:=rfl
theorem fQ (o:kZ) (z:List AV) (w:List Nat) (l:List mT) (h:aD):rN (⟨o,.pre z w⟩::l) h=rN l (h.push (.cells z)):=rfl
theorem dH (k:IntKind) (n:Int):dS (.int k n) (.int k n)=true:=by simp [dS,Au,iM]
theorem dV (i o:Nat):dS (.ptr i o) (.ptr i o)=true:=by simp [dS]
theorem dB (b:Bool):dS (.bool b) (.bool b)=true:=by simp [dS,iE]
theorem dW (b:List UInt8):dS (.str b) (.str b)=true:=by simp [dS,jT]
theorem bN:dS .aC .aC=true:=by simp [dS]
theorem iZ (f:FuncId):dS (.fn f [] []) (.fn f [] [])=true:=by simp [dS,kJ]
theorem Kf (H:Has fns orc) {p:pD} {c:List AV} (hv:RV (.exp p) (.agg c)) (h:aD):∃h',aR h h' ∧Ev fns orc (.call 87 [.agg c] .plain h) (.call (.ret (.agg (aW (.exp p) c))) .plain h'):=by
 cases hv with
 |exp h1 h2=>
  refine ⟨?hh, ?g,Ev.call H.f87 H.o87 ⟨0,fun m _=> ?b⟩⟩
  case b=>
   have c1:=aP h1;have c2:=aP h2
   exact SA (cj4 @a87.eq_1 c1 c2 @KF.eq_1)
  case g=>exact (((aR.refl h).sL _).sL _).set (by simp) (by simp) _
theorem A9 (H:Has fns orc) {p:pG} {c:List AV} (hv:RV (.desc p) (.agg c)) (h:aD):∃h',aR h h' ∧Ev fns orc (.call 49 [.agg c] .plain h) (.call (.ret (.agg (aW (.desc p) c))) .plain h'):=by
 cases hv with
 |desc h1 h2 h3 h4 h5=>
  refine ⟨?hh, ?g,Ev.call H.f49 H.o49 ⟨0,fun m _=> ?b⟩⟩
  case b=>
   have c1:=aP h1;have c2:=aP h2;have c3:=aP h3;have c4:=aP h4;have c5:=aP h5
   exact SA (cj7 @a49.eq_1 c1 c2 c3 c4 c5 @KF.eq_1)
  case g=>exact (((aR.refl h).sL _).sL _).set (by simp) (by simp) _
theorem HW (H:Has fns orc) {p:lH} {c:List AV} (hv:RV (.decl p) (.agg c)) (h:aD):∃h',aR h h' ∧Ev fns orc (.call 97 [.agg c] .plain h) (.call (.ret (.agg (aW (.decl p) c))) .plain h'):=by
 cases hv with
 |decl h0 h1 h2 h3=>
  refine ⟨?hh, ?g,Ev.call H.f97 H.o97 ⟨0,fun m _=> ?b⟩⟩
  case b=>
   have c0:=qC h0;have c1:=aP h1;have c2:=aP h2;have c3:=aP h3
   exact SA (cj6 @a97.eq_1 c0 c1 c2 c3 @KF.eq_1)
  case g=>exact (((aR.refl h).sL _).sL _).set (by simp) (by simp) _
theorem Kb (H:Has fns orc) {p:qE} {c:List AV} (hv:RV (.imp p) (.agg c)) (h:aD):∃h',aR h h' ∧Ev fns orc (.call 91 [.agg c] .plain h) (.call (.ret (.agg (aW (.imp p) c))) .plain h'):=by
 cases hv with
 |imp h1 h2 h3=>
  refine ⟨?hh, ?g,Ev.call H.f91 H.o91 ⟨0,fun m _=> ?b⟩⟩
  case b=>
   have c1:=aP h1;have c2:=aP h2;have c3:=aP h3
   exact SA (cj5 @a91.eq_1 c1 c2 c3 @KF.eq_1)
  case g=>exact (((aR.refl h).sL _).sL _).set (by simp) (by simp) _
theorem HX (H:Has fns orc) {p:uY} {c:List AV} (hv:RV (.case p) (.agg c)) (h:aD):∃h',aR h h' ∧Ev fns orc (.call 101 [.agg c] .plain h) (.call (.ret (.agg (aW (.case p) c))) .plain h'):=by
 cases hv with
 |case h1 h2=>
  refine ⟨?hh, ?g,Ev.call H.f101 H.o101 ⟨0,fun m _=> ?b⟩⟩
  case b=>
   have c1:=aP h1;have c2:=aP h2
   exact SA (cj4 @a101.eq_1 c1 c2 @KF.eq_1)
  case g=>exact (((aR.refl h).sL _).sL _).set (by simp) (by simp) _
theorem Ci {f g:Nat} {afn:AFn} {sz:Nat} {z:List AV} (hf:fns f=some afn) (ho:orc f=none) (hbd:afn.body=Ee sz z) (hr:afn.results=[]) (hz:z.length=sz) {l:List Part} {v:AV} (hv:RVs l v) (hn:l.length<30000000)
  (hof:∀p∈l,∀c,RV p (.agg c)→c.length=sz∧∀h:aD,∃h',aR h h' ∧Ev fns orc (.call g [.agg c] .plain h) (.call (.ret (.agg (aW p c))) .plain h')):
  ∃ys,RPL l ys∧∀(bl bo:Nat) (P:Nat→Prop) (h0:aD),P bl→P bo→h0.get bl=some (.cells [v])→h0.get bo=some (.cells [.fn g [] []])→rR fns orc f [.ptr bl 0,.ptr bo 0] ys P h0:=by
 obtain ⟨xs,h1,h2,h3⟩:=jX hv
 have key:∀(l:List Part) (xs:List AV),xs.length=l.length→(∀i (hi:i<l.length),∃c,xs[i]? =some (.agg c)∧RV l[i] (.agg c))→
   ∃ys,RPL l ys∧ys.length=l.length∧∀i (hi:i<l.length),∃c,xs[i]? =some (.agg c)∧RV l[i] (.agg c)∧ys[i]? =some (.agg (aW l[i] c)):=by
  intro l
  induction l with
  |nil=>intro xs _ _;exact ⟨[],.nil,rfl,fun i hi=>by simp at hi⟩
  |cons p l ih=>
   intro xs hl hx
   cases xs with
   |nil=>simp at hl
   |cons x xs=>
    obtain ⟨c,e,r⟩:=hx 0 (by simp)
    obtain ⟨ys,r1,r2,r3⟩:=ih xs (by simpa using hl) (fun i hi=>by obtain ⟨d,u,w⟩:=hx (i+1) (by simp;omega);exact ⟨d,u,w⟩)
    refine ⟨.agg (aW p c)::ys,.cons ⟨c,by simpa using r,rfl⟩ r1,by simp [r2],fun i hi=> ?_⟩
    cases i with
    |zero=>exact ⟨c,e,r,rfl⟩
    |succ i=>obtain ⟨d,u,w,k⟩:=r3 i (by simp at hi;omega);exact ⟨d,u,w,k⟩
 obtain ⟨ys,r1,r2,r3⟩:=key l xs h2 h3
 refine ⟨ys,r1,fun bl bo P h0 b1 b2 g1 g2=>Lg hf ho hbd hr hz h1 om om (fun i hi=> ?_) b1 b2 g1 g2⟩
 obtain ⟨c,e1,e2,e3⟩:=r3 i om
 obtain ⟨o1,o2⟩:=hof _ (List.getElem_mem om) c e2
 refine ⟨c,e1,o1, ?_,fun h=> ?_⟩
 ·have:=lE e2
  cases hp:l[i]'om<;>rw [hp] at this<;>simp only [aW,List.all_cons,List.all_append,Bool.and_eq_true] at this<;>simp_all
 ·obtain ⟨h',g',e'⟩:=o2 h
  have:ys[i]'om= .agg (aW (l[i]'om) c):=by rw [List.getElem?_eq_getElem om] at e3;exact Option.some.inj e3
  rw [this]
  exact ⟨h',g',e'⟩
theorem tV (H:Has fns orc) {v:AV} (hk:v.known=true) (hc:v.cells=[v]) (g:Nat) (h:aD) (m:Nat) (hm:2≤m):
  eval fns orc m (.call 105 [v,.fn g [] []] .plain h)= .ok (.call (.ret (.fn 122 [] [.ptr h.next 0,.ptr (h.next+1) 0])) .plain ((h.push (.cells [v])).push (.cells [.fn g [] []]))):=
 fP (n:=0) H.f105 H.o105 (fun m _=>by
  exact SA (cj4 @a105.eq_1 hk hc @KF.eq_1)) m hm
theorem HH (H:Has fns orc) {v:AV} (hk:v.known=true) (hc:v.cells=[v]) (g:Nat) (h:aD) (m:Nat) (hm:2≤m):
  eval fns orc m (.call 106 [v,.fn g [] []] .plain h)= .ok (.call (.ret (.fn 123 [] [.ptr h.next 0,.ptr (h.next+1) 0])) .plain ((h.push (.cells [v])).push (.cells [.fn g [] []]))):=
 fP (n:=0) H.f106 H.o106 (fun m _=>by
  exact SA (cj4 @a106.eq_1 hk hc @KF.eq_1)) m hm
theorem BJ (H:Has fns orc) {v:AV} (hk:v.known=true) (hc:v.cells=[v]) (g:Nat) (h:aD) (m:Nat) (hm:2≤m):
  eval fns orc m (.call 107 [v,.fn g [] []] .plain h)= .ok (.call (.ret (.fn 124 [] [.ptr h.next 0,.ptr (h.next+1) 0])) .plain ((h.push (.cells [v])).push (.cells [.fn g [] []]))):=
 fP (n:=0) H.f107 H.o107 (fun m _=>by
  exact SA (cj4 @a107.eq_1 hk hc @KF.eq_1)) m hm
theorem Da (H:Has fns orc) {v:AV} (hk:v.known=true) (hc:v.cells=[v]) (g:Nat) (h:aD) (m:Nat) (hm:2≤m):
  eval fns orc m (.call 108 [v,.fn g [] []] .plain h)= .ok (.call (.ret (.fn 125 [] [.ptr h.next 0,.ptr (h.next+1) 0])) .plain ((h.push (.cells [v])).push (.cells [.fn g [] []]))):=
 fP (n:=0) H.f108 H.o108 (fun m _=>by
  exact SA (cj4 @a108.eq_1 hk hc @KF.eq_1)) m hm
theorem HI (H:Has fns orc) {v:AV} (hk:v.known=true) (hc:v.cells=[v]) (g:Nat) (h:aD) (m:Nat) (hm:2≤m):
  eval fns orc m (.call 109 [v,.fn g [] []] .plain h)= .ok (.call (.ret (.fn 126 [] [.ptr h.next 0,.ptr (h.next+1) 0])) .plain ((h.push (.cells [v])).push (.cells [.fn g [] []]))):=
 fP (n:=0) H.f109 H.o109 (fun m _=>by
  exact SA (cj4 @a109.eq_1 hk hc @KF.eq_1)) m hm
theorem SD {f p:Prop} (x:f) (h:f→p:=by intro x;simp -implicitDefEqProofs (maxSteps:=3000000) (disch:=(first|omega|(simp only [aD.aJ,aD.aL];try omega)|skip)) only [x,eH,fC,fE,dQ,cQ,aI,dP,cP,fD,dO,gJ,eO,aM,dG,iD,opA,qP,kE,qQ,pH,rE,rZ,dC,gH,fN,qG,lU,iU,fV,mE,dK,eW,Nat.beq,lQ,lX,dX,vl,qX,eV,eT,dR,fI,fF,fG,bW,iA,gX,cS,fJ,fH,bX,gZ,cR,cU,cV,cT,fK,dJ,eQ,eR,bO,gU,gN,cH,eU,eS,bP,gS,cG,cJ,cK,cI,eP,dL,aY,dE,aZ,fA,bT,bQ,bV,bR,dM,fB,eK,kH,lS,bK,aQ,aU,fL,gM,takeN,List.drop_zero,List.drop_succ_cons,rS,oEq,eqA,pO,ki,eL,dY,oneOf,gV,jC,mQ,called,List.append_eq,List.nil_append,List.cons_append,List.append_assoc,Nat.zero_add,Nat.add_zero,kL,lF,cW,kQ,kK,aO,aE,aD.aJ,aD.aL,List.length_cons,List.length_nil,Bool.and_true,Bool.true_and,List.all_cons,List.all_nil,bI,bY,bM,bD,eZ,Nat.reduceAdd,Nat.reduceEqDiff,Nat.reduceBEq,ite_true,ite_false,if_true,if_false,iM,kG,jI,iE,iL,dI,fW,decide_eq_true_eq,decide_true,decide_false,qS,intArith,Int.ofNat_zero,reduceCtorEq,Bool.not_true,Bool.not_false,Bool.false_eq_true,Int.reduceEq,Int.reduceAdd,Int.zero_add,Int.add_zero,lW,aW,pU,jY,kD,pT,kY,dN,cM,mX,mZ,nH,nJ,iI,qA,iH,iY,pZ,iR,jM,iT,oX,fR,dZ,eD,eE,fQ,kI,lV,pK,mJ,jR,iQ,List.reverse_cons,List.reverse_nil,oL,dH,dV,dB,dW,bN,iZ,jL,kW,KF,KG];try rfl):p:=h x
end Go.Ly
namespace Go.Ly
open Go Go.Am Go.Fs Go.Gn
variable {fns:Go.Am.F} {orc:Orc}
theorem Po (H:Has fns orc) {d:pG} {s0:List UInt8} {b0:Bool} {v0 v1 v2 v3 v4:AV} (kn0:v0.known=true) (ce0:v0.cells=[v0]) (ic0:v0.cF=true) (eq0:dS v0 v0=true) (kn1:v1.known=true) (ce1:v1.cells=[v1]) (ic1:v1.cF=true) (eq1:dS v1 v1=true) (kn2:v2.known=true) (ce2:v2.cells=[v2]) (ic2:v2.cF=true) (eq2:dS v2 v2=true) (kn3:v3.known=true) (ce3:v3.cells=[v3]) (ic3:v3.cF=true) (eq3:dS v3 v3=true) (kn4:v4.known=true) (ce4:v4.cells=[v4]) (ic4:v4.cF=true) (eq4:dS v4 v4=true) (h:aD):
  ∃hF,Ev fns orc (.call 79 [.agg (aW (.desc d) [.str s0,v0,v1,v2,.bool b0,v3,v4])] .plain h) (.call (.ret (.fn 110 [] [.ptr (h.next+1) 0])) .plain hF)∧aR h hF∧hF.next=h.next+13∧
   hF.get (h.next+1)=some (.cells [.sl .full [.fn 122 [] [.ptr (h.next+3) 0,.ptr (h.next+4) 0],.fn 123 [] [.ptr (h.next+5) 0,.ptr (h.next+6) 0],.fn 122 [] [.ptr (h.next+7) 0,.ptr (h.next+8) 0],.fn 124 [] [.ptr (h.next+9) 0,.ptr (h.next+10) 0],.fn 122 [] [.ptr (h.next+11) 0,.ptr (h.next+12) 0]]])∧hF.get (h.next+3)=some (.cells [v0])∧hF.get (h.next+4)=some (.cells [.fn 87 [] []])∧hF.get (h.next+5)=some (.cells [v1])∧hF.get (h.next+6)=some (.cells [.fn 97 [] []])∧hF.get (h.next+7)=some (.cells [v2])∧hF.get (h.next+8)=some (.cells [.fn 87 [] []])∧hF.get (h.next+9)=some (.cells [v3])∧hF.get (h.next+10)=some (.cells [.fn 91 [] []])∧hF.get (h.next+11)=some (.cells [v4])∧hF.get (h.next+12)=some (.cells [.fn 87 [] []]):=by
 refine ⟨?hF,Ev.call H.f79 H.o79 ⟨2,fun m hm=> ?b⟩, ?g, ?n, ?r⟩
 case b=>
  have q0:=fun h=>tV H kn0 ce0 87 h m om
  have q1:=fun h=>HH H kn1 ce1 97 h m om
  have q2:=fun h=>tV H kn2 ce2 87 h m om
  have q3:=fun h=>BJ H kn3 ce3 91 h m om
  have q4:=fun h=>tV H kn4 ce4 87 h m om
  exact SD (dD @a79.eq_1 kn0 ce0 ic0 eq0 kn1 ce1 ic1 eq1 kn2 ce2 ic2 eq2 kn3 ce3 ic3 (sH eq3 kn4 ce4 ic4 eq4 q0 q1 q2 q3 q4 @KF.eq_1))
 case g=>exact gw2
 case n=>simp
 case r=>refine ⟨?_, ?_, ?_, ?_, ?_, ?_, ?_, ?_, ?_, ?_, ?_⟩<;>simp (disch:=(first|omega|(simp only [aD.aJ,aD.aL];try omega)|skip)) only [aO,aE,aQ,aU,aD.aJ,aD.aL]
theorem Pp (H:Has fns orc) {d:lH} {k0:Int} {n0:AV} {v0 v1 v2:AV} (hn0:n0.cF=true) (kn0:v0.known=true) (ce0:v0.cells=[v0]) (ic0:v0.cF=true) (eq0:dS v0 v0=true) (kn1:v1.known=true) (ce1:v1.cells=[v1]) (ic1:v1.cF=true) (eq1:dS v1 v1=true) (kn2:v2.known=true) (ce2:v2.cells=[v2]) (ic2:v2.cF=true) (eq2:dS v2 v2=true) (h:aD):
  ∃hF,Ev fns orc (.call 79 [.agg (aW (.decl d) [.int .i64 k0,n0,v0,v1,v2])] .plain h) (.call (.ret (.fn 110 [] [.ptr (h.next+1) 0])) .plain hF)∧aR h hF∧hF.next=h.next+8∧
   hF.get (h.next+1)=some (.cells [.sl .full [.fn 122 [] [.ptr (h.next+2) 0,.ptr (h.next+3) 0],.fn 122 [] [.ptr (h.next+4) 0,.ptr (h.next+5) 0],.fn 125 [] [.ptr (h.next+6) 0,.ptr (h.next+7) 0]]])∧hF.get (h.next+2)=some (.cells [v0])∧hF.get (h.next+3)=some (.cells [.fn 87 [] []])∧hF.get (h.next+4)=some (.cells [v1])∧hF.get (h.next+5)=some (.cells [.fn 87 [] []])∧hF.get (h.next+6)=some (.cells [v2])∧hF.get (h.next+7)=some (.cells [.fn 49 [] []]):=by
 refine ⟨?hF,Ev.call H.f79 H.o79 ⟨2,fun m hm=> ?b⟩, ?g, ?n, ?r⟩
 case b=>
  have q0:=fun h=>tV H kn0 ce0 87 h m om
  have q1:=fun h=>tV H kn1 ce1 87 h m om
  have q2:=fun h=>Da H kn2 ce2 49 h m om
  exact SD (dD @a79.eq_1 kn0 ce0 ic0 eq0 kn1 ce1 ic1 eq1 kn2 ce2 ic2 eq2 hn0 q0 q1 (cj2 q2 @KF.eq_1))
 case g=>exact gw2
 case n=>simp
 case r=>refine ⟨?_, ?_, ?_, ?_, ?_, ?_, ?_⟩<;>simp (disch:=(first|omega|(simp only [aD.aJ,aD.aL];try omega)|skip)) only [aO,aE,aQ,aU,aD.aJ,aD.aL]
theorem Rz (H:Has fns orc) {d:qE} {k0:Int} {s0:List UInt8} {b0:Bool} {v0 v1 v2:AV} (kn0:v0.known=true) (ce0:v0.cells=[v0]) (ic0:v0.cF=true) (eq0:dS v0 v0=true) (kn1:v1.known=true) (ce1:v1.cells=[v1]) (ic1:v1.cF=true) (eq1:dS v1 v1=true) (kn2:v2.known=true) (ce2:v2.cells=[v2]) (ic2:v2.cF=true) (eq2:dS v2 v2=true) (h:aD):
  ∃hF,Ev fns orc (.call 79 [.agg (aW (.imp d) [.int .i64 k0,.str s0,v0,v1,.bool b0,v2])] .plain h) (.call (.ret (.fn 110 [] [.ptr (h.next+1) 0])) .plain hF)∧aR h hF∧hF.next=h.next+8∧
   hF.get (h.next+1)=some (.cells [.sl .full [.fn 122 [] [.ptr (h.next+2) 0,.ptr (h.next+3) 0],.fn 126 [] [.ptr (h.next+4) 0,.ptr (h.next+5) 0],.fn 124 [] [.ptr (h.next+6) 0,.ptr (h.next+7) 0]]])∧hF.get (h.next+2)=some (.cells [v0])∧hF.get (h.next+3)=some (.cells [.fn 87 [] []])∧hF.get (h.next+4)=some (.cells [v1])∧hF.get (h.next+5)=some (.cells [.fn 101 [] []])∧hF.get (h.next+6)=some (.cells [v2])∧hF.get (h.next+7)=some (.cells [.fn 91 [] []]):=by
 refine ⟨?hF,Ev.call H.f79 H.o79 ⟨2,fun m hm=> ?b⟩, ?g, ?n, ?r⟩
 case b=>
  have q0:=fun h=>tV H kn0 ce0 87 h m om
  have q1:=fun h=>HI H kn1 ce1 101 h m om
  have q2:=fun h=>BJ H kn2 ce2 91 h m om
  exact SD (dD @a79.eq_1 kn0 ce0 ic0 eq0 kn1 ce1 ic1 eq1 kn2 ce2 ic2 eq2 q0 q1 q2 @KF.eq_1)
 case g=>exact gw2
 case n=>simp
 case r=>refine ⟨?_, ?_, ?_, ?_, ?_, ?_, ?_⟩<;>simp (disch:=(first|omega|(simp only [aD.aJ,aD.aL];try omega)|skip)) only [aO,aE,aQ,aU,aD.aJ,aD.aL]
theorem Pq (H:Has fns orc) {d:uY} {v0 v1:AV} (kn0:v0.known=true) (ce0:v0.cells=[v0]) (ic0:v0.cF=true) (eq0:dS v0 v0=true) (kn1:v1.known=true) (ce1:v1.cells=[v1]) (ic1:v1.cF=true) (eq1:dS v1 v1=true) (h:aD):
  ∃hF,Ev fns orc (.call 79 [.agg (aW (.case d) [v0,v1])] .plain h) (.call (.ret (.fn 110 [] [.ptr (h.next+1) 0])) .plain hF)∧aR h hF∧hF.next=h.next+6∧
   hF.get (h.next+1)=some (.cells [.sl .full [.fn 122 [] [.ptr (h.next+2) 0,.ptr (h.next+3) 0],.fn 124 [] [.ptr (h.next+4) 0,.ptr (h.next+5) 0]]])∧hF.get (h.next+2)=some (.cells [v0])∧hF.get (h.next+3)=some (.cells [.fn 87 [] []])∧hF.get (h.next+4)=some (.cells [v1])∧hF.get (h.next+5)=some (.cells [.fn 91 [] []]):=by
 refine ⟨?hF,Ev.call H.f79 H.o79 ⟨2,fun m hm=> ?b⟩, ?g, ?n, ?r⟩
 case b=>
  have q0:=fun h=>tV H kn0 ce0 87 h m om
  have q1:=fun h=>BJ H kn1 ce1 91 h m om
  exact SD (qD @a79.eq_1 kn0 ce0 ic0 eq0 kn1 ce1 ic1 eq1 q0 q1 @KF.eq_1)
 case g=>exact gw2
 case n=>simp
 case r=>refine ⟨?_, ?_, ?_, ?_, ?_⟩<;>simp (disch:=(first|omega|(simp only [aD.aJ,aD.aL];try omega)|skip)) only [aO,aE,aQ,aU,aD.aJ,aD.aL]
theorem RA (H:Has fns orc) {d:pD} {k0 k1 k2 k3 k4:Int} {s0:List UInt8} {v0 v1:AV} (kn0:v0.known=true) (ce0:v0.cells=[v0]) (ic0:v0.cF=true) (eq0:dS v0 v0=true) (kn1:v1.known=true) (ce1:v1.cells=[v1]) (ic1:v1.cF=true) (eq1:dS v1 v1=true) (h:aD):
  ∃hF,Ev fns orc (.call 79 [.agg (aW (.exp d) [.int .i64 k0,.int .i64 k1,.int .i64 k2,.int .i64 k3,.int .i64 k4,.str s0,v0,v1])] .plain h) (.call (.ret (.fn 110 [] [.ptr (h.next+1) 0])) .plain hF)∧aR h hF∧hF.next=h.next+6∧
   hF.get (h.next+1)=some (.cells [.sl .full [.fn 122 [] [.ptr (h.next+2) 0,.ptr (h.next+3) 0],.fn 125 [] [.ptr (h.next+4) 0,.ptr (h.next+5) 0]]])∧hF.get (h.next+2)=some (.cells [v0])∧hF.get (h.next+3)=some (.cells [.fn 87 [] []])∧hF.get (h.next+4)=some (.cells [v1])∧hF.get (h.next+5)=some (.cells [.fn 49 [] []]):=by
 refine ⟨?hF,Ev.call H.f79 H.o79 ⟨2,fun m hm=> ?b⟩, ?g, ?n, ?r⟩
 case b=>
  have q0:=fun h=>tV H kn0 ce0 87 h m om
  have q1:=fun h=>Da H kn1 ce1 49 h m om
  exact SD (qD @a79.eq_1 kn0 ce0 ic0 eq0 kn1 ce1 ic1 eq1 q0 q1 @KF.eq_1)
 case g=>exact gw2
 case n=>simp
 case r=>refine ⟨?_, ?_, ?_, ?_, ?_⟩<;>simp (disch:=(first|omega|(simp only [aD.aJ,aD.aL];try omega)|skip)) only [aO,aE,aQ,aU,aD.aJ,aD.aL]
end Go.Ly
namespace Go.Ly
open Go Go.Am Go.Fs Go.Gn
variable {fns:Go.Am.F} {orc:Orc}
theorem B7 (H:Has fns orc) {a:List pD} {v:AV} (hv:RVs (a.map Part.exp) v) (hn:a.length<30000000):
  ∃ys,RPL (a.map Part.exp) ys∧∀(bl bo:Nat) (P:Nat→Prop) (h0:aD),P bl→P bo→h0.get bl=some (.cells [v])→h0.get bo=some (.cells [.fn 87 [] []])→rR fns orc 122 [.ptr bl 0,.ptr bo 0] ys P h0:=
 Ci (z:=pU) (sz:=8) H.f122 H.o122 rfl rfl rfl hv (by simpa using hn) (fun p hp c hr=>by
  obtain ⟨e,_,rfl⟩:=List.mem_map.1 hp
  exact ⟨pS hr,fun h=>Kf H hr h⟩)
theorem Tr (H:Has fns orc) {a:List lH} {v:AV} (hv:RVs (a.map Part.decl) v) (hn:a.length<30000000):
  ∃ys,RPL (a.map Part.decl) ys∧∀(bl bo:Nat) (P:Nat→Prop) (h0:aD),P bl→P bo→h0.get bl=some (.cells [v])→h0.get bo=some (.cells [.fn 97 [] []])→rR fns orc 123 [.ptr bl 0,.ptr bo 0] ys P h0:=
 Ci (z:=kD) (sz:=5) H.f123 H.o123 rfl rfl rfl hv (by simpa using hn) (fun p hp c hr=>by
  obtain ⟨e,_,rfl⟩:=List.mem_map.1 hp
  exact ⟨pJ hr,fun h=>HW H hr h⟩)
theorem L6 (H:Has fns orc) {a:List qE} {v:AV} (hv:RVs (a.map Part.imp) v) (hn:a.length<30000000):
  ∃ys,RPL (a.map Part.imp) ys∧∀(bl bo:Nat) (P:Nat→Prop) (h0:aD),P bl→P bo→h0.get bl=some (.cells [v])→h0.get bo=some (.cells [.fn 91 [] []])→rR fns orc 124 [.ptr bl 0,.ptr bo 0] ys P h0:=
 Ci (z:=pT) (sz:=6) H.f124 H.o124 rfl rfl rfl hv (by simpa using hn) (fun p hp c hr=>by
  obtain ⟨e,_,rfl⟩:=List.mem_map.1 hp
  exact ⟨yH hr,fun h=>Kb H hr h⟩)
theorem NH (H:Has fns orc) {a:List pG} {v:AV} (hv:RVs (a.map Part.desc) v) (hn:a.length<30000000):
  ∃ys,RPL (a.map Part.desc) ys∧∀(bl bo:Nat) (P:Nat→Prop) (h0:aD),P bl→P bo→h0.get bl=some (.cells [v])→h0.get bo=some (.cells [.fn 49 [] []])→rR fns orc 125 [.ptr bl 0,.ptr bo 0] ys P h0:=
 Ci (z:=jY) (sz:=7) H.f125 H.o125 rfl rfl rfl hv (by simpa using hn) (fun p hp c hr=>by
  obtain ⟨e,_,rfl⟩:=List.mem_map.1 hp
  exact ⟨kU hr,fun h=>A9 H hr h⟩)
theorem Tt (H:Has fns orc) {a:List uY} {v:AV} (hv:RVs (a.map Part.case) v) (hn:a.length<30000000):
  ∃ys,RPL (a.map Part.case) ys∧∀(bl bo:Nat) (P:Nat→Prop) (h0:aD),P bl→P bo→h0.get bl=some (.cells [v])→h0.get bo=some (.cells [.fn 101 [] []])→rR fns orc 126 [.ptr bl 0,.ptr bo 0] ys P h0:=
 Ci (z:=kY) (sz:=2) H.f126 H.o126 rfl rfl rfl hv (by simpa using hn) (fun p hp c hr=>by
  obtain ⟨e,_,rfl⟩:=List.mem_map.1 hp
  exact ⟨wU hr,fun h=>HX H hr h⟩)
theorem qN {l:List Part} {ys:List AV} (h:RPL l ys):∀y∈ys,∃c,y= .agg c∧c.length=29∧c.all AV.cF=true:=by
 induction h with
 |nil=>intro y hy;cases hy
 |cons hp _ ih=>
  intro y hy
  rcases List.mem_cons.1 hy with rfl|hy
  ·obtain ⟨c,r,rfl⟩:=hp
   exact ⟨_,rfl,jJ r,lE r⟩
  ·exact ih y hy
def z29:List AV:= .int .i64 0::(pU++jY++kD++pT++kY)
theorem As:a110.body=D9 z29:=rfl
theorem I6 (H:Has fns orc) {p:Part} {v:AV} (hp:RP p v) (hn:p.kids.length<30000000) (h:aD):
  ∃hF b3 ys,Ev fns orc (.call 79 [v] .plain h) (.call (.ret (.fn 110 [] [.ptr b3 0])) .plain hF)∧aR h hF∧RPL p.kids ys∧
   ∀P:Nat→Prop,(∀i,h.next≤i→i<hF.next→P i)→rR fns orc 110 [.ptr b3 0] ys P hF:=by
 obtain ⟨c,hv,rfl⟩:=hp
 cases hv with
 |desc h1 h2 h3 h4 h5=>
  simp only [Part.kids,List.length_append,List.length_map] at hn
  obtain ⟨y0,r0,q0⟩:=B7 H h1 om
  obtain ⟨y1,r1,q1⟩:=Tr H h2 om
  obtain ⟨y2,r2,q2⟩:=B7 H h3 om
  obtain ⟨y3,r3,q3⟩:=L6 H h4 om
  obtain ⟨y4,r4,q4⟩:=B7 H h5 om
  obtain ⟨hF,e,gr,nx,g,g0a,g0b,g1a,g1b,g2a,g2b,g3a,g3b,g4a,g4b⟩:=Po H (pV h1) (jU h1) (aP h1) (jK h1) (pV h2) (jU h2) (aP h2) (jK h2) (pV h3) (jU h3) (aP h3) (jK h3) (pV h4) (jU h4) (aP h4) (jK h4) (pV h5) (jU h5) (aP h5) (jK h5) h
  refine ⟨hF,h.next+1,y0++(y1++(y2++(y3++(y4++[])))),e,gr, ?_,fun P hP=> ?_⟩
  ·simp only [Part.kids,List.append_nil,List.append_assoc]
   exact qO r0 (qO r1 (qO r2 (qO r3 (r4))))
  ·have hq:∀q∈[(⟨122,[.ptr (h.next+3) 0,.ptr (h.next+4) 0],y0⟩:Sq),(⟨123,[.ptr (h.next+5) 0,.ptr (h.next+6) 0],y1⟩:Sq),(⟨122,[.ptr (h.next+7) 0,.ptr (h.next+8) 0],y2⟩:Sq),(⟨124,[.ptr (h.next+9) 0,.ptr (h.next+10) 0],y3⟩:Sq),(⟨122,[.ptr (h.next+11) 0,.ptr (h.next+12) 0],y4⟩:Sq)],(rR fns orc q.e q.capt q.ys P hF)∧∀y∈q.ys,∃c,y= .agg c∧c.length=29∧c.all AV.cF=true:=by
    intro q hq
    simp only [List.mem_cons,List.not_mem_nil,or_false] at hq
    rcases hq with rfl|rfl|rfl|rfl|rfl
    ·exact ⟨q0 _ _ P hF (hP _ om om) (hP _ om om) g0a g0b,qN r0⟩
    ·exact ⟨q1 _ _ P hF (hP _ om om) (hP _ om om) g1a g1b,qN r1⟩
    ·exact ⟨q2 _ _ P hF (hP _ om om) (hP _ om om) g2a g2b,qN r2⟩
    ·exact ⟨q3 _ _ P hF (hP _ om om) (hP _ om om) g3a g3b,qN r3⟩
    ·exact ⟨q4 _ _ P hF (hP _ om om) (hP _ om om) g4a g4b,qN r4⟩
   exact zF (z:=z29) H.f110 H.o110 As rfl rfl (.sl .full _) (by simp) (fun q hq' =>(hq q hq').2) (hP _ om om) g (fun q hq' =>(hq q hq').1)
 |decl h0 h1 h2 h3=>
  simp only [Part.kids,List.length_append,List.length_map] at hn
  obtain ⟨y0,r0,q0⟩:=B7 H h1 om
  obtain ⟨y1,r1,q1⟩:=B7 H h2 om
  obtain ⟨y2,r2,q2⟩:=NH H h3 om
  obtain ⟨hF,e,gr,nx,g,g0a,g0b,g1a,g1b,g2a,g2b⟩:=Pp H (qC h0) (pV h1) (jU h1) (aP h1) (jK h1) (pV h2) (jU h2) (aP h2) (jK h2) (pV h3) (jU h3) (aP h3) (jK h3) h
  refine ⟨hF,h.next+1,y0++(y1++(y2++[])),e,gr, ?_,fun P hP=> ?_⟩
  ·simp only [Part.kids,List.append_nil,List.append_assoc]
   exact qO r0 (qO r1 (r2))
  ·have hq:∀q∈[(⟨122,[.ptr (h.next+2) 0,.ptr (h.next+3) 0],y0⟩:Sq),(⟨122,[.ptr (h.next+4) 0,.ptr (h.next+5) 0],y1⟩:Sq),(⟨125,[.ptr (h.next+6) 0,.ptr (h.next+7) 0],y2⟩:Sq)],(rR fns orc q.e q.capt q.ys P hF)∧∀y∈q.ys,∃c,y= .agg c∧c.length=29∧c.all AV.cF=true:=by
    intro q hq
    simp only [List.mem_cons,List.not_mem_nil,or_false] at hq
    rcases hq with rfl|rfl|rfl
    ·exact ⟨q0 _ _ P hF (hP _ om om) (hP _ om om) g0a g0b,qN r0⟩
    ·exact ⟨q1 _ _ P hF (hP _ om om) (hP _ om om) g1a g1b,qN r1⟩
    ·exact ⟨q2 _ _ P hF (hP _ om om) (hP _ om om) g2a g2b,qN r2⟩
   exact zF (z:=z29) H.f110 H.o110 As rfl rfl (.sl .full _) (by simp) (fun q hq' =>(hq q hq').2) (hP _ om om) g (fun q hq' =>(hq q hq').1)
 |imp h1 h2 h3=>
  simp only [Part.kids,List.length_append,List.length_map] at hn
  obtain ⟨y0,r0,q0⟩:=B7 H h1 om
  obtain ⟨y1,r1,q1⟩:=Tt H h2 om
  obtain ⟨y2,r2,q2⟩:=L6 H h3 om
  obtain ⟨hF,e,gr,nx,g,g0a,g0b,g1a,g1b,g2a,g2b⟩:=Rz H (pV h1) (jU h1) (aP h1) (jK h1) (pV h2) (jU h2) (aP h2) (jK h2) (pV h3) (jU h3) (aP h3) (jK h3) h
  refine ⟨hF,h.next+1,y0++(y1++(y2++[])),e,gr, ?_,fun P hP=> ?_⟩
  ·simp only [Part.kids,List.append_nil,List.append_assoc]
   exact qO r0 (qO r1 (r2))
  ·have hq:∀q∈[(⟨122,[.ptr (h.next+2) 0,.ptr (h.next+3) 0],y0⟩:Sq),(⟨126,[.ptr (h.next+4) 0,.ptr (h.next+5) 0],y1⟩:Sq),(⟨124,[.ptr (h.next+6) 0,.ptr (h.next+7) 0],y2⟩:Sq)],(rR fns orc q.e q.capt q.ys P hF)∧∀y∈q.ys,∃c,y= .agg c∧c.length=29∧c.all AV.cF=true:=by
    intro q hq
    simp only [List.mem_cons,List.not_mem_nil,or_false] at hq
    rcases hq with rfl|rfl|rfl
    ·exact ⟨q0 _ _ P hF (hP _ om om) (hP _ om om) g0a g0b,qN r0⟩
    ·exact ⟨q1 _ _ P hF (hP _ om om) (hP _ om om) g1a g1b,qN r1⟩
    ·exact ⟨q2 _ _ P hF (hP _ om om) (hP _ om om) g2a g2b,qN r2⟩
   exact zF (z:=z29) H.f110 H.o110 As rfl rfl (.sl .full _) (by simp) (fun q hq' =>(hq q hq').2) (hP _ om om) g (fun q hq' =>(hq q hq').1)
 |case h1 h2=>
  simp only [Part.kids,List.length_append,List.length_map] at hn
  obtain ⟨y0,r0,q0⟩:=B7 H h1 om
  obtain ⟨y1,r1,q1⟩:=L6 H h2 om
  obtain ⟨hF,e,gr,nx,g,g0a,g0b,g1a,g1b⟩:=Pq H (pV h1) (jU h1) (aP h1) (jK h1) (pV h2) (jU h2) (aP h2) (jK h2) h
  refine ⟨hF,h.next+1,y0++(y1++[]),e,gr, ?_,fun P hP=> ?_⟩
  ·simp only [Part.kids,List.append_nil,List.append_assoc]
   exact qO r0 (r1)
  ·have hq:∀q∈[(⟨122,[.ptr (h.next+2) 0,.ptr (h.next+3) 0],y0⟩:Sq),(⟨124,[.ptr (h.next+4) 0,.ptr (h.next+5) 0],y1⟩:Sq)],(rR fns orc q.e q.capt q.ys P hF)∧∀y∈q.ys,∃c,y= .agg c∧c.length=29∧c.all AV.cF=true:=by
    intro q hq
    simp only [List.mem_cons,List.not_mem_nil,or_false] at hq
    rcases hq with rfl|rfl
    ·exact ⟨q0 _ _ P hF (hP _ om om) (hP _ om om) g0a g0b,qN r0⟩
    ·exact ⟨q1 _ _ P hF (hP _ om om) (hP _ om om) g1a g1b,qN r1⟩
   exact zF (z:=z29) H.f110 H.o110 As rfl rfl (.sl .full _) (by simp) (fun q hq' =>(hq q hq').2) (hP _ om om) g (fun q hq' =>(hq q hq').1)
 |exp h1 h2=>
  simp only [Part.kids,List.length_append,List.length_map] at hn
  obtain ⟨y0,r0,q0⟩:=B7 H h1 om
  obtain ⟨y1,r1,q1⟩:=NH H h2 om
  obtain ⟨hF,e,gr,nx,g,g0a,g0b,g1a,g1b⟩:=RA H (pV h1) (jU h1) (aP h1) (jK h1) (pV h2) (jU h2) (aP h2) (jK h2) h
  refine ⟨hF,h.next+1,y0++(y1++[]),e,gr, ?_,fun P hP=> ?_⟩
  ·simp only [Part.kids,List.append_nil,List.append_assoc]
   exact qO r0 (r1)
  ·have hq:∀q∈[(⟨122,[.ptr (h.next+2) 0,.ptr (h.next+3) 0],y0⟩:Sq),(⟨125,[.ptr (h.next+4) 0,.ptr (h.next+5) 0],y1⟩:Sq)],(rR fns orc q.e q.capt q.ys P hF)∧∀y∈q.ys,∃c,y= .agg c∧c.length=29∧c.all AV.cF=true:=by
    intro q hq
    simp only [List.mem_cons,List.not_mem_nil,or_false] at hq
    rcases hq with rfl|rfl
    ·exact ⟨q0 _ _ P hF (hP _ om om) (hP _ om om) g0a g0b,qN r0⟩
    ·exact ⟨q1 _ _ P hF (hP _ om om) (hP _ om om) g1a g1b,qN r1⟩
   exact zF (z:=z29) H.f110 H.o110 As rfl rfl (.sl .full _) (by simp) (fun q hq' =>(hq q hq').2) (hP _ om om) g (fun q hq' =>(hq q hq').1)
end Go.Ly
namespace Go.Ly
open Go Go.Am Go.Fs Go.Gn
theorem X1 (n:Nat):n+1+2=n+3:=rfl
theorem XZ (n:Nat):n+2+2=n+4:=rfl
theorem X0 (n:Nat):n+1+3=n+4:=rfl
theorem SBe {f q p:Prop} (x:f) (y:q) (h:f→q→p:=by intro x y;simp -implicitDefEqProofs (maxSteps:=3000000) (disch:=(first|omega|(simp only [aD.aJ,aD.aL];try omega)|skip)) only [x,fC,fE,dQ,cQ,dP,cP,fD,dO,gJ,eO,aM,dG,iD,opA,qP,kE,qQ,pH,rE,rZ,dC,gH,fN,qG,lU,iU,fV,mE,dK,eW,Nat.beq,lQ,lX,dX,vl,qX,eV,eT,dR,fI,fF,fG,bW,iA,gX,cS,fJ,fH,bX,gZ,cR,cU,cV,cT,fK,dJ,eQ,eR,bO,gU,gN,cH,eU,eS,bP,gS,cG,cJ,cK,cI,eP,dL,aY,dE,aZ,fA,bT,bQ,bV,bR,dM,fB,eK,kH,aQ,aU,fL,gM,List.drop_zero,List.drop_succ_cons,rS,oEq,eqA,pO,ki,eL,dY,oneOf,gV,jC,mQ,called,List.append_eq,List.nil_append,List.cons_append,List.append_assoc,Nat.zero_add,Nat.add_zero,kL,lF,aO,aE,aD.aJ,aD.aL,List.length_cons,List.length_nil,Bool.and_true,Bool.true_and,List.all_cons,List.all_nil,bI,bY,bM,bD,eZ,Nat.reduceAdd,Nat.reduceEqDiff,Nat.reduceBEq,ite_true,ite_false,if_true,if_false,iM,kG,jI,iE,iL,dI,fW,decide_eq_true_eq,decide_true,decide_false,qS,intArith,Int.ofNat_zero,reduceCtorEq,Bool.not_true,Bool.not_false,Bool.false_eq_true,Int.reduceEq,Int.reduceAdd,Int.zero_add,Int.add_zero,lW,dN,cM,mX,mZ,nH,nJ,kQ,iI,qA,iH,iY,pZ,iR,jM,iT,oX,fR,dZ,eD,eE,fQ,kI,lV,pK,mJ,jR,iQ,List.reverse_cons,List.reverse_nil,oL,dH,dV,dB,dW,bN,iZ,eH,qJ,oMx,lB,jQ,vE,kX,evO,mR,jF,mU,lG,lI,oF,oE,fU,fS,dU,iP,uD,vF,uA,bound,iW,Int.reduceLE,Int.reduceLT,kF,jG,aH,aK,dA,aS,kO,iS,jN,kN,mC,takeN,cW,jH,jO,jA,eM,iC,fO,jP,kS,iB,KF,KG];exact y):p:=h x y
theorem SC {f p:Prop} (x:f) (h:f→p:=by intro x;simp -implicitDefEqProofs (maxSteps:=3000000) (disch:=(first|omega|(simp only [aD.aJ,aD.aL];try omega)|skip)) only [x,fC,fE,dQ,cQ,dP,cP,fD,dO,gJ,eO,aM,dG,iD,opA,qP,kE,qQ,pH,rE,rZ,dC,gH,fN,qG,lU,iU,fV,mE,dK,eW,Nat.beq,lQ,lX,dX,vl,qX,eV,eT,dR,fI,fF,fG,bW,iA,gX,cS,fJ,fH,bX,gZ,cR,cU,cV,cT,fK,dJ,eQ,eR,bO,gU,gN,cH,eU,eS,bP,gS,cG,cJ,cK,cI,eP,dL,aY,dE,aZ,fA,bT,bQ,bV,bR,dM,fB,eK,kH,aQ,aU,fL,gM,List.drop_zero,List.drop_succ_cons,rS,oEq,eqA,pO,ki,eL,dY,oneOf,gV,jC,mQ,called,List.append_eq,List.nil_append,List.cons_append,List.append_assoc,Nat.zero_add,Nat.add_zero,kL,lF,aO,aE,aD.aJ,aD.aL,List.length_cons,List.length_nil,Bool.and_true,Bool.true_and,List.all_cons,List.all_nil,bI,bY,bM,bD,eZ,Nat.reduceAdd,Nat.reduceEqDiff,Nat.reduceBEq,ite_true,ite_false,if_true,if_false,iM,kG,jI,iE,iL,dI,fW,decide_eq_true_eq,decide_true,decide_false,qS,intArith,Int.ofNat_zero,reduceCtorEq,Bool.not_true,Bool.not_false,Bool.false_eq_true,Int.reduceEq,Int.reduceAdd,Int.zero_add,Int.add_zero,lW,dN,cM,mX,mZ,nH,nJ,kQ,iI,qA,iH,iY,pZ,iR,jM,iT,oX,fR,dZ,eD,eE,fQ,kI,lV,pK,mJ,jR,iQ,List.reverse_cons,List.reverse_nil,oL,dH,dV,dB,dW,bN,iZ,jL,kW,eH,qJ,oMx,lB,jQ,vE,kX,evO,mR,jF,mU,lG,lI,oF,oE,fU,fS,dU,iP,uD,vF,uA,bound,iW,Int.reduceLE,Int.reduceLT,kF,jG,jB,aH,aK,dA,aS,kO,iS,jN,kN,mC,takeN,cW,jH,jO,jA,eM,iC,fO,jP,kS,iB,X1,XZ,X0,KF,KG];try rfl):p:=h x
theorem SF {f p:Prop} (x:f) (h:f→p:=by intro x;simp -implicitDefEqProofs (maxSteps:=3000000) (disch:=(first|omega|(simp only [aD.aJ,aD.aL];try omega)|skip)) only [x,fC,fE,dQ,cQ,dP,cP,fD,dO,gJ,eO,aM,dG,iD,opA,qP,kE,qQ,pH,rE,rZ,dC,gH,fN,qG,lU,iU,fV,mE,dK,eW,Nat.beq,lQ,lX,dX,vl,qX,eV,eT,dR,fI,fF,fG,bW,iA,gX,cS,fJ,fH,bX,gZ,cR,cU,cV,cT,fK,dJ,eQ,eR,bO,gU,gN,cH,eU,eS,bP,gS,cG,cJ,cK,cI,eP,dL,aY,dE,aZ,fA,bT,bQ,bV,bR,dM,fB,eK,kH,aQ,aU,fL,gM,List.drop_zero,List.drop_succ_cons,rS,oEq,eqA,pO,ki,eL,dY,oneOf,gV,jC,mQ,called,List.append_eq,List.nil_append,List.cons_append,List.append_assoc,Nat.zero_add,Nat.add_zero,kL,lF,aO,aE,aD.aJ,aD.aL,List.length_cons,List.length_nil,Bool.and_true,Bool.true_and,List.all_cons,List.all_nil,bI,bY,bM,bD,eZ,Nat.reduceAdd,Nat.reduceEqDiff,Nat.reduceBEq,ite_true,ite_false,if_true,if_false,iM,kG,jI,iE,iL,dI,fW,decide_eq_true_eq,decide_true,decide_false,qS,intArith,Int.ofNat_zero,reduceCtorEq,Bool.not_true,Bool.not_false,Bool.false_eq_true,Int.reduceEq,Int.reduceAdd,Int.zero_add,Int.add_zero,lW,dN,cM,mX,mZ,nH,nJ,kQ,iI,qA,iH,iY,pZ,iR,jM,iT,oX,fR,dZ,eD,eE,fQ,kI,lV,pK,mJ,jR,iQ,List.reverse_cons,List.reverse_nil,oL,dH,dV,dB,dW,bN,iZ,jL,kW,eH,qJ,oMx,lB,jQ,vE,kX,evO,mR,jF,mU,lG,lI,oF,oE,fU,fS,dU,iP,uD,vF,uA,bound,iW,Int.reduceLE,Int.reduceLT,Kr,kF,KF,KG];try rfl):p:=h x
theorem SFe {f q p:Prop} (x:f) (y:q) (h:f→q→p:=by intro x y;simp -implicitDefEqProofs (maxSteps:=3000000) (disch:=(first|omega|(simp only [aD.aJ,aD.aL];try omega)|skip)) only [x,fC,fE,dQ,cQ,dP,cP,fD,dO,gJ,eO,aM,dG,iD,opA,qP,kE,qQ,pH,rE,rZ,dC,gH,fN,qG,lU,iU,fV,mE,dK,eW,Nat.beq,lQ,lX,dX,vl,qX,eV,eT,dR,fI,fF,fG,bW,iA,gX,cS,fJ,fH,bX,gZ,cR,cU,cV,cT,fK,dJ,eQ,eR,bO,gU,gN,cH,eU,eS,bP,gS,cG,cJ,cK,cI,eP,dL,aY,dE,aZ,fA,bT,bQ,bV,bR,dM,fB,eK,kH,aQ,aU,fL,gM,List.drop_zero,List.drop_succ_cons,rS,oEq,eqA,pO,ki,eL,dY,oneOf,gV,jC,mQ,called,List.append_eq,List.nil_append,List.cons_append,List.append_assoc,Nat.zero_add,Nat.add_zero,kL,lF,aO,aE,aD.aJ,aD.aL,List.length_cons,List.length_nil,Bool.and_true,Bool.true_and,List.all_cons,List.all_nil,bI,bY,bM,bD,eZ,Nat.reduceAdd,Nat.reduceEqDiff,Nat.reduceBEq,ite_true,ite_false,if_true,if_false,iM,kG,jI,iE,iL,dI,fW,decide_eq_true_eq,decide_true,decide_false,qS,intArith,Int.ofNat_zero,reduceCtorEq,Bool.not_true,Bool.not_false,Bool.false_eq_true,Int.reduceEq,Int.reduceAdd,Int.zero_add,Int.add_zero,lW,dN,cM,mX,mZ,nH,nJ,kQ,iI,qA,iH,iY,pZ,iR,jM,iT,oX,fR,dZ,eD,eE,fQ,kI,lV,pK,mJ,jR,iQ,List.reverse_cons,List.reverse_nil,oL,dH,dV,dB,dW,bN,iZ,jL,kW,eH,qJ,oMx,lB,jQ,vE,kX,evO,mR,jF,mU,lG,lI,oF,oE,fU,fS,dU,iP,uD,vF,uA,bound,iW,Int.reduceLE,Int.reduceLT,Kr,kF,KF,KG];exact y):p:=h x y
theorem SK {f p:Prop} (x:f) (h:f→p:=by intro x;simp -implicitDefEqProofs (maxSteps:=3000000) (disch:=(first|omega|(simp only [aD.aJ,aD.aL];try omega)|skip)) only [x,fC,fE,dQ,cQ,dP,cP,fD,dO,gJ,eO,aM,dG,iD,opA,qP,kE,qQ,pH,rE,rZ,dC,gH,fN,qG,lU,iU,fV,mE,dK,eW,Nat.beq,lQ,lX,dX,vl,qX,eV,eT,dR,fI,fF,fG,bW,iA,gX,cS,fJ,fH,bX,gZ,cR,cU,cV,cT,fK,dJ,eQ,eR,bO,gU,gN,cH,eU,eS,bP,gS,cG,cJ,cK,cI,eP,dL,aY,dE,aZ,fA,bT,bQ,bV,bR,dM,fB,eK,kH,aQ,aU,fL,gM,List.drop_zero,List.drop_succ_cons,rS,oEq,eqA,pO,ki,eL,dY,oneOf,gV,jC,mQ,called,List.append_eq,List.nil_append,List.cons_append,List.append_assoc,Nat.zero_add,Nat.add_zero,kL,lF,aO,aE,aD.aJ,aD.aL,List.length_cons,List.length_nil,Bool.and_true,Bool.true_and,List.all_cons,List.all_nil,bI,bY,bM,bD,eZ,Nat.reduceAdd,Nat.reduceEqDiff,Nat.reduceBEq,ite_true,ite_false,if_true,if_false,iM,kG,jI,iE,iL,dI,fW,decide_eq_true_eq,decide_true,decide_false,qS,intArith,Int.ofNat_zero,reduceCtorEq,Bool.not_true,Bool.not_false,Bool.false_eq_true,Int.reduceEq,Int.reduceAdd,Int.zero_add,Int.add_zero,lW,dN,cM,mX,mZ,nH,nJ,kQ,iI,qA,iH,iY,pZ,iR,jM,iT,oX,fR,dZ,eD,eE,fQ,kI,lV,pK,mJ,jR,iQ,List.reverse_cons,List.reverse_nil,oL,dH,dV,dB,dW,bN,iZ,jL,kW,eH,qJ,oMx,lB,jQ,vE,kX,evO,mR,jF,lI,oF,oE,fU,fS,dU,iP,uD,vF,uA,bound,iW,Int.reduceLE,Int.reduceLT,kF,jG,jB,aH,aK,dA,aS,kO,iS,jN,kN,mC,takeN,cW,jH,jO,jA,eM,iC,fO,jP,kS,iB,KF,KG];try rfl):p:=h x
theorem SM {f p:Prop} (x:f) (h:f→p:=by intro x;simp -implicitDefEqProofs (maxSteps:=3000000) (disch:=(first|omega|(simp only [aD.aJ,aD.aL];try omega)|skip)) only [x,fC,fE,dQ,cQ,dP,cP,fD,dO,gJ,eO,aM,dG,iD,opA,qP,kE,qQ,pH,rE,rZ,dC,gH,fN,qG,lU,iU,fV,mE,dK,eW,Nat.beq,lQ,lX,dX,vl,qX,eV,eT,dR,fI,fF,fG,bW,iA,gX,cS,fJ,fH,bX,gZ,cR,cU,cV,cT,fK,dJ,eQ,eR,bO,gU,gN,cH,eU,eS,bP,gS,cG,cJ,cK,cI,eP,dL,aY,dE,aZ,fA,bT,bQ,bV,bR,dM,fB,eK,kH,aQ,aU,fL,gM,List.drop_zero,List.drop_succ_cons,rS,oEq,eqA,pO,ki,eL,dY,oneOf,gV,jC,mQ,called,List.append_eq,List.nil_append,List.cons_append,List.append_assoc,Nat.zero_add,Nat.add_zero,kL,lF,aO,aE,aD.aJ,aD.aL,List.length_cons,List.length_nil,Bool.and_true,Bool.true_and,List.all_cons,List.all_nil,bI,bY,bM,bD,eZ,Nat.reduceAdd,Nat.reduceEqDiff,Nat.reduceBEq,ite_true,ite_false,if_true,if_false,iM,kG,jI,iE,iL,dI,fW,decide_eq_true_eq,decide_true,decide_false,qS,intArith,Int.ofNat_zero,reduceCtorEq,Bool.not_true,Bool.not_false,Bool.false_eq_true,Int.reduceEq,Int.reduceAdd,Int.zero_add,Int.add_zero,lW,dN,cM,mX,mZ,nH,nJ,kQ,iI,qA,iH,iY,pZ,iR,jM,iT,oX,fR,dZ,eD,eE,fQ,kI,lV,pK,mJ,jR,iQ,List.reverse_cons,List.reverse_nil,oL,dH,dV,dB,dW,bN,iZ,eH,qJ,oMx,lB,jQ,vE,kX,evO,mR,jF,oF,oE,fU,fS,dU,iP,uD,vF,uA,bound,iW,Int.reduceLE,Int.reduceLT,kF,jG,aH,aK,dA,aS,kO,iS,jN,kN,mC,takeN,cW,jH,jO,jA,eM,iC,fO,jP,kS,iB,KF,KG];try rfl):p:=h x
theorem SMe {f q p:Prop} (x:f) (y:q) (h:f→q→p:=by intro x y;simp -implicitDefEqProofs (maxSteps:=3000000) (disch:=(first|omega|(simp only [aD.aJ,aD.aL];try omega)|skip)) only [x,fC,fE,dQ,cQ,dP,cP,fD,dO,gJ,eO,aM,dG,iD,opA,qP,kE,qQ,pH,rE,rZ,dC,gH,fN,qG,lU,iU,fV,mE,dK,eW,Nat.beq,lQ,lX,dX,vl,qX,eV,eT,dR,fI,fF,fG,bW,iA,gX,cS,fJ,fH,bX,gZ,cR,cU,cV,cT,fK,dJ,eQ,eR,bO,gU,gN,cH,eU,eS,bP,gS,cG,cJ,cK,cI,eP,dL,aY,dE,aZ,fA,bT,bQ,bV,bR,dM,fB,eK,kH,aQ,aU,fL,gM,List.drop_zero,List.drop_succ_cons,rS,oEq,eqA,pO,ki,eL,dY,oneOf,gV,jC,mQ,called,List.append_eq,List.nil_append,List.cons_append,List.append_assoc,Nat.zero_add,Nat.add_zero,kL,lF,aO,aE,aD.aJ,aD.aL,List.length_cons,List.length_nil,Bool.and_true,Bool.true_and,List.all_cons,List.all_nil,bI,bY,bM,bD,eZ,Nat.reduceAdd,Nat.reduceEqDiff,Nat.reduceBEq,ite_true,ite_false,if_true,if_false,iM,kG,jI,iE,iL,dI,fW,decide_eq_true_eq,decide_true,decide_false,qS,intArith,Int.ofNat_zero,reduceCtorEq,Bool.not_true,Bool.not_false,Bool.false_eq_true,Int.reduceEq,Int.reduceAdd,Int.zero_add,Int.add_zero,lW,dN,cM,mX,mZ,nH,nJ,kQ,iI,qA,iH,iY,pZ,iR,jM,iT,oX,fR,dZ,eD,eE,fQ,kI,lV,pK,mJ,jR,iQ,List.reverse_cons,List.reverse_nil,oL,dH,dV,dB,dW,bN,iZ,eH,qJ,oMx,lB,jQ,vE,kX,evO,mR,jF,oF,oE,fU,fS,dU,iP,uD,vF,uA,bound,iW,Int.reduceLE,Int.reduceLT,kF,jG,aH,aK,dA,aS,kO,iS,jN,kN,mC,takeN,cW,jH,jO,jA,eM,iC,fO,jP,kS,iB,KF,KG];exact y):p:=h x y
theorem SO {f p:Prop} (x:f) (h:f→p:=by intro x;simp -implicitDefEqProofs (maxSteps:=3000000) (disch:=(first|omega|(simp only [aD.aJ,aD.aL];try omega)|skip)) only [x,fC,fE,dQ,cQ,dP,cP,fD,dO,gJ,eO,aM,dG,iD,opA,qP,kE,qQ,pH,rE,rZ,dC,gH,fN,qG,lU,iU,fV,mE,dK,eW,Nat.beq,lQ,lX,dX,vl,qX,eV,eT,dR,fI,fF,fG,bW,iA,gX,cS,fJ,fH,bX,gZ,cR,cU,cV,cT,fK,dJ,eQ,eR,bO,gU,gN,cH,eU,eS,bP,gS,cG,cJ,cK,cI,eP,dL,aY,dE,aZ,fA,bT,bQ,bV,bR,dM,fB,eK,kH,aQ,aU,fL,gM,List.drop_zero,List.drop_succ_cons,rS,oEq,eqA,pO,ki,eL,dY,oneOf,gV,jC,mQ,called,List.append_eq,List.nil_append,List.cons_append,List.append_assoc,Nat.zero_add,Nat.add_zero,kL,lF,aO,aE,aD.aJ,aD.aL,List.length_cons,List.length_nil,Bool.and_true,Bool.true_and,List.all_cons,List.all_nil,bI,bY,bM,bD,eZ,Nat.reduceAdd,Nat.reduceEqDiff,Nat.reduceBEq,ite_true,ite_false,if_true,if_false,iM,kG,jI,iE,iL,dI,fW,decide_eq_true_eq,decide_true,decide_false,qS,intArith,Int.ofNat_zero,reduceCtorEq,Bool.not_true,Bool.not_false,Bool.false_eq_true,Int.reduceEq,Int.reduceAdd,Int.zero_add,Int.add_zero,lW,dN,cM,mX,mZ,nH,nJ,kQ,iI,qA,iH,iY,pZ,iR,jM,iT,oX,fR,dZ,eD,eE,fQ,kI,lV,pK,mJ,jR,iQ,List.reverse_cons,List.reverse_nil,oL,dH,dV,dB,dW,bN,iZ,jL,kW,eH,qJ,oMx,lB,jQ,vE,kX,evO,mR,jF,oF,oE,fU,fS,dU,iP,uD,vF,uA,bound,iW,Int.reduceLE,Int.reduceLT,kF,jG,aH,aK,dA,aS,kO,iS,jN,kN,mC,takeN,cW,jH,jO,jA,eM,iC,fO,jP,kS,iB,KF,KG];try rfl):p:=h x
theorem SR {f p:Prop} (x:f) (h:f→p:=by intro x;simp -implicitDefEqProofs (maxSteps:=3000000) (disch:=(first|omega|(simp only [aD.aJ,aD.aL];try omega)|skip)) only [x,fC,fE,dQ,cQ,dP,cP,fD,dO,gJ,eO,aM,dG,iD,opA,qP,kE,qQ,pH,rE,rZ,dC,gH,fN,qG,lU,iU,fV,mE,dK,eW,Nat.beq,lQ,lX,dX,vl,qX,eV,eT,dR,fI,fF,fG,bW,iA,gX,cS,fJ,fH,bX,gZ,cR,cU,cV,cT,fK,dJ,eQ,eR,bO,gU,gN,cH,eU,eS,bP,gS,cG,cJ,cK,cI,eP,dL,aY,dE,aZ,fA,bT,bQ,bV,bR,dM,fB,eK,kH,aQ,aU,fL,gM,List.drop_zero,List.drop_succ_cons,rS,oEq,eqA,pO,ki,eL,dY,oneOf,gV,jC,mQ,called,List.append_eq,List.nil_append,List.cons_append,List.append_assoc,Nat.zero_add,Nat.add_zero,kL,lF,aO,aE,aD.aJ,aD.aL,List.length_cons,List.length_nil,Bool.and_true,Bool.true_and,List.all_cons,List.all_nil,bI,bY,bM,bD,eZ,Nat.reduceAdd,Nat.reduceEqDiff,Nat.reduceBEq,ite_true,ite_false,if_true,if_false,iM,kG,jI,iE,iL,dI,fW,decide_eq_true_eq,decide_true,decide_false,qS,intArith,Int.ofNat_zero,reduceCtorEq,Bool.not_true,Bool.not_false,Bool.false_eq_true,Int.reduceEq,Int.reduceAdd,Int.zero_add,Int.add_zero,lW,dN,cM,mX,mZ,nH,nJ,kQ,iI,qA,iH,iY,pZ,iR,jM,iT,oX,fR,dZ,eD,eE,fQ,kI,lV,pK,mJ,jR,iQ,List.reverse_cons,List.reverse_nil,oL,dH,dV,dB,dW,bN,iZ,jL,kW,eH,qJ,oMx,lB,jQ,vE,kX,evO,mR,jF,mU,lG,lI,oF,oE,fU,fS,dU,iP,uD,vF,uA,bound,iW,Int.reduceLE,Int.reduceLT,kF,jG,jB,aH,aK,dA,aS,kO,iS,jN,mC,takeN,cW,jH,jO,jA,eM,iC,fO,jP,kS,iB,KF,KG];try rfl):p:=h x
theorem SS {f p:Prop} (x:f) (h:f→p:=by intro x;simp -implicitDefEqProofs (maxSteps:=3000000) (disch:=(first|omega|(simp only [aD.aJ,aD.aL];try omega)|skip)) only [x,fC,fE,dQ,cQ,dP,cP,fD,dO,gJ,eO,aM,dG,iD,opA,qP,kE,qQ,pH,rE,rZ,dC,gH,fN,qG,lU,iU,fV,mE,dK,eW,Nat.beq,lQ,lX,dX,vl,qX,eV,eT,dR,fI,fF,fG,bW,iA,gX,cS,fJ,fH,bX,gZ,cR,cU,cV,cT,fK,dJ,eQ,eR,bO,gU,gN,cH,eU,eS,bP,gS,cG,cJ,cK,cI,eP,dL,aY,dE,aZ,fA,bT,bQ,bV,bR,dM,fB,eK,kH,aQ,aU,fL,gM,List.drop_zero,List.drop_succ_cons,rS,oEq,eqA,pO,ki,eL,dY,oneOf,gV,jC,mQ,called,List.append_eq,List.nil_append,List.cons_append,List.append_assoc,Nat.zero_add,Nat.add_zero,kL,lF,aO,aE,aD.aJ,aD.aL,List.length_cons,List.length_nil,Bool.and_true,Bool.true_and,List.all_cons,List.all_nil,bI,bY,bM,bD,eZ,Nat.reduceAdd,Nat.reduceEqDiff,Nat.reduceBEq,ite_true,ite_false,if_true,if_false,iM,kG,jI,iE,iL,dI,fW,decide_eq_true_eq,decide_true,decide_false,qS,intArith,Int.ofNat_zero,reduceCtorEq,Bool.not_true,Bool.not_false,Bool.false_eq_true,Int.reduceEq,Int.reduceAdd,Int.zero_add,Int.add_zero,lW,dN,cM,mX,mZ,nH,nJ,kQ,iI,qA,iH,iY,pZ,iR,jM,iT,oX,fR,dZ,eD,eE,fQ,kI,lV,pK,mJ,jR,iQ,List.reverse_cons,List.reverse_nil,oL,dH,dV,dB,dW,bN,iZ,jL,kW,eH,qJ,oMx,lB,jQ,vE,kX,evO,mR,jF,mU,lG,lI,oF,oE,fU,fS,dU,iP,uD,vF,uA,bound,iW,Int.reduceLE,Int.reduceLT,kF,jG,aH,aK,dA,aS,kO,iS,jN,kN,mC,takeN,cW,jH,jO,jA,eM,iC,fO,jP,kS,iB,KF,KG];try rfl):p:=h x
theorem SUe {f q p:Prop} (x:f) (y:q) (h:f→q→p:=by intro x y;simp -implicitDefEqProofs (maxSteps:=3000000) (disch:=(first|omega|(simp only [aD.aJ,aD.aL];try omega)|skip)) only [x,fC,fE,dQ,cQ,dP,cP,fD,dO,gJ,eO,aM,dG,iD,opA,qP,kE,qQ,pH,rE,rZ,dC,gH,fN,qG,lU,iU,fV,mE,dK,eW,Nat.beq,lQ,lX,dX,vl,qX,eV,eT,dR,fI,fF,fG,bW,iA,gX,cS,fJ,fH,bX,gZ,cR,cU,cV,cT,fK,dJ,eQ,eR,bO,gU,gN,cH,eU,eS,bP,gS,cG,cJ,cK,cI,eP,dL,aY,dE,aZ,fA,bT,bQ,bV,bR,dM,fB,eK,kH,aQ,aU,fL,gM,List.drop_zero,List.drop_succ_cons,rS,oEq,eqA,pO,ki,eL,dY,oneOf,gV,jC,mQ,called,List.append_eq,List.nil_append,List.cons_append,List.append_assoc,Nat.zero_add,Nat.add_zero,kL,lF,aO,aE,aD.aJ,aD.aL,List.length_cons,List.length_nil,Bool.and_true,Bool.true_and,List.all_cons,List.all_nil,bI,bY,bM,bD,eZ,Nat.reduceAdd,Nat.reduceEqDiff,Nat.reduceBEq,ite_true,ite_false,if_true,if_false,iM,kG,jI,iE,iL,dI,fW,decide_eq_true_eq,decide_true,decide_false,qS,intArith,Int.ofNat_zero,reduceCtorEq,Bool.not_true,Bool.not_false,Bool.false_eq_true,Int.reduceEq,Int.reduceAdd,Int.zero_add,Int.add_zero,lW,dN,cM,mX,mZ,nH,nJ,kQ,iI,qA,iH,iY,pZ,iR,jM,iT,oX,fR,dZ,eD,eE,fQ,kI,lV,pK,mJ,jR,iQ,List.reverse_cons,List.reverse_nil,oL,dH,dV,dB,dW,bN,iZ,eH,qJ,oMx,lB,jQ,vE,kX,evO,mR,jF,mU,lG,lI,oF,oE,fU,fS,dU,iP,uD,vF,uA,bound,iW,Int.reduceLE,Int.reduceLT,kF,jG,jB,aH,aK,dA,aS,kO,iS,jN,mC,takeN,cW,jH,jO,jA,eM,iC,fO,jP,kS,iB,KF,KG];exact y):p:=h x y
theorem SV {f p:Prop} (x:f) (h:f→p:=by intro x;simp -implicitDefEqProofs (maxSteps:=3000000) (disch:=(first|omega|(simp only [aD.aJ,aD.aL];try omega)|skip)) only [x,fC,fE,dQ,cQ,dP,cP,fD,dO,gJ,eO,aM,dG,iD,opA,qP,kE,qQ,pH,rE,rZ,dC,gH,fN,qG,lU,iU,fV,mE,dK,eW,Nat.beq,lQ,lX,dX,vl,qX,eV,eT,dR,fI,fF,fG,bW,iA,gX,cS,fJ,fH,bX,gZ,cR,cU,cV,cT,fK,dJ,eQ,eR,bO,gU,gN,cH,eU,eS,bP,gS,cG,cJ,cK,cI,eP,dL,aY,dE,aZ,fA,bT,bQ,bV,bR,dM,fB,eK,kH,aQ,aU,fL,gM,List.drop_zero,List.drop_succ_cons,rS,oEq,eqA,pO,ki,eL,dY,oneOf,gV,jC,mQ,called,List.append_eq,List.nil_append,List.cons_append,List.append_assoc,Nat.zero_add,Nat.add_zero,kL,lF,aO,aE,aD.aJ,aD.aL,List.length_cons,List.length_nil,Bool.and_true,Bool.true_and,List.all_cons,List.all_nil,bI,bY,bM,bD,eZ,Nat.reduceAdd,Nat.reduceEqDiff,Nat.reduceBEq,ite_true,ite_false,if_true,if_false,iM,kG,jI,iE,iL,dI,fW,decide_eq_true_eq,decide_true,decide_false,qS,intArith,Int.ofNat_zero,reduceCtorEq,Bool.not_true,Bool.not_false,Bool.false_eq_true,Int.reduceEq,Int.reduceAdd,Int.zero_add,Int.add_zero,lW,dN,cM,mX,mZ,nH,nJ,kQ,iI,qA,iH,iY,pZ,iR,jM,iT,oX,fR,dZ,eD,eE,fQ,kI,lV,pK,mJ,jR,iQ,List.reverse_cons,List.reverse_nil,oL,dH,dV,dB,dW,bN,iZ,jL,kW,eH,qJ,oMx,lB,jQ,vE,kX,evO,mR,jF,mU,lG,lI,oF,oE,fU,fS,dU,iP,uD,vF,uA,bound,iW,Int.reduceLE,Int.reduceLT,kF,jG,jB,aH,aK,dA,aS,kO,iS,jN,mC,takeN,cW,jH,jO,jA,eM,iC,fO,jP,kS,iB,KF,KG];try rfl):p:=h x
theorem SVe {f q p:Prop} (x:f) (y:q) (h:f→q→p:=by intro x y;simp -implicitDefEqProofs (maxSteps:=3000000) (disch:=(first|omega|(simp only [aD.aJ,aD.aL];try omega)|skip)) only [x,fC,fE,dQ,cQ,dP,cP,fD,dO,gJ,eO,aM,dG,iD,opA,qP,kE,qQ,pH,rE,rZ,dC,gH,fN,qG,lU,iU,fV,mE,dK,eW,Nat.beq,lQ,lX,dX,vl,qX,eV,eT,dR,fI,fF,fG,bW,iA,gX,cS,fJ,fH,bX,gZ,cR,cU,cV,cT,fK,dJ,eQ,eR,bO,gU,gN,cH,eU,eS,bP,gS,cG,cJ,cK,cI,eP,dL,aY,dE,aZ,fA,bT,bQ,bV,bR,dM,fB,eK,kH,aQ,aU,fL,gM,List.drop_zero,List.drop_succ_cons,rS,oEq,eqA,pO,ki,eL,dY,oneOf,gV,jC,mQ,called,List.append_eq,List.nil_append,List.cons_append,List.append_assoc,Nat.zero_add,Nat.add_zero,kL,lF,aO,aE,aD.aJ,aD.aL,List.length_cons,List.length_nil,Bool.and_true,Bool.true_and,List.all_cons,List.all_nil,bI,bY,bM,bD,eZ,Nat.reduceAdd,Nat.reduceEqDiff,Nat.reduceBEq,ite_true,ite_false,if_true,if_false,iM,kG,jI,iE,iL,dI,fW,decide_eq_true_eq,decide_true,decide_false,qS,intArith,Int.ofNat_zero,reduceCtorEq,Bool.not_true,Bool.not_false,Bool.false_eq_true,Int.reduceEq,Int.reduceAdd,Int.zero_add,Int.add_zero,lW,dN,cM,mX,mZ,nH,nJ,kQ,iI,qA,iH,iY,pZ,iR,jM,iT,oX,fR,dZ,eD,eE,fQ,kI,lV,pK,mJ,jR,iQ,List.reverse_cons,List.reverse_nil,oL,dH,dV,dB,dW,bN,iZ,jL,kW,eH,qJ,oMx,lB,jQ,vE,kX,evO,mR,jF,mU,lG,lI,oF,oE,fU,fS,dU,iP,uD,vF,uA,bound,iW,Int.reduceLE,Int.reduceLT,kF,jG,jB,aH,aK,dA,aS,kO,iS,jN,mC,takeN,cW,jH,jO,jA,eM,iC,fO,jP,kS,iB,KF,KG];exact y):p:=h x y
theorem SWe {f q p:Prop} (x:f) (y:q) (h:f→q→p:=by intro x y;simp -implicitDefEqProofs (maxSteps:=3000000) (disch:=(first|omega|(simp only [aD.aJ,aD.aL];try omega)|skip)) only [x,fC,fE,dQ,cQ,dP,cP,fD,dO,gJ,eO,aM,dG,iD,opA,qP,kE,qQ,pH,rE,rZ,dC,gH,fN,qG,lU,iU,fV,mE,dK,eW,Nat.beq,lQ,lX,dX,vl,qX,eV,eT,dR,fI,fF,fG,bW,iA,gX,cS,fJ,fH,bX,gZ,cR,cU,cV,cT,fK,dJ,eQ,eR,bO,gU,gN,cH,eU,eS,bP,gS,cG,cJ,cK,cI,eP,dL,aY,dE,aZ,fA,bT,bQ,bV,bR,dM,fB,eK,kH,aQ,aU,fL,gM,List.drop_zero,List.drop_succ_cons,rS,oEq,eqA,pO,ki,eL,dY,oneOf,gV,jC,mQ,called,List.append_eq,List.nil_append,List.cons_append,List.append_assoc,Nat.zero_add,Nat.add_zero,kL,lF,aO,aE,aD.aJ,aD.aL,List.length_cons,List.length_nil,Bool.and_true,Bool.true_and,List.all_cons,List.all_nil,bI,bY,bM,bD,eZ,Nat.reduceAdd,Nat.reduceEqDiff,Nat.reduceBEq,ite_true,ite_false,if_true,if_false,iM,kG,jI,iE,iL,dI,fW,decide_eq_true_eq,decide_true,decide_false,qS,intArith,Int.ofNat_zero,reduceCtorEq,Bool.not_true,Bool.not_false,Bool.false_eq_true,Int.reduceEq,Int.reduceAdd,Int.zero_add,Int.add_zero,lW,dN,cM,mX,mZ,nH,nJ,kQ,iI,qA,iH,iY,pZ,iR,jM,iT,oX,fR,dZ,eD,eE,fQ,kI,lV,pK,mJ,jR,iQ,List.reverse_cons,List.reverse_nil,oL,dH,dV,dB,dW,bN,iZ,eH,qJ,oMx,lB,jQ,vE,kX,evO,mR,jF,mU,lG,lI,oF,oE,fU,fS,dU,iP,uD,vF,uA,bound,iW,Int.reduceLE,Int.reduceLT,kF,jG,jB,aH,aK,dA,aS,kO,iS,jN,kN,mC,takeN,cW,jH,jO,jA,eM,iC,fO,jP,kS,iB,KF,KG];exact y):p:=h x y
theorem SX {f p:Prop} (x:f) (h:f→p:=by intro x;simp -implicitDefEqProofs (maxSteps:=3000000) (disch:=(first|omega|(simp only [aD.aJ,aD.aL];try omega)|skip)) only [x,fC,fE,dQ,cQ,dP,cP,fD,dO,gJ,eO,aM,dG,iD,opA,qP,kE,qQ,pH,rE,rZ,dC,gH,fN,qG,lU,iU,fV,mE,dK,eW,Nat.beq,lQ,lX,dX,vl,qX,eV,eT,dR,fI,fF,fG,bW,iA,gX,cS,fJ,fH,bX,gZ,cR,cU,cV,cT,fK,dJ,eQ,eR,bO,gU,gN,cH,eU,eS,bP,gS,cG,cJ,cK,cI,eP,dL,aY,dE,aZ,fA,bT,bQ,bV,bR,dM,fB,eK,kH,aQ,aU,fL,gM,List.drop_zero,List.drop_succ_cons,rS,oEq,eqA,pO,ki,eL,dY,oneOf,gV,jC,mQ,called,List.append_eq,List.nil_append,List.cons_append,List.append_assoc,Nat.zero_add,Nat.add_zero,kL,lF,aO,aE,aD.aJ,aD.aL,List.length_cons,List.length_nil,Bool.and_true,Bool.true_and,List.all_cons,List.all_nil,bI,bY,bM,bD,eZ,Nat.reduceAdd,Nat.reduceEqDiff,Nat.reduceBEq,ite_true,ite_false,if_true,if_false,iM,kG,jI,iE,iL,dI,fW,decide_eq_true_eq,decide_true,decide_false,qS,intArith,Int.ofNat_zero,reduceCtorEq,Bool.not_true,Bool.not_false,Bool.false_eq_true,Int.reduceEq,Int.reduceAdd,Int.zero_add,Int.add_zero,lW,dN,cM,mX,mZ,nH,nJ,kQ,iI,qA,iH,iY,pZ,iR,jM,iT,oX,fR,dZ,eD,eE,fQ,kI,lV,pK,mJ,jR,iQ,List.reverse_cons,List.reverse_nil,oL,dH,dV,dB,dW,bN,iZ,jL,kW,eH,qJ,oMx,lB,jQ,vE,kX,evO,mR,jF,mU,lG,lI,oF,oE,fU,fS,dU,iP,uD,vF,uA,bound,iW,Int.reduceLE,Int.reduceLT,kF,jG,jB,aH,aK,dA,aS,kO,iS,jN,kN,mC,takeN,cW,jH,jO,jA,eM,iC,fO,jP,kS,iB,KF,KG];try rfl):p:=h x
theorem SXe {f q p:Prop} (x:f) (y:q) (h:f→q→p:=by intro x y;simp -implicitDefEqProofs (maxSteps:=3000000) (disch:=(first|omega|(simp only [aD.aJ,aD.aL];try omega)|skip)) only [x,fC,fE,dQ,cQ,dP,cP,fD,dO,gJ,eO,aM,dG,iD,opA,qP,kE,qQ,pH,rE,rZ,dC,gH,fN,qG,lU,iU,fV,mE,dK,eW,Nat.beq,lQ,lX,dX,vl,qX,eV,eT,dR,fI,fF,fG,bW,iA,gX,cS,fJ,fH,bX,gZ,cR,cU,cV,cT,fK,dJ,eQ,eR,bO,gU,gN,cH,eU,eS,bP,gS,cG,cJ,cK,cI,eP,dL,aY,dE,aZ,fA,bT,bQ,bV,bR,dM,fB,eK,kH,aQ,aU,fL,gM,List.drop_zero,List.drop_succ_cons,rS,oEq,eqA,pO,ki,eL,dY,oneOf,gV,jC,mQ,called,List.append_eq,List.nil_append,List.cons_append,List.append_assoc,Nat.zero_add,Nat.add_zero,kL,lF,aO,aE,aD.aJ,aD.aL,List.length_cons,List.length_nil,Bool.and_true,Bool.true_and,List.all_cons,List.all_nil,bI,bY,bM,bD,eZ,Nat.reduceAdd,Nat.reduceEqDiff,Nat.reduceBEq,ite_true,ite_false,if_true,if_false,iM,kG,jI,iE,iL,dI,fW,decide_eq_true_eq,decide_true,decide_false,qS,intArith,Int.ofNat_zero,reduceCtorEq,Bool.not_true,Bool.not_false,Bool.false_eq_true,Int.reduceEq,Int.reduceAdd,Int.zero_add,Int.add_zero,lW,dN,cM,mX,mZ,nH,nJ,kQ,iI,qA,iH,iY,pZ,iR,jM,iT,oX,fR,dZ,eD,eE,fQ,kI,lV,pK,mJ,jR,iQ,List.reverse_cons,List.reverse_nil,oL,dH,dV,dB,dW,bN,iZ,jL,kW,eH,qJ,oMx,lB,jQ,vE,kX,evO,mR,jF,mU,lG,lI,oF,oE,fU,fS,dU,iP,uD,vF,uA,bound,iW,Int.reduceLE,Int.reduceLT,kF,jG,jB,aH,aK,dA,aS,kO,iS,jN,kN,mC,takeN,cW,jH,jO,jA,eM,iC,fO,jP,kS,iB,KF,KG];exact y):p:=h x y
theorem SXo {f p:Prop} (x:f) (h:f→p:=by intro x;simp -implicitDefEqProofs (maxSteps:=3000000) (disch:=(first|omega|(simp only [aD.aJ,aD.aL];try omega)|skip)) only [x,fC,fE,dQ,cQ,dP,cP,fD,dO,gJ,eO,aM,dG,iD,opA,qP,kE,qQ,pH,rE,rZ,dC,gH,fN,qG,lU,iU,fV,mE,dK,eW,Nat.beq,lQ,lX,dX,vl,qX,eV,eT,dR,fI,fF,fG,bW,iA,gX,cS,fJ,fH,bX,gZ,cR,cU,cV,cT,fK,dJ,eQ,eR,bO,gU,gN,cH,eU,eS,bP,gS,cG,cJ,cK,cI,eP,dL,aY,dE,aZ,fA,bT,bQ,bV,bR,dM,fB,eK,kH,aQ,aU,fL,gM,List.drop_zero,List.drop_succ_cons,rS,oEq,eqA,pO,ki,eL,dY,oneOf,gV,jC,mQ,called,List.append_eq,List.nil_append,List.cons_append,List.append_assoc,Nat.zero_add,Nat.add_zero,kL,lF,aO,aE,aD.aJ,aD.aL,List.length_cons,List.length_nil,Bool.and_true,Bool.true_and,List.all_cons,List.all_nil,bI,bY,bM,bD,eZ,Nat.reduceAdd,Nat.reduceEqDiff,Nat.reduceBEq,ite_true,ite_false,if_true,if_false,iM,kG,jI,iE,iL,dI,fW,decide_eq_true_eq,decide_true,decide_false,qS,intArith,Int.ofNat_zero,reduceCtorEq,Bool.not_true,Bool.not_false,Bool.false_eq_true,Int.reduceEq,Int.reduceAdd,Int.zero_add,Int.add_zero,lW,dN,cM,mX,mZ,nH,nJ,kQ,iI,qA,iH,iY,pZ,iR,jM,iT,oX,fR,dZ,eD,eE,fQ,kI,lV,pK,mJ,jR,iQ,List.reverse_cons,List.reverse_nil,oL,dH,dV,dB,dW,bN,iZ,jL,kW,eH,qJ,oMx,lB,jQ,vE,kX,evO,mR,jF,mU,lG,lI,oF,oE,fU,fS,dU,iP,uD,vF,uA,bound,iW,Int.reduceLE,Int.reduceLT,kF,jG,jB,aH,aK,dA,aS,kO,iS,jN,kN,mC,takeN,cW,jH,jO,jA,eM,iC,fO,jP,kS,iB,KF,KG];try (exfalso;omega)):p:=h x
theorem SXw {f p:Prop} (x:f) (h:f→p:=by intro x;simp -implicitDefEqProofs (maxSteps:=3000000) (disch:=(first|omega|(simp only [aD.aJ,aD.aL];try omega)|skip)) only [x,fC,fE,dQ,cQ,dP,cP,fD,dO,gJ,eO,aM,dG,iD,opA,qP,kE,qQ,pH,rE,rZ,dC,gH,fN,qG,lU,iU,fV,mE,dK,eW,Nat.beq,lQ,lX,dX,vl,qX,eV,eT,dR,fI,fF,fG,bW,iA,gX,cS,fJ,fH,bX,gZ,cR,cU,cV,cT,fK,dJ,eQ,eR,bO,gU,gN,cH,eU,eS,bP,gS,cG,cJ,cK,cI,eP,dL,aY,dE,aZ,fA,bT,bQ,bV,bR,dM,fB,eK,kH,aQ,aU,fL,gM,List.drop_zero,List.drop_succ_cons,rS,oEq,eqA,pO,ki,eL,dY,oneOf,gV,jC,mQ,called,List.append_eq,List.nil_append,List.cons_append,List.append_assoc,Nat.zero_add,Nat.add_zero,kL,lF,aO,aE,aD.aJ,aD.aL,List.length_cons,List.length_nil,Bool.and_true,Bool.true_and,List.all_cons,List.all_nil,bI,bY,bM,bD,eZ,Nat.reduceAdd,Nat.reduceEqDiff,Nat.reduceBEq,ite_true,ite_false,if_true,if_false,iM,kG,jI,iE,iL,dI,fW,decide_eq_true_eq,decide_true,decide_false,qS,intArith,Int.ofNat_zero,reduceCtorEq,Bool.not_true,Bool.not_false,Bool.false_eq_true,Int.reduceEq,Int.reduceAdd,Int.zero_add,Int.add_zero,lW,dN,cM,mX,mZ,nH,nJ,kQ,iI,qA,iH,iY,pZ,iR,jM,iT,oX,fR,dZ,eD,eE,fQ,kI,lV,pK,mJ,jR,iQ,List.reverse_cons,List.reverse_nil,oL,dH,dV,dB,dW,bN,iZ,jL,kW,eH,qJ,oMx,lB,jQ,vE,kX,evO,mR,jF,mU,lG,lI,oF,oE,fU,fS,dU,iP,uD,vF,uA,bound,iW,Int.reduceLE,Int.reduceLT,kF,jG,jB,aH,aK,dA,aS,kO,iS,jN,kN,mC,takeN,cW,jH,jO,jA,eM,iC,fO,jP,kS,iB,KF,KG];with_reducible rfl):p:=h x
end Go.Ly
namespace Go.Gn
open Go Go.Am Go.Fs
variable {fns:Go.Am.F} {orc:Orc}
def InK (h:aD) (r:tG) (J:(Nat→Prop)→aD→Prop) (P' :Nat→Prop) (hh:aD):Prop:=
 h.next+2≤hh.next∧hh.get h.next=some (.deferred (some []))∧hh.get (h.next+1)=some (.loop r)∧¬P' h.next∧¬P' (h.next+1)∧J P' hh
theorem InK.keeps {h:aD} {r:tG} {J:(Nat→Prop)→aD→Prop} (K:yF J):yF (InK h r J) where
 chg P' a b:=by
  rintro ⟨le,mk,lp,np1,np2,hJ⟩ c
  refine ⟨Nat.le_trans le c.next,(c.get _ om np1).trans mk,(c.get _ om np2).trans lp, ?_, ?_,K.chg _ _ _ hJ c⟩
  ·rintro (q|q)
   ·exact np1 q
   ·omega
  ·rintro (q|q)
   ·exact np2 q
   ·omega
 less P' Q a:=by
  rintro ⟨le,mk,lp,np1,np2,hJ⟩ hq
  exact ⟨le,mk,lp,fun q=>np1 (hq _ q),fun q=>np2 (hq _ q),K.less _ _ _ hJ hq⟩
theorem Tv {fn g:FuncId} {capt:List AV} {f:Opd} {ps:List Nat} {asg body:AC} {ts:eN} {ds:List uZ} {rc:RC} {h:aD} {A:Nat→List AV→Prop} {N:Nat} {P:Nat→Prop} {J:Nat→(Nat→Prop)→aD→Prop} {DJ:(Nat→Prop)→aD→Prop}
  (hf:ev ts f= .fn g [] capt) (Y:Et fns orc g capt A N P h) (hP:∀i,P i→i<h.next) (KJ:∀n,yF (J n)) (KD:yF DJ)
  (sJ:∀n Q hh o,J n Q hh→h.next+1<hh.next→J n Q (hh.set (h.next+1) o)) (sD:∀Q hh o,DJ Q hh→h.next+1<hh.next→DJ Q (hh.set (h.next+1) o))
  (h0:J 0 P (pW h ⟨.ready,none,fn,ts,ps,asg,body,h.next⟩))
  (hR:∀n x,A n x→∀P' hh,(∀i,P' i→i<hh.next)→InK h ⟨.ready,none,fn,ts,ps,asg,body,h.next⟩ (J n) P' hh→
   ∃h' b,Ev fns orc (.round (h.next+1) x hh) (.call (.ret (.bool b)) .plain h')∧Kept P' hh h' ∧(b=true→InK h ⟨.ready,none,fn,ts,ps,asg,body,h.next⟩ (J (n+1)) P' h')∧(b=false→InK h ⟨.done,some .ret,fn,ts,ps,asg,body,h.next⟩ DJ P' h')):
  ∃h' e,(∃M,∀m,M≤m→bZ (eval fns orc m) fn none (.rf f ps asg body) ⟨ts,ds,rc,h⟩= .ok (.code e ⟨ts,.collected h.next::ds,rc,h'⟩))∧h.next+2≤h'.next∧h'.get h.next=some (.deferred (some []))∧
   ((e= .normal∧J N P h')∨(e= .ret∧DJ P h')):=by
 obtain ⟨r,hr⟩:∃r:tG,r=⟨.ready,none,fn,ts,ps,asg,body,h.next⟩:=⟨_,rfl⟩
 rw [←hr] at h0
 have F:Fu fns orc (h.next+1) A (fun n=>InK h ⟨.ready,none,fn,ts,ps,asg,body,h.next⟩ (J n)) (InK h ⟨.done,some .ret,fn,ts,ps,asg,body,h.next⟩ DJ):=⟨fun n=>InK.keeps (KJ n),InK.keeps KD,hR⟩
 have gr:=sR h r
 obtain ⟨h3,⟨n1,e1⟩,k3,hID⟩:=Y (pW h r) (h.next+1) _ _ (vR gr hP) (fun i q=>Nat.lt_of_lt_of_le (hP i q) gr.next) F
  ⟨by rw [vC];exact Nat.le_refl _,AW h r,by rw [AX,hr],fun q=>absurd (hP _ q) om,fun q=>absurd (hP _ q) om,h0⟩
 rcases hID with ⟨le,mk,lp,_,_,hJ⟩|⟨le,mk,lp,_,_,hJ⟩
 ·refine ⟨h3.set (h.next+1) (.loop ⟨.exhausted,none,fn,ts,ps,asg,body,h.next⟩),.normal,⟨n1,fun m hm=> ?_⟩,by simpa using le,(aE _ _ _ _ om om).trans mk,.inl ⟨rfl,sJ _ _ _ _ hJ om⟩⟩
  have e1' :=e1 m hm
  have hlo:iX h3 (h.next+1)= .ok ⟨.ready,none,fn,ts,ps,asg,body,h.next⟩:=by simp only [iX,lp]
  rw [hr] at e1'
  unfold pW at e1'
  simp -implicitDefEqProofs only [zM,rfA,xN,aM,xO,hf,List.nil_append,aD.aJ,e1',sI,hlo,vV]
 ·refine ⟨h3.set (h.next+1) (.loop ⟨.exhausted,some .ret,fn,ts,ps,asg,body,h.next⟩),.ret,⟨n1,fun m hm=> ?_⟩,by simpa using le,(aE _ _ _ _ om om).trans mk,.inr ⟨rfl,sD _ _ _ hJ om⟩⟩
  have e1' :=e1 m hm
  have hlo:iX h3 (h.next+1)= .ok ⟨.done,some .ret,fn,ts,ps,asg,body,h.next⟩:=by simp only [iX,lp]
  rw [hr] at e1'
  unfold pW at e1'
  simp -implicitDefEqProofs only [zM,rfA,xN,aM,xO,hf,List.nil_append,aD.aJ,e1',sI,hlo,vV]
end Go.Gn
namespace Go.Gn
open Go Go.Am Go.Fs
variable {fns:Go.Am.F} {orc:Orc}
inductive Ends:Am.Exit→Option (List pI)→Prop
 |normal:Ends .normal none
 |ret:Ends .ret none
 |panic (ch:List pI):Ends (.panic ch) (some ch)
theorem Ev.G7 {f:FuncId} {afn:AFn} {args:List AV} {rc:RC} {h:aD} {a:Ans} {x:Am.Exit} {s:St} {mode:Option (List pI)} (hf:fns f=some afn) (ho:orc f=none)
  (hb:∃n,∀m,n≤m→bZ (eval fns orc m) f none afn.body ⟨eH 0 args,[],rc,h⟩= .ok (.code x s)) (hx:Ends x mode) (hu:Ev fns orc (.unwind f mode s) a):Ev fns orc (.call f args rc h) a:=by
 obtain ⟨n,hb⟩:=hb
 obtain ⟨n2,hu⟩:=hu
 refine ⟨n+n2+2,fun m hm=> ?_⟩
 obtain ⟨k,rfl⟩:∃k,m=k+2:=⟨m -2,by omega⟩
 have hk:=hb k om
 show Bm fns orc (eval fns orc (k+1)) f args rc h= .ok a
 unfold Bm
 rw [ho]
 unfold H9
 simp only [hf]
 show (bZ (eval fns orc k) f none afn.body ⟨eH 0 args,[],rc,h⟩).bind (CM (eval fns orc (k+1)) f)= .ok a
 rw [hk]
 cases hx<;>exact hu (k+1) om
theorem Ev.DQ {f:FuncId} {mode:Option (List pI)} {ts:eN} {ds:List uZ} {rc:RC} {h:aD} {b:Nat} {a:Ans} (hb:h.get b=some (.deferred (some []))) (hu:Ev fns orc (.unwind f mode ⟨ts,ds,rc,h.set b (.deferred none)⟩) a):
  Ev fns orc (.unwind f mode ⟨ts,.collected b::ds,rc,h⟩) a:=by
 obtain ⟨n,hu⟩:=hu
 refine ⟨n+1,fun m hm=> ?_⟩
 obtain ⟨k,rfl⟩:∃k,m=k+1:=⟨m -1,by omega⟩
 show Bj (eval fns orc k) f mode ⟨ts,.collected b::ds,rc,h⟩ b ds=_
 simp only [Bj,hb]
 exact hu k om
theorem Ev.LW {f g:FuncId} {args:List AV} {ts:eN} {ds:List uZ} {rc:RC} {h h' :aD} {v:AV} {a:Ans} (hc:Ev fns orc (.call g args .ret h) (.call (.ret v) .ret h')) (hu:Ev fns orc (.unwind f none ⟨ts,ds,rc,h'⟩) a):
  Ev fns orc (.unwind f none ⟨ts,.call g args::ds,rc,h⟩) a:=by
 obtain ⟨n,hc⟩:=hc
 obtain ⟨n2,hu⟩:=hu
 refine ⟨n+n2+1,fun m hm=> ?_⟩
 obtain ⟨k,rfl⟩:∃k,m=k+1:=⟨m -1,by omega⟩
 show (eval fns orc k (.call g args (Mt none) h)).bind (yN (eval fns orc k) f none ts ds rc)=_
 show (eval fns orc k (.call g args .ret h)).bind (yN (eval fns orc k) f none ts ds rc)=_
 rw [hc k om]
 exact hu k om
theorem Ev.QB {f g:FuncId} {args:List AV} {ch:List pI} {ts:eN} {ds:List uZ} {rc:RC} {h h' :aD} {v w:AV} {D3:List pI} {a:Ans} (hc:Ev fns orc (.call g args (.pan ch) h) (.call (.ret v) (.pan ({v:=w,recovered:=true}::D3)) h')) (hu:Ev fns orc (.unwind f none ⟨ts,ds,rc,h'⟩) a):
  Ev fns orc (.unwind f (some ch) ⟨ts,.call g args::ds,rc,h⟩) a:=by
 obtain ⟨n,hc⟩:=hc
 obtain ⟨n2,hu⟩:=hu
 refine ⟨n+n2+1,fun m hm=> ?_⟩
 obtain ⟨k,rfl⟩:∃k,m=k+1:=⟨m -1,by omega⟩
 show (eval fns orc k (.call g args (.pan ch) h)).bind (yN (eval fns orc k) f (some ch) ts ds rc)=_
 rw [hc k om]
 exact hu k om
theorem Ev.LX {f:FuncId} {afn:AFn} {ts:eN} {rc:RC} {h:aD} {l:List AV} (hf:fns f=some afn) (hr:dY h ts afn.results= .ok l):Ev fns orc (.unwind f none ⟨ts,[],rc,h⟩) (.call (.ret (oneOf l)) rc h):=by
 refine ⟨1,fun m hm=> ?_⟩
 obtain ⟨k,rfl⟩:∃k,m=k+1:=⟨m -1,by omega⟩
 show GX fns f none ⟨ts,[],rc,h⟩=_
 simp only [GX,hf,hr,aM]
end Go.Gn
end

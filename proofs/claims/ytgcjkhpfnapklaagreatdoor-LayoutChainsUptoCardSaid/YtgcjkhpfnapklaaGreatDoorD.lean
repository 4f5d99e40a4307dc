/- Parts of a proof. -/
import Derived.Test.YtgcjkhpfnapklaaGreatDoorF0
import Derived.Test.YtgcjkhpfnapklaaGreatDoorF1
import Derived.Test.YtgcjkhpfnapklaaGreatDoorF2
import Derived.Test.YtgcjkhpfnapklaaGreatDoorF3
import Derived.Test.YtgcjkhpfnapklaaGreatDoorF4
import Derived.Test.YtgcjkhpfnapklaaGreatDoorF5
import Derived.Test.YtgcjkhpfnapklaaGreatDoorF6
import Derived.Test.YtgcjkhpfnapklaaGreatDoorF7
import Derived.Test.YtgcjkhpfnapklaaGreatDoorC
set_option linter.all false
set_option maxHeartbeats 10000000
set_option maxRecDepth 100000
noncomputable section
namespace Go.Ly
open Go Go.Am
abbrev p3x11110100:=KE (pt a3.body [1,1,1,1,0,1,0,0]) _
abbrev p3x111101001001111100:=KE (pt a3.body [1,1,1,1,0,1,0,0,1,0,0,1,1,1,1,1,0,0]) _
abbrev p3x11111:=KE (pt a3.body [1,1,1,1,1]) _
abbrev p3x1111111111:=KE (pt a3.body [1,1,1,1,1,1,1,1,1,1]) _
abbrev p6x1110100:=KE (pt a6.body [1,1,1,0,1,0,0]) _
abbrev p7x110100:=KE (pt a7.body [1,1,0,1,0,0]) _
abbrev p10x0:=KE (pt a10.body [0]) _
abbrev p10x10:=KE (pt a10.body [1,0]) _
abbrev p10x110:=KE (pt a10.body [1,1,0]) _
abbrev p10x1110:=KE (pt a10.body [1,1,1,0]) _
abbrev p10x11110:=KE (pt a10.body [1,1,1,1,0]) _
abbrev p10x111110:=KE (pt a10.body [1,1,1,1,1,0]) _
abbrev p10x111111:=KE (pt a10.body [1,1,1,1,1,1]) _
abbrev p10x11111100:=KE (pt a10.body [1,1,1,1,1,1,0,0]) _
abbrev p10x1111110100:=KE (pt a10.body [1,1,1,1,1,1,0,1,0,0]) _
abbrev p10x1111111:=KE (pt a10.body [1,1,1,1,1,1,1]) _
abbrev p10x111111100:=KE (pt a10.body [1,1,1,1,1,1,1,0,0]) _
abbrev p10x11111110100:=KE (pt a10.body [1,1,1,1,1,1,1,0,1,0,0]) _
abbrev p10x11111111:=KE (pt a10.body [1,1,1,1,1,1,1,1]) _
abbrev p10x1111111100:=KE (pt a10.body [1,1,1,1,1,1,1,1,0,0]) _
abbrev p10x111111110100:=KE (pt a10.body [1,1,1,1,1,1,1,1,0,1,0,0]) _
abbrev p10x111111111:=KE (pt a10.body [1,1,1,1,1,1,1,1,1]) _
abbrev p27x0:=KE (pt a27.body [0]) _
abbrev p27x10:=KE (pt a27.body [1,0]) _
abbrev p27x110:=KE (pt a27.body [1,1,0]) _
abbrev p27x1110:=KE (pt a27.body [1,1,1,0]) _
abbrev p27x11110:=KE (pt a27.body [1,1,1,1,0]) _
abbrev p27x111110:=KE (pt a27.body [1,1,1,1,1,0]) _
abbrev p27x1111110:=KE (pt a27.body [1,1,1,1,1,1,0]) _
abbrev p27x111111100:=KE (pt a27.body [1,1,1,1,1,1,1,0,0]) _
abbrev p27x1111111010:=KE (pt a27.body [1,1,1,1,1,1,1,0,1,0]) _
abbrev p27x1111111011:=KE (pt a27.body [1,1,1,1,1,1,1,0,1,1]) _
abbrev p27x11111110110111100:=KE (pt a27.body [1,1,1,1,1,1,1,0,1,1,0,1,1,1,1,0,0]) _
abbrev p27x11111111:=KE (pt a27.body [1,1,1,1,1,1,1,1]) _
abbrev p28x1100:=KE (pt a28.body [1,1,0,0]) _
abbrev p28x110011001100:=KE (pt a28.body [1,1,0,0,1,1,0,0,1,1,0,0]) _
abbrev p28x110011001100110011110100:=KE (pt a28.body [1,1,0,0,1,1,0,0,1,1,0,0,1,1,0,0,1,1,1,1,0,1,0,0]) _
abbrev p29x0:=KE (pt a29.body [0]) _
abbrev p29x10:=KE (pt a29.body [1,0]) _
abbrev p29x110:=KE (pt a29.body [1,1,0]) _
abbrev p29x11100:=KE (pt a29.body [1,1,1,0,0]) _
abbrev p29x111000:=KE (pt a29.body [1,1,1,0,0,0]) _
abbrev p29x1110010:=KE (pt a29.body [1,1,1,0,0,1,0]) _
abbrev p29x111001100:=KE (pt a29.body [1,1,1,0,0,1,1,0,0]) _
abbrev p29x1110011000:=KE (pt a29.body [1,1,1,0,0,1,1,0,0,0]) _
abbrev p29x11100110010:=KE (pt a29.body [1,1,1,0,0,1,1,0,0,1,0]) _
abbrev p29x11100110011:=KE (pt a29.body [1,1,1,0,0,1,1,0,0,1,1]) _
abbrev p29x111001100110:=KE (pt a29.body [1,1,1,0,0,1,1,0,0,1,1,0]) _
abbrev p29x111001100111:=KE (pt a29.body [1,1,1,0,0,1,1,0,0,1,1,1]) _
abbrev p29x1110011001110:=KE (pt a29.body [1,1,1,0,0,1,1,0,0,1,1,1,0]) _
abbrev p29x111001100111100:=KE (pt a29.body [1,1,1,0,0,1,1,0,0,1,1,1,1,0,0]) _
abbrev p29x1110011001111000:=KE (pt a29.body [1,1,1,0,0,1,1,0,0,1,1,1,1,0,0,0]) _
abbrev p29x11100110011110010:=KE (pt a29.body [1,1,1,0,0,1,1,0,0,1,1,1,1,0,0,1,0]) _
abbrev p29x1110011001111001100:=KE (pt a29.body [1,1,1,0,0,1,1,0,0,1,1,1,1,0,0,1,1,0,0]) _
abbrev p29x11100110011110011000:=KE (pt a29.body [1,1,1,0,0,1,1,0,0,1,1,1,1,0,0,1,1,0,0,0]) _
abbrev p29x111001100111100110010:=KE (pt a29.body [1,1,1,0,0,1,1,0,0,1,1,1,1,0,0,1,1,0,0,1,0]) _
abbrev p29x1110011001111001100110:=KE (pt a29.body [1,1,1,0,0,1,1,0,0,1,1,1,1,0,0,1,1,0,0,1,1,0]) _
abbrev p29x11100110011110011001110:=KE (pt a29.body [1,1,1,0,0,1,1,0,0,1,1,1,1,0,0,1,1,0,0,1,1,1,0]) _
abbrev p29x11100110011110011001111:=KE (pt a29.body [1,1,1,0,0,1,1,0,0,1,1,1,1,0,0,1,1,0,0,1,1,1,1]) _
abbrev p29x111001100111100110011110:=KE (pt a29.body [1,1,1,0,0,1,1,0,0,1,1,1,1,0,0,1,1,0,0,1,1,1,1,0]) _
abbrev p29x111001100111100110011111:=KE (pt a29.body [1,1,1,0,0,1,1,0,0,1,1,1,1,0,0,1,1,0,0,1,1,1,1,1]) _
abbrev p29x1110011001111001100111110:=KE (pt a29.body [1,1,1,0,0,1,1,0,0,1,1,1,1,0,0,1,1,0,0,1,1,1,1,1,0]) _
abbrev p29x1110011001111001100111111:=KE (pt a29.body [1,1,1,0,0,1,1,0,0,1,1,1,1,0,0,1,1,0,0,1,1,1,1,1,1]) _
abbrev p29x11100110011110011001111110:=KE (pt a29.body [1,1,1,0,0,1,1,0,0,1,1,1,1,0,0,1,1,0,0,1,1,1,1,1,1,0]) _
abbrev p29x11100110011110011001111111:=KE (pt a29.body [1,1,1,0,0,1,1,0,0,1,1,1,1,0,0,1,1,0,0,1,1,1,1,1,1,1]) _
abbrev p29x111001100111100110011111110:=KE (pt a29.body [1,1,1,0,0,1,1,0,0,1,1,1,1,0,0,1,1,0,0,1,1,1,1,1,1,1,0]) _
abbrev p29x1110011001111001100111111110:=KE (pt a29.body [1,1,1,0,0,1,1,0,0,1,1,1,1,0,0,1,1,0,0,1,1,1,1,1,1,1,1,0]) _
abbrev p29x1110011001111001100111111111:=KE (pt a29.body [1,1,1,0,0,1,1,0,0,1,1,1,1,0,0,1,1,0,0,1,1,1,1,1,1,1,1,1]) _
abbrev p29x111001100111100111:=KE (pt a29.body [1,1,1,0,0,1,1,0,0,1,1,1,1,0,0,1,1,1]) _
abbrev p29x11100111:=KE (pt a29.body [1,1,1,0,0,1,1,1]) _
abbrev p30x0:=KE (pt a30.body [0]) _
abbrev p30x10:=KE (pt a30.body [1,0]) _
abbrev p30x1100:=KE (pt a30.body [1,1,0,0]) _
abbrev p30x110100:=KE (pt a30.body [1,1,0,1,0,0]) _
abbrev p30x1101000:=KE (pt a30.body [1,1,0,1,0,0,0]) _
abbrev p30x11010010:=KE (pt a30.body [1,1,0,1,0,0,1,0]) _
abbrev p30x11010011000:=KE (pt a30.body [1,1,0,1,0,0,1,1,0,0,0]) _
abbrev p30x110100110010:=KE (pt a30.body [1,1,0,1,0,0,1,1,0,0,1,0]) _
abbrev p30x11010011001100:=KE (pt a30.body [1,1,0,1,0,0,1,1,0,0,1,1,0,0]) _
abbrev p30x110100110011000:=KE (pt a30.body [1,1,0,1,0,0,1,1,0,0,1,1,0,0,0]) _
abbrev p30x1101001100110010:=KE (pt a30.body [1,1,0,1,0,0,1,1,0,0,1,1,0,0,1,0]) _
abbrev p30x1101001100110011000:=KE (pt a30.body [1,1,0,1,0,0,1,1,0,0,1,1,0,0,1,1,0,0,0]) _
abbrev p30x11010011001100110010:=KE (pt a30.body [1,1,0,1,0,0,1,1,0,0,1,1,0,0,1,1,0,0,1,0]) _
abbrev p30x110100110011001100110:=KE (pt a30.body [1,1,0,1,0,0,1,1,0,0,1,1,0,0,1,1,0,0,1,1,0]) _
abbrev p30x11010011001100110011100:=KE (pt a30.body [1,1,0,1,0,0,1,1,0,0,1,1,0,0,1,1,0,0,1,1,1,0,0]) _
abbrev p30x110100110011001100111000:=KE (pt a30.body [1,1,0,1,0,0,1,1,0,0,1,1,0,0,1,1,0,0,1,1,1,0,0,0]) _
abbrev p30x1101001100110011001110010:=KE (pt a30.body [1,1,0,1,0,0,1,1,0,0,1,1,0,0,1,1,0,0,1,1,1,0,0,1,0]) _
abbrev p30x110100110011001100111001100:=KE (pt a30.body [1,1,0,1,0,0,1,1,0,0,1,1,0,0,1,1,0,0,1,1,1,0,0,1,1,0,0]) _
abbrev p30x11010011001100110011100111:=KE (pt a30.body [1,1,0,1,0,0,1,1,0,0,1,1,0,0,1,1,0,0,1,1,1,0,0,1,1,1]) _
abbrev p30x11010011001100111:=KE (pt a30.body [1,1,0,1,0,0,1,1,0,0,1,1,0,0,1,1,1]) _
abbrev p30x110100111:=KE (pt a30.body [1,1,0,1,0,0,1,1,1]) _
abbrev p30x111:=KE (pt a30.body [1,1,1]) _
abbrev p32x10100:=KE (pt a32.body [1,0,1,0,0]) _
abbrev p34x10100:=KE (pt a34.body [1,0,1,0,0]) _
abbrev p35x110100:=KE (pt a35.body [1,1,0,1,0,0]) _
abbrev p36x11110100:=KE (pt a36.body [1,1,1,1,0,1,0,0]) _
abbrev p37x1110100:=KE (pt a37.body [1,1,1,0,1,0,0]) _
abbrev p39x11110100:=KE (pt a39.body [1,1,1,1,0,1,0,0]) _
abbrev p39x11110101:=KE (pt a39.body [1,1,1,1,0,1,0,1]) _
abbrev p43x100:=KE (pt a43.body [1,0,0]) _
abbrev p43x1001100111100:=KE (pt a43.body [1,0,0,1,1,0,0,1,1,1,1,0,0]) _
abbrev p44x100:=KE (pt a44.body [1,0,0]) _
abbrev p44x10011001110100:=KE (pt a44.body [1,0,0,1,1,0,0,1,1,1,0,1,0,0]) _
abbrev p45x111110100:=KE (pt a45.body [1,1,1,1,1,0,1,0,0]) _
abbrev p45x11111010011001111100:=KE (pt a45.body [1,1,1,1,1,0,1,0,0,1,1,0,0,1,1,1,1,1,0,0]) _
abbrev p48x10100:=KE (pt a48.body [1,0,1,0,0]) _
abbrev p49x110100:=KE (pt a49.body [1,1,0,1,0,0]) _
abbrev p50x10100:=KE (pt a50.body [1,0,1,0,0]) _
abbrev p53x110100:=KE (pt a53.body [1,1,0,1,0,0]) _
abbrev p56x10100:=KE (pt a56.body [1,0,1,0,0]) _
abbrev p56x10101:=KE (pt a56.body [1,0,1,0,1]) _
abbrev p59x101010110100:=KE (pt a59.body [1,0,1,0,1,0,1,1,0,1,0,0]) _
abbrev p59x101011111010100:=KE (pt a59.body [1,0,1,0,1,1,1,1,1,0,1,0,1,0,0]) _
abbrev p66x10100:=KE (pt a66.body [1,0,1,0,0]) _
abbrev p73x1110100:=KE (pt a73.body [1,1,1,0,1,0,0]) _
abbrev p73x1110101:=KE (pt a73.body [1,1,1,0,1,0,1]) _
abbrev p77x1110100:=KE (pt a77.body [1,1,1,0,1,0,0]) _
abbrev p77x1110101:=KE (pt a77.body [1,1,1,0,1,0,1]) _
abbrev p97x10100:=KE (pt a97.body [1,0,1,0,0]) _
abbrev p98x100:=KE (pt a98.body [1,0,0]) _
abbrev p114x110100:=KE (pt a114.body [1,1,0,1,0,0]) _
abbrev p123x11110100:=KE (pt a123.body [1,1,1,1,0,1,0,0]) _
abbrev p123x11110101:=KE (pt a123.body [1,1,1,1,0,1,0,1]) _
abbrev p127x110100:=KE (pt a127.body [1,1,0,1,0,0]) _
abbrev p129x10100:=KE (pt a129.body [1,0,1,0,0]) _
abbrev p135x1110100:=KE (pt a135.body [1,1,1,0,1,0,0]) _
abbrev p135x1110101:=KE (pt a135.body [1,1,1,0,1,0,1]) _
abbrev p140x011100:=KE (pt a140.body [0,1,1,1,0,0]) _
abbrev p150x11000:=KE (pt a150.body [1,1,0,0,0]) _
abbrev p157x0:=KE (pt a157.body [0]) _
abbrev p157x10:=KE (pt a157.body [1,0]) _
abbrev p157x110:=KE (pt a157.body [1,1,0]) _
abbrev p157x1110:=KE (pt a157.body [1,1,1,0]) _
abbrev p157x1111:=KE (pt a157.body [1,1,1,1]) _
abbrev p164x11000:=KE (pt a164.body [1,1,0,0,0]) _
abbrev p166x10100:=KE (pt a166.body [1,0,1,0,0]) _
end Go.Ly
namespace Go.Ly
open Go Go.Am
structure Has (fns:Go.Am.F) (orc:Orc):Prop where
 f3:fns 3=some a3
 o3:orc 3=none
 f4:fns 4=some a4
 o4:orc 4=none
 f6:fns 6=some a6
 o6:orc 6=none
 f7:fns 7=some a7
 o7:orc 7=none
 f8:fns 8=some a8
 o8:orc 8=none
 f9:fns 9=some a9
 o9:orc 9=none
 f10:fns 10=some a10
 o10:orc 10=none
 f16:fns 16=some a16
 o16:orc 16=none
 f17:fns 17=some a17
 o17:orc 17=none
 f18:fns 18=some a18
 o18:orc 18=none
 f19:fns 19=some a19
 o19:orc 19=none
 f20:fns 20=some a20
 o20:orc 20=none
 f21:fns 21=some a21
 o21:orc 21=none
 f22:fns 22=some a22
 o22:orc 22=none
 f23:fns 23=some a23
 o23:orc 23=none
 f24:fns 24=some a24
 o24:orc 24=none
 f25:fns 25=some a25
 o25:orc 25=none
 f26:fns 26=some a26
 o26:orc 26=none
 f27:fns 27=some a27
 o27:orc 27=none
 f28:fns 28=some a28
 o28:orc 28=none
 f29:fns 29=some a29
 o29:orc 29=none
 f30:fns 30=some a30
 o30:orc 30=none
 f32:fns 32=some a32
 o32:orc 32=none
 f34:fns 34=some a34
 o34:orc 34=none
 f35:fns 35=some a35
 o35:orc 35=none
 f36:fns 36=some a36
 o36:orc 36=none
 f37:fns 37=some a37
 o37:orc 37=none
 f38:fns 38=some a38
 o38:orc 38=none
 f39:fns 39=some a39
 o39:orc 39=none
 f40:fns 40=some a40
 o40:orc 40=none
 f41:fns 41=some a41
 o41:orc 41=none
 f42:fns 42=some a42
 o42:orc 42=none
 f43:fns 43=some a43
 o43:orc 43=none
 f44:fns 44=some a44
 o44:orc 44=none
 f45:fns 45=some a45
 o45:orc 45=none
 f46:fns 46=some a46
 o46:orc 46=none
 f47:fns 47=some a47
 o47:orc 47=none
 f48:fns 48=some a48
 o48:orc 48=none
 f49:fns 49=some a49
 o49:orc 49=none
 f50:fns 50=some a50
 o50:orc 50=none
 f51:fns 51=some a51
 o51:orc 51=none
 f52:fns 52=some a52
 o52:orc 52=none
 f53:fns 53=some a53
 o53:orc 53=none
 f54:fns 54=some a54
 o54:orc 54=none
 f56:fns 56=some a56
 o56:orc 56=none
 f57:fns 57=some a57
 o57:orc 57=none
 f58:fns 58=some a58
 o58:orc 58=none
 f59:fns 59=some a59
 o59:orc 59=none
 f60:fns 60=some a60
 o60:orc 60=none
 f61:fns 61=some a61
 o61:orc 61=none
 f62:fns 62=some a62
 o62:orc 62=none
 f63:fns 63=some a63
 o63:orc 63=none
 f64:fns 64=some a64
 o64:orc 64=none
 f65:fns 65=some a65
 o65:orc 65=none
 f66:fns 66=some a66
 o66:orc 66=none
 f67:fns 67=some a67
 o67:orc 67=none
 f68:fns 68=some a68
 o68:orc 68=none
 f69:fns 69=some a69
 o69:orc 69=none
 f70:fns 70=some a70
 o70:orc 70=none
 f71:fns 71=some a71
 o71:orc 71=none
 f72:fns 72=some a72
 o72:orc 72=none
 f73:fns 73=some a73
 o73:orc 73=none
 f74:fns 74=some a74
 o74:orc 74=none
 f75:fns 75=some a75
 o75:orc 75=none
 f76:fns 76=some a76
 o76:orc 76=none
 f77:fns 77=some a77
 o77:orc 77=none
 f78:fns 78=some a78
 o78:orc 78=none
 f79:fns 79=some a79
 o79:orc 79=none
 f80:fns 80=some a80
 o80:orc 80=none
 f81:fns 81=some a81
 o81:orc 81=none
 f82:fns 82=some a82
 o82:orc 82=none
 f83:fns 83=some a83
 o83:orc 83=none
 f84:fns 84=some a84
 o84:orc 84=none
 f85:fns 85=some a85
 o85:orc 85=none
 f86:fns 86=some a86
 o86:orc 86=none
 f87:fns 87=some a87
 o87:orc 87=none
 f88:fns 88=some a88
 o88:orc 88=none
 f89:fns 89=some a89
 o89:orc 89=none
 f90:fns 90=some a90
 o90:orc 90=none
 f91:fns 91=some a91
 o91:orc 91=none
 f92:fns 92=some a92
 o92:orc 92=none
 f93:fns 93=some a93
 o93:orc 93=none
 f94:fns 94=some a94
 o94:orc 94=none
 f95:fns 95=some a95
 o95:orc 95=none
 f96:fns 96=some a96
 o96:orc 96=none
 f97:fns 97=some a97
 o97:orc 97=none
 f98:fns 98=some a98
 o98:orc 98=none
 f99:fns 99=some a99
 o99:orc 99=none
 f100:fns 100=some a100
 o100:orc 100=none
 f101:fns 101=some a101
 o101:orc 101=none
 f102:fns 102=some a102
 o102:orc 102=none
 f103:fns 103=some a103
 o103:orc 103=none
 f104:fns 104=some a104
 o104:orc 104=none
 f105:fns 105=some a105
 o105:orc 105=none
 f106:fns 106=some a106
 o106:orc 106=none
 f107:fns 107=some a107
 o107:orc 107=none
 f108:fns 108=some a108
 o108:orc 108=none
 f109:fns 109=some a109
 o109:orc 109=none
 f110:fns 110=some a110
 o110:orc 110=none
 f111:fns 111=some a111
 o111:orc 111=none
 f112:fns 112=some a112
 o112:orc 112=none
 f113:fns 113=some a113
 o113:orc 113=none
 f114:fns 114=some a114
 o114:orc 114=none
 f115:fns 115=some a115
 o115:orc 115=none
 f116:fns 116=some a116
 o116:orc 116=none
 f117:fns 117=some a117
 o117:orc 117=none
 f118:fns 118=some a118
 o118:orc 118=none
 f119:fns 119=some a119
 o119:orc 119=none
 f120:fns 120=some a120
 o120:orc 120=none
 f121:fns 121=some a121
 o121:orc 121=none
 f122:fns 122=some a122
 o122:orc 122=none
 f123:fns 123=some a123
 o123:orc 123=none
 f124:fns 124=some a124
 o124:orc 124=none
 f125:fns 125=some a125
 o125:orc 125=none
 f126:fns 126=some a126
 o126:orc 126=none
 f127:fns 127=some a127
 o127:orc 127=none
 f128:fns 128=some a128
 o128:orc 128=none
 f129:fns 129=some a129
 o129:orc 129=none
 f130:fns 130=some a130
 o130:orc 130=none
 f131:fns 131=some a131
 o131:orc 131=none
 f132:fns 132=some a132
 o132:orc 132=none
 f133:fns 133=some a133
 o133:orc 133=none
 f134:fns 134=some a134
 o134:orc 134=none
 f135:fns 135=some a135
 o135:orc 135=none
 f136:fns 136=some a136
 o136:orc 136=none
 f137:fns 137=some a137
 o137:orc 137=none
 f138:fns 138=some a138
 o138:orc 138=none
 f139:fns 139=some a139
 o139:orc 139=none
 f140:fns 140=some a140
 o140:orc 140=none
 f141:fns 141=some a141
 o141:orc 141=none
 f142:fns 142=some a142
 o142:orc 142=none
 f145:fns 145=some a145
 o145:orc 145=none
 f146:fns 146=some a146
 o146:orc 146=none
 f147:fns 147=some a147
 o147:orc 147=none
 f148:fns 148=some a148
 o148:orc 148=none
 f149:fns 149=some a149
 o149:orc 149=none
 f150:fns 150=some a150
 o150:orc 150=none
 f151:fns 151=some a151
 o151:orc 151=none
 f152:fns 152=some a152
 o152:orc 152=none
 f153:fns 153=some a153
 o153:orc 153=none
 f154:fns 154=some a154
 o154:orc 154=none
 f155:fns 155=some a155
 o155:orc 155=none
 f156:fns 156=some a156
 o156:orc 156=none
 f157:fns 157=some a157
 o157:orc 157=none
 f158:fns 158=some a158
 o158:orc 158=none
 f159:fns 159=some a159
 o159:orc 159=none
 f160:fns 160=some a160
 o160:orc 160=none
 f161:fns 161=some a161
 o161:orc 161=none
 f162:fns 162=some a162
 o162:orc 162=none
 f164:fns 164=some a164
 o164:orc 164=none
 f166:fns 166=some a166
 o166:orc 166=none
 f167:fns 167=some a167
 o167:orc 167=none
end Go.Ly
namespace Go.Ly
open Go Go.Am Go.Fs Go.Gn
variable {fns:Go.Am.F} {orc:Orc}
theorem uW (t:Tk):N2 t t=true:=by cases t<;>simp [N2]
theorem Ab (k:IntKind):kEq k k=true:=by cases k<;>rfl
theorem GK:∀n:List (List UInt8),lI (n.map AV.str) (n.map AV.str)=true
 |[]=>by simp [lI]
 |a::n=>by simp [lI,gX,lH,GK n]
theorem uN {v:AV} {n:List (List UInt8)} (h:jN v (n.map AV.str)):gX v v=true:=by
 generalize hx:n.map AV.str=xs at h
 cases h with
 |nil=>simp [gX]
 |sl tk xs=>subst hx;simp [gX,uW,GK]
mutual
theorem AT:∀{p:Part} {v:AV},RV p v→gX v v=true
 |_,_,.exp h1 h2=>by simp [gX,lI,Ab,gN,lH,kR h1,kR h2]
 |_,_,.desc h1 h2 h3 h4 h5=>by simp [gX,lI,lH,fP,kR h1,kR h2,kR h3,kR h4,kR h5]
 |_,_,.decl h0 h1 h2 h3=>by simp [gX,lI,Ab,gN,uN h0,kR h1,kR h2,kR h3]
 |_,_,.imp h1 h2 h3=>by simp [gX,lI,Ab,gN,lH,fP,kR h1,kR h2,kR h3]
 |_,_,.case h1 h2=>by simp [gX,lI,kR h1,kR h2]
theorem kR:∀{l:List Part} {v:AV},RVs l v→gX v v=true
 |_,_,.nil=>by simp [gX]
 |_,_,.sl tk h=>by simp [gX,uW,PR h]
theorem PR:∀{l:List Part} {xs:List AV},RVL l xs→lI xs xs=true
 |_,_,.nil=>by simp [lI]
 |_,_,.cons h1 h2=>by simp [lI,AT h1,PR h2]
end
theorem lX (n:Nat) (a b:AV):KU n a b=gX a b:=rfl
theorem qD {l:List Part} {v:AV} (h:RVs l v):v.known=true:=by cases h<;>rfl
theorem kW {l:List Part} {v:AV} (h:RVs l v):v.cells=[v]:=by cases h<;>rfl
theorem iR {rec:Task→R Ans} {rd:Option Nat} (q:Nat) (vs:List aD) (rs:List Cx) (s:St):EX rec rd [] q vs rs s= .ok ⟨.normal,s,vs,rs⟩:=rfl
theorem iD {rec:Task→R Ans} {rd:Option Nat} (o:oV) (l:List oV) (q:Nat) (vs:List aD) (rs:List Cx) (s:St):EX rec rd (o::l) q vs rs s=pD rec rd o.o l (EX rec rd l) q vs rs s o.k:=rfl
theorem gM (h:aD):rH [] h=h:=rfl
theorem fM (o:mH) (l:List oV) (h:aD):rH (⟨o,.soft⟩::l) h=rH l h:=rfl
theorem fN (o:mH) (w:List Nat) (l:List oV) (h:aD):rH (⟨o,.look w⟩::l) h=rH l h:=rfl
theorem fO (o:mH) (b:List Bool) (l:List oV) (h:aD):rH (⟨o,.uB b⟩::l) h=rH l h:=rfl
theorem gJ (o:mH) (z:List AV) (w:List Nat) (l:List oV) (h:aD):rH (⟨o,.pre z w⟩::l) h=rH l (h.push (.cells z)):=rfl
theorem eT (k:IntKind) (n:Int):gX (.int k n) (.int k n)=true:=by simp [gX,Ab,gN]
theorem eV (i o:Nat):gX (.ptr i o) (.ptr i o)=true:=by simp [gX]
theorem eL (b:Bool):gX (.bool b) (.bool b)=true:=by simp [gX,fP]
theorem eW (b:List UInt8):gX (.str b) (.str b)=true:=by simp [gX,lH]
theorem cK:gX .aC .aC=true:=by simp [gX]
theorem iS (f:FuncId):gX (.fn f [] []) (.fn f [] [])=true:=by simp [gX,lI]
theorem JH (H:Has fns orc) {p:pR} {c:List AV} (hv:RV (.exp p) (.agg c)) (h:aD):∃h',dB h h' ∧Ev fns orc (.call 82 [.agg c] .plain h) (.call (.ret (.agg (dC (.exp p) c))) .plain h'):=by
 cases hv with
 |exp h1 h2=>
  refine ⟨?hh, ?g,Ev.call H.f82 H.o82 ⟨0,fun m _=> ?b⟩⟩
  case b=>
   have c1:=cH h1;have c2:=cH h2
   simp -implicitDefEqProofs (disch:=(first|omega|(simp only [aD.aI,aD.aK];try omega)|skip)) only [a82,c1,c2,fR,dV,dX,cX,bT,aJ,cW,bR,dW,cV,eZ,dI,aN,dH,fL,opA,mJ,gS,mK,lS,mX,oF,cJ,eY,eU,mE,kN,fW,eX,jV,cR,dQ,Nat.beq,jP,jU,dG,vl,mT,dP,dN,dA,eH,dY,dZ,aZ,fH,fF,bW,eJ,eE,bD,fG,bV,bY,bZ,bX,eK,cQ,dK,dL,aT,fD,fB,bM,dO,dM,aU,fC,bK,bO,bP,bN,dJ,cS,aQ,cM,aR,dS,aX,aV,aY,aW,cT,dU,gS,eM,iL,kX,dE,aL,aP,eS,fA,takeN,List.drop_zero,List.drop_succ_cons,nH,oEq,eqA,lT,ki,eQ,eN,oneOf,fE,gH,jZ,called,List.append_eq,List.nil_append,List.cons_append,List.append_assoc,Nat.zero_add,Nat.add_zero,iM,jH,eR,iN,jF,aM,aE,aD.aI,aD.aK,List.length_cons,List.length_nil,Bool.and_true,Bool.true_and,List.all_cons,List.all_nil,bJ,cF,bI,aS,dR,Nat.reduceAdd,Nat.reduceEqDiff,Nat.reduceBEq,ite_true,ite_false,if_true,if_false,gN,iI,iA,fP,fU,cP,fK,decide_eq_true_eq,decide_true,decide_false,mN,intArith,Int.ofNat_zero,reduceCtorEq,Bool.not_true,Bool.not_false,Bool.false_eq_true,Int.reduceEq,Int.reduceAdd,Int.zero_add,Int.add_zero,jT,dC,oO,jM,jO,oL,kO,cU,bQ,kE,kF,kG,kH,KF,KG]
   rfl
  case g=>exact (((dB.refl h).sH _).sH _).set (by simp) (by simp) _
theorem AW (H:Has fns orc) {p:pW} {c:List AV} (hv:RV (.desc p) (.agg c)) (h:aD):∃h',dB h h' ∧Ev fns orc (.call 42 [.agg c] .plain h) (.call (.ret (.agg (dC (.desc p) c))) .plain h'):=by
 cases hv with
 |desc h1 h2 h3 h4 h5=>
  refine ⟨?hh, ?g,Ev.call H.f42 H.o42 ⟨0,fun m _=> ?b⟩⟩
  case b=>
   have c1:=cH h1;have c2:=cH h2;have c3:=cH h3;have c4:=cH h4;have c5:=cH h5
   simp -implicitDefEqProofs (disch:=(first|omega|(simp only [aD.aI,aD.aK];try omega)|skip)) only [a42,c1,c2,c3,c4,c5,fR,dV,dX,cX,bT,aJ,cW,bR,dW,cV,eZ,dI,aN,dH,fL,opA,mJ,gS,mK,lS,mX,oF,cJ,eY,eU,mE,kN,fW,eX,jV,cR,dQ,Nat.beq,jP,jU,dG,vl,mT,dP,dN,dA,eH,dY,dZ,aZ,fH,fF,bW,eJ,eE,bD,fG,bV,bY,bZ,bX,eK,cQ,dK,dL,aT,fD,fB,bM,dO,dM,aU,fC,bK,bO,bP,bN,dJ,cS,aQ,cM,aR,dS,aX,aV,aY,aW,cT,dU,gS,eM,iL,kX,dE,aL,aP,eS,fA,takeN,List.drop_zero,List.drop_succ_cons,nH,oEq,eqA,lT,ki,eQ,eN,oneOf,fE,gH,jZ,called,List.append_eq,List.nil_append,List.cons_append,List.append_assoc,Nat.zero_add,Nat.add_zero,iM,jH,eR,iN,jF,aM,aE,aD.aI,aD.aK,List.length_cons,List.length_nil,Bool.and_true,Bool.true_and,List.all_cons,List.all_nil,bJ,cF,bI,aS,dR,Nat.reduceAdd,Nat.reduceEqDiff,Nat.reduceBEq,ite_true,ite_false,if_true,if_false,gN,iI,iA,fP,fU,cP,fK,decide_eq_true_eq,decide_true,decide_false,mN,intArith,Int.ofNat_zero,reduceCtorEq,Bool.not_true,Bool.not_false,Bool.false_eq_true,Int.reduceEq,Int.reduceAdd,Int.zero_add,Int.add_zero,jT,dC,oO,jM,jO,oL,kO,cU,bQ,kE,kF,kG,kH,KF,KG]
   rfl
  case g=>exact (((dB.refl h).sH _).sH _).set (by simp) (by simp) _
theorem Hy (H:Has fns orc) {p:mZ} {c:List AV} (hv:RV (.decl p) (.agg c)) (h:aD):∃h',dB h h' ∧Ev fns orc (.call 92 [.agg c] .plain h) (.call (.ret (.agg (dC (.decl p) c))) .plain h'):=by
 cases hv with
 |decl h0 h1 h2 h3=>
  refine ⟨?hh, ?g,Ev.call H.f92 H.o92 ⟨0,fun m _=> ?b⟩⟩
  case b=>
   have c0:=pO h0;have c1:=cH h1;have c2:=cH h2;have c3:=cH h3
   simp -implicitDefEqProofs (disch:=(first|omega|(simp only [aD.aI,aD.aK];try omega)|skip)) only [a92,c0,c1,c2,c3,fR,dV,dX,cX,bT,aJ,cW,bR,dW,cV,eZ,dI,aN,dH,fL,opA,mJ,gS,mK,lS,mX,oF,cJ,eY,eU,mE,kN,fW,eX,jV,cR,dQ,Nat.beq,jP,jU,dG,vl,mT,dP,dN,dA,eH,dY,dZ,aZ,fH,fF,bW,eJ,eE,bD,fG,bV,bY,bZ,bX,eK,cQ,dK,dL,aT,fD,fB,bM,dO,dM,aU,fC,bK,bO,bP,bN,dJ,cS,aQ,cM,aR,dS,aX,aV,aY,aW,cT,dU,gS,eM,iL,kX,dE,aL,aP,eS,fA,takeN,List.drop_zero,List.drop_succ_cons,nH,oEq,eqA,lT,ki,eQ,eN,oneOf,fE,gH,jZ,called,List.append_eq,List.nil_append,List.cons_append,List.append_assoc,Nat.zero_add,Nat.add_zero,iM,jH,eR,iN,jF,aM,aE,aD.aI,aD.aK,List.length_cons,List.length_nil,Bool.and_true,Bool.true_and,List.all_cons,List.all_nil,bJ,cF,bI,aS,dR,Nat.reduceAdd,Nat.reduceEqDiff,Nat.reduceBEq,ite_true,ite_false,if_true,if_false,gN,iI,iA,fP,fU,cP,fK,decide_eq_true_eq,decide_true,decide_false,mN,intArith,Int.ofNat_zero,reduceCtorEq,Bool.not_true,Bool.not_false,Bool.false_eq_true,Int.reduceEq,Int.reduceAdd,Int.zero_add,Int.add_zero,jT,dC,oO,jM,jO,oL,kO,cU,bQ,kE,kF,kG,kH,KF,KG]
   rfl
  case g=>exact (((dB.refl h).sH _).sH _).set (by simp) (by simp) _
theorem JG (H:Has fns orc) {p:qJ} {c:List AV} (hv:RV (.imp p) (.agg c)) (h:aD):∃h',dB h h' ∧Ev fns orc (.call 86 [.agg c] .plain h) (.call (.ret (.agg (dC (.imp p) c))) .plain h'):=by
 cases hv with
 |imp h1 h2 h3=>
  refine ⟨?hh, ?g,Ev.call H.f86 H.o86 ⟨0,fun m _=> ?b⟩⟩
  case b=>
   have c1:=cH h1;have c2:=cH h2;have c3:=cH h3
   simp -implicitDefEqProofs (disch:=(first|omega|(simp only [aD.aI,aD.aK];try omega)|skip)) only [a86,c1,c2,c3,fR,dV,dX,cX,bT,aJ,cW,bR,dW,cV,eZ,dI,aN,dH,fL,opA,mJ,gS,mK,lS,mX,oF,cJ,eY,eU,mE,kN,fW,eX,jV,cR,dQ,Nat.beq,jP,jU,dG,vl,mT,dP,dN,dA,eH,dY,dZ,aZ,fH,fF,bW,eJ,eE,bD,fG,bV,bY,bZ,bX,eK,cQ,dK,dL,aT,fD,fB,bM,dO,dM,aU,fC,bK,bO,bP,bN,dJ,cS,aQ,cM,aR,dS,aX,aV,aY,aW,cT,dU,gS,eM,iL,kX,dE,aL,aP,eS,fA,takeN,List.drop_zero,List.drop_succ_cons,nH,oEq,eqA,lT,ki,eQ,eN,oneOf,fE,gH,jZ,called,List.append_eq,List.nil_append,List.cons_append,List.append_assoc,Nat.zero_add,Nat.add_zero,iM,jH,eR,iN,jF,aM,aE,aD.aI,aD.aK,List.length_cons,List.length_nil,Bool.and_true,Bool.true_and,List.all_cons,List.all_nil,bJ,cF,bI,aS,dR,Nat.reduceAdd,Nat.reduceEqDiff,Nat.reduceBEq,ite_true,ite_false,if_true,if_false,gN,iI,iA,fP,fU,cP,fK,decide_eq_true_eq,decide_true,decide_false,mN,intArith,Int.ofNat_zero,reduceCtorEq,Bool.not_true,Bool.not_false,Bool.false_eq_true,Int.reduceEq,Int.reduceAdd,Int.zero_add,Int.add_zero,jT,dC,oO,jM,jO,oL,kO,cU,bQ,kE,kF,kG,kH,KF,KG]
   rfl
  case g=>exact (((dB.refl h).sH _).sH _).set (by simp) (by simp) _
theorem Hz (H:Has fns orc) {p:uU} {c:List AV} (hv:RV (.case p) (.agg c)) (h:aD):∃h',dB h h' ∧Ev fns orc (.call 96 [.agg c] .plain h) (.call (.ret (.agg (dC (.case p) c))) .plain h'):=by
 cases hv with
 |case h1 h2=>
  refine ⟨?hh, ?g,Ev.call H.f96 H.o96 ⟨0,fun m _=> ?b⟩⟩
  case b=>
   have c1:=cH h1;have c2:=cH h2
   simp -implicitDefEqProofs (disch:=(first|omega|(simp only [aD.aI,aD.aK];try omega)|skip)) only [a96,c1,c2,fR,dV,dX,cX,bT,aJ,cW,bR,dW,cV,eZ,dI,aN,dH,fL,opA,mJ,gS,mK,lS,mX,oF,cJ,eY,eU,mE,kN,fW,eX,jV,cR,dQ,Nat.beq,jP,jU,dG,vl,mT,dP,dN,dA,eH,dY,dZ,aZ,fH,fF,bW,eJ,eE,bD,fG,bV,bY,bZ,bX,eK,cQ,dK,dL,aT,fD,fB,bM,dO,dM,aU,fC,bK,bO,bP,bN,dJ,cS,aQ,cM,aR,dS,aX,aV,aY,aW,cT,dU,gS,eM,iL,kX,dE,aL,aP,eS,fA,takeN,List.drop_zero,List.drop_succ_cons,nH,oEq,eqA,lT,ki,eQ,eN,oneOf,fE,gH,jZ,called,List.append_eq,List.nil_append,List.cons_append,List.append_assoc,Nat.zero_add,Nat.add_zero,iM,jH,eR,iN,jF,aM,aE,aD.aI,aD.aK,List.length_cons,List.length_nil,Bool.and_true,Bool.true_and,List.all_cons,List.all_nil,bJ,cF,bI,aS,dR,Nat.reduceAdd,Nat.reduceEqDiff,Nat.reduceBEq,ite_true,ite_false,if_true,if_false,gN,iI,iA,fP,fU,cP,fK,decide_eq_true_eq,decide_true,decide_false,mN,intArith,Int.ofNat_zero,reduceCtorEq,Bool.not_true,Bool.not_false,Bool.false_eq_true,Int.reduceEq,Int.reduceAdd,Int.zero_add,Int.add_zero,jT,dC,oO,jM,jO,oL,kO,cU,bQ,kE,kF,kG,kH,KF,KG]
   rfl
  case g=>exact (((dB.refl h).sH _).sH _).set (by simp) (by simp) _
theorem B3 {f g:Nat} {afn:AFn} {sz:Nat} {z:List AV} (hf:fns f=some afn) (ho:orc f=none) (hbd:afn.body=DV sz z) (hr:afn.results=[]) (hz:z.length=sz) {l:List Part} {v:AV} (hv:RVs l v) (hn:l.length<30000000)
  (hof:∀p∈l,∀c,RV p (.agg c)→c.length=sz∧∀h:aD,∃h',dB h h' ∧Ev fns orc (.call g [.agg c] .plain h) (.call (.ret (.agg (dC p c))) .plain h')):
  ∃ys,RPL l ys∧∀(bl bo:Nat) (P:Nat→Prop) (h0:aD),P bl→P bo→h0.get bl=some (.cells [v])→h0.get bo=some (.cells [.fn g [] []])→rO fns orc f [.ptr bl 0,.ptr bo 0] ys P h0:=by
 obtain ⟨xs,h1,h2,h3⟩:=kZ hv
 have key:∀(l:List Part) (xs:List AV),xs.length=l.length→(∀i (hi:i<l.length),∃c,xs[i]? =some (.agg c)∧RV l[i] (.agg c))→
   ∃ys,RPL l ys∧ys.length=l.length∧∀i (hi:i<l.length),∃c,xs[i]? =some (.agg c)∧RV l[i] (.agg c)∧ys[i]? =some (.agg (dC l[i] c)):=by
  intro l
  induction l with
  |nil=>intro xs _ _;exact ⟨[],.nil,rfl,fun i hi=>by simp at hi⟩
  |cons p l ih=>
   intro xs hl hx
   cases xs with
   |nil=>simp at hl
   |cons x xs=>
    obtain ⟨c,e,r⟩:=hx 0 (by simp)
    obtain ⟨ys,r1,r2,r3⟩:=ih xs (by simpa using hl) (fun i hi=>by obtain ⟨d,u,w⟩:=hx (i+1) (by simp;omega);exact ⟨d,u,w⟩)
    refine ⟨.agg (dC p c)::ys,.cons ⟨c,by simpa using r,rfl⟩ r1,by simp [r2],fun i hi=> ?_⟩
    cases i with
    |zero=>exact ⟨c,e,r,rfl⟩
    |succ i=>obtain ⟨d,u,w,k⟩:=r3 i (by simp at hi;omega);exact ⟨d,u,w,k⟩
 obtain ⟨ys,r1,r2,r3⟩:=key l xs h2 h3
 refine ⟨ys,r1,fun bl bo P h0 b1 b2 g1 g2=>Kl hf ho hbd hr hz h1 om om (fun i hi=> ?_) b1 b2 g1 g2⟩
 obtain ⟨c,e1,e2,e3⟩:=r3 i om
 obtain ⟨o1,o2⟩:=hof _ (List.getElem_mem om) c e2
 refine ⟨c,e1,o1, ?_,fun h=> ?_⟩
 ·have:=mV e2
  cases hp:l[i]'om<;>rw [hp] at this<;>simp only [dC,List.all_cons,List.all_append,Bool.and_eq_true] at this<;>simp_all
 ·obtain ⟨h',g',e'⟩:=o2 h
  have:ys[i]'om= .agg (dC (l[i]'om) c):=by rw [List.getElem?_eq_getElem om] at e3;exact Option.some.inj e3
  rw [this]
  exact ⟨h',g',e'⟩
theorem tW (H:Has fns orc) {v:AV} (hk:v.known=true) (hc:v.cells=[v]) (g:Nat) (h:aD) (m:Nat) (hm:2≤m):
  eval fns orc m (.call 101 [v,.fn g [] []] .plain h)= .ok (.call (.ret (.fn 118 [] [.ptr h.next 0,.ptr (h.next+1) 0])) .plain ((h.push (.cells [v])).push (.cells [.fn g [] []]))):=
 iT (n:=0) H.f101 H.o101 (fun m _=>by
  simp -implicitDefEqProofs (disch:=(first|omega|(simp only [aD.aI,aD.aK];try omega)|skip)) only [a101,hk,hc,fR,dV,dX,cX,bT,aJ,cW,bR,dW,cV,eZ,dI,aN,dH,fL,opA,mJ,gS,mK,lS,mX,oF,cJ,eY,eU,mE,kN,fW,eX,jV,cR,dQ,Nat.beq,jP,jU,dG,vl,mT,dP,dN,dA,eH,dY,dZ,aZ,fH,fF,bW,eJ,eE,bD,fG,bV,bY,bZ,bX,eK,cQ,dK,dL,aT,fD,fB,bM,dO,dM,aU,fC,bK,bO,bP,bN,dJ,cS,aQ,cM,aR,dS,aX,aV,aY,aW,cT,dU,gS,eM,iL,kX,dE,aL,aP,eS,fA,takeN,List.drop_zero,List.drop_succ_cons,nH,oEq,eqA,lT,ki,eQ,eN,oneOf,fE,gH,jZ,called,List.append_eq,List.nil_append,List.cons_append,List.append_assoc,Nat.zero_add,Nat.add_zero,iM,jH,eR,iN,jF,aM,aE,aD.aI,aD.aK,List.length_cons,List.length_nil,Bool.and_true,Bool.true_and,List.all_cons,List.all_nil,bJ,cF,bI,aS,dR,Nat.reduceAdd,Nat.reduceEqDiff,Nat.reduceBEq,ite_true,ite_false,if_true,if_false,gN,iI,iA,fP,fU,cP,fK,decide_eq_true_eq,decide_true,decide_false,mN,intArith,Int.ofNat_zero,reduceCtorEq,Bool.not_true,Bool.not_false,Bool.false_eq_true,Int.reduceEq,Int.reduceAdd,Int.zero_add,Int.add_zero,jT,dC,oO,jM,jO,oL,kO,cU,bQ,kE,kF,kG,kH,KF,KG]) m hm
theorem Hj (H:Has fns orc) {v:AV} (hk:v.known=true) (hc:v.cells=[v]) (g:Nat) (h:aD) (m:Nat) (hm:2≤m):
  eval fns orc m (.call 102 [v,.fn g [] []] .plain h)= .ok (.call (.ret (.fn 119 [] [.ptr h.next 0,.ptr (h.next+1) 0])) .plain ((h.push (.cells [v])).push (.cells [.fn g [] []]))):=
 iT (n:=0) H.f102 H.o102 (fun m _=>by
  simp -implicitDefEqProofs (disch:=(first|omega|(simp only [aD.aI,aD.aK];try omega)|skip)) only [a102,hk,hc,fR,dV,dX,cX,bT,aJ,cW,bR,dW,cV,eZ,dI,aN,dH,fL,opA,mJ,gS,mK,lS,mX,oF,cJ,eY,eU,mE,kN,fW,eX,jV,cR,dQ,Nat.beq,jP,jU,dG,vl,mT,dP,dN,dA,eH,dY,dZ,aZ,fH,fF,bW,eJ,eE,bD,fG,bV,bY,bZ,bX,eK,cQ,dK,dL,aT,fD,fB,bM,dO,dM,aU,fC,bK,bO,bP,bN,dJ,cS,aQ,cM,aR,dS,aX,aV,aY,aW,cT,dU,gS,eM,iL,kX,dE,aL,aP,eS,fA,takeN,List.drop_zero,List.drop_succ_cons,nH,oEq,eqA,lT,ki,eQ,eN,oneOf,fE,gH,jZ,called,List.append_eq,List.nil_append,List.cons_append,List.append_assoc,Nat.zero_add,Nat.add_zero,iM,jH,eR,iN,jF,aM,aE,aD.aI,aD.aK,List.length_cons,List.length_nil,Bool.and_true,Bool.true_and,List.all_cons,List.all_nil,bJ,cF,bI,aS,dR,Nat.reduceAdd,Nat.reduceEqDiff,Nat.reduceBEq,ite_true,ite_false,if_true,if_false,gN,iI,iA,fP,fU,cP,fK,decide_eq_true_eq,decide_true,decide_false,mN,intArith,Int.ofNat_zero,reduceCtorEq,Bool.not_true,Bool.not_false,Bool.false_eq_true,Int.reduceEq,Int.reduceAdd,Int.zero_add,Int.add_zero,jT,dC,oO,jM,jO,oL,kO,cU,bQ,kE,kF,kG,kH,KF,KG]) m hm
theorem Br (H:Has fns orc) {v:AV} (hk:v.known=true) (hc:v.cells=[v]) (g:Nat) (h:aD) (m:Nat) (hm:2≤m):
  eval fns orc m (.call 103 [v,.fn g [] []] .plain h)= .ok (.call (.ret (.fn 120 [] [.ptr h.next 0,.ptr (h.next+1) 0])) .plain ((h.push (.cells [v])).push (.cells [.fn g [] []]))):=
 iT (n:=0) H.f103 H.o103 (fun m _=>by
  simp -implicitDefEqProofs (disch:=(first|omega|(simp only [aD.aI,aD.aK];try omega)|skip)) only [a103,hk,hc,fR,dV,dX,cX,bT,aJ,cW,bR,dW,cV,eZ,dI,aN,dH,fL,opA,mJ,gS,mK,lS,mX,oF,cJ,eY,eU,mE,kN,fW,eX,jV,cR,dQ,Nat.beq,jP,jU,dG,vl,mT,dP,dN,dA,eH,dY,dZ,aZ,fH,fF,bW,eJ,eE,bD,fG,bV,bY,bZ,bX,eK,cQ,dK,dL,aT,fD,fB,bM,dO,dM,aU,fC,bK,bO,bP,bN,dJ,cS,aQ,cM,aR,dS,aX,aV,aY,aW,cT,dU,gS,eM,iL,kX,dE,aL,aP,eS,fA,takeN,List.drop_zero,List.drop_succ_cons,nH,oEq,eqA,lT,ki,eQ,eN,oneOf,fE,gH,jZ,called,List.append_eq,List.nil_append,List.cons_append,List.append_assoc,Nat.zero_add,Nat.add_zero,iM,jH,eR,iN,jF,aM,aE,aD.aI,aD.aK,List.length_cons,List.length_nil,Bool.and_true,Bool.true_and,List.all_cons,List.all_nil,bJ,cF,bI,aS,dR,Nat.reduceAdd,Nat.reduceEqDiff,Nat.reduceBEq,ite_true,ite_false,if_true,if_false,gN,iI,iA,fP,fU,cP,fK,decide_eq_true_eq,decide_true,decide_false,mN,intArith,Int.ofNat_zero,reduceCtorEq,Bool.not_true,Bool.not_false,Bool.false_eq_true,Int.reduceEq,Int.reduceAdd,Int.zero_add,Int.add_zero,jT,dC,oO,jM,jO,oL,kO,cU,bQ,kE,kF,kG,kH,KF,KG]) m hm
theorem CL (H:Has fns orc) {v:AV} (hk:v.known=true) (hc:v.cells=[v]) (g:Nat) (h:aD) (m:Nat) (hm:2≤m):
  eval fns orc m (.call 104 [v,.fn g [] []] .plain h)= .ok (.call (.ret (.fn 121 [] [.ptr h.next 0,.ptr (h.next+1) 0])) .plain ((h.push (.cells [v])).push (.cells [.fn g [] []]))):=
 iT (n:=0) H.f104 H.o104 (fun m _=>by
  simp -implicitDefEqProofs (disch:=(first|omega|(simp only [aD.aI,aD.aK];try omega)|skip)) only [a104,hk,hc,fR,dV,dX,cX,bT,aJ,cW,bR,dW,cV,eZ,dI,aN,dH,fL,opA,mJ,gS,mK,lS,mX,oF,cJ,eY,eU,mE,kN,fW,eX,jV,cR,dQ,Nat.beq,jP,jU,dG,vl,mT,dP,dN,dA,eH,dY,dZ,aZ,fH,fF,bW,eJ,eE,bD,fG,bV,bY,bZ,bX,eK,cQ,dK,dL,aT,fD,fB,bM,dO,dM,aU,fC,bK,bO,bP,bN,dJ,cS,aQ,cM,aR,dS,aX,aV,aY,aW,cT,dU,gS,eM,iL,kX,dE,aL,aP,eS,fA,takeN,List.drop_zero,List.drop_succ_cons,nH,oEq,eqA,lT,ki,eQ,eN,oneOf,fE,gH,jZ,called,List.append_eq,List.nil_append,List.cons_append,List.append_assoc,Nat.zero_add,Nat.add_zero,iM,jH,eR,iN,jF,aM,aE,aD.aI,aD.aK,List.length_cons,List.length_nil,Bool.and_true,Bool.true_and,List.all_cons,List.all_nil,bJ,cF,bI,aS,dR,Nat.reduceAdd,Nat.reduceEqDiff,Nat.reduceBEq,ite_true,ite_false,if_true,if_false,gN,iI,iA,fP,fU,cP,fK,decide_eq_true_eq,decide_true,decide_false,mN,intArith,Int.ofNat_zero,reduceCtorEq,Bool.not_true,Bool.not_false,Bool.false_eq_true,Int.reduceEq,Int.reduceAdd,Int.zero_add,Int.add_zero,jT,dC,oO,jM,jO,oL,kO,cU,bQ,kE,kF,kG,kH,KF,KG]) m hm
theorem Hk (H:Has fns orc) {v:AV} (hk:v.known=true) (hc:v.cells=[v]) (g:Nat) (h:aD) (m:Nat) (hm:2≤m):
  eval fns orc m (.call 105 [v,.fn g [] []] .plain h)= .ok (.call (.ret (.fn 122 [] [.ptr h.next 0,.ptr (h.next+1) 0])) .plain ((h.push (.cells [v])).push (.cells [.fn g [] []]))):=
 iT (n:=0) H.f105 H.o105 (fun m _=>by
  simp -implicitDefEqProofs (disch:=(first|omega|(simp only [aD.aI,aD.aK];try omega)|skip)) only [a105,hk,hc,fR,dV,dX,cX,bT,aJ,cW,bR,dW,cV,eZ,dI,aN,dH,fL,opA,mJ,gS,mK,lS,mX,oF,cJ,eY,eU,mE,kN,fW,eX,jV,cR,dQ,Nat.beq,jP,jU,dG,vl,mT,dP,dN,dA,eH,dY,dZ,aZ,fH,fF,bW,eJ,eE,bD,fG,bV,bY,bZ,bX,eK,cQ,dK,dL,aT,fD,fB,bM,dO,dM,aU,fC,bK,bO,bP,bN,dJ,cS,aQ,cM,aR,dS,aX,aV,aY,aW,cT,dU,gS,eM,iL,kX,dE,aL,aP,eS,fA,takeN,List.drop_zero,List.drop_succ_cons,nH,oEq,eqA,lT,ki,eQ,eN,oneOf,fE,gH,jZ,called,List.append_eq,List.nil_append,List.cons_append,List.append_assoc,Nat.zero_add,Nat.add_zero,iM,jH,eR,iN,jF,aM,aE,aD.aI,aD.aK,List.length_cons,List.length_nil,Bool.and_true,Bool.true_and,List.all_cons,List.all_nil,bJ,cF,bI,aS,dR,Nat.reduceAdd,Nat.reduceEqDiff,Nat.reduceBEq,ite_true,ite_false,if_true,if_false,gN,iI,iA,fP,fU,cP,fK,decide_eq_true_eq,decide_true,decide_false,mN,intArith,Int.ofNat_zero,reduceCtorEq,Bool.not_true,Bool.not_false,Bool.false_eq_true,Int.reduceEq,Int.reduceAdd,Int.zero_add,Int.add_zero,jT,dC,oO,jM,jO,oL,kO,cU,bQ,kE,kF,kG,kH,KF,KG]) m hm
end Go.Ly
namespace Go.Ly
open Go Go.Am Go.Fs Go.Gn
variable {fns:Go.Am.F} {orc:Orc}
theorem OD (H:Has fns orc) {d:pW} {s0:List UInt8} {b0:Bool} {v0 v1 v2 v3 v4:AV} (kn0:v0.known=true) (ce0:v0.cells=[v0]) (ic0:v0.fQ=true) (eq0:gX v0 v0=true) (kn1:v1.known=true) (ce1:v1.cells=[v1]) (ic1:v1.fQ=true) (eq1:gX v1 v1=true) (kn2:v2.known=true) (ce2:v2.cells=[v2]) (ic2:v2.fQ=true) (eq2:gX v2 v2=true) (kn3:v3.known=true) (ce3:v3.cells=[v3]) (ic3:v3.fQ=true) (eq3:gX v3 v3=true) (kn4:v4.known=true) (ce4:v4.cells=[v4]) (ic4:v4.fQ=true) (eq4:gX v4 v4=true) (h:aD):
  ∃hF,Ev fns orc (.call 74 [.agg (dC (.desc d) [.str s0,v0,v1,v2,.bool b0,v3,v4])] .plain h) (.call (.ret (.fn 106 [] [.ptr (h.next+1) 0])) .plain hF)∧dB h hF∧hF.next=h.next+13∧
   hF.get (h.next+1)=some (.cells [.sl .full [.fn 118 [] [.ptr (h.next+3) 0,.ptr (h.next+4) 0],.fn 119 [] [.ptr (h.next+5) 0,.ptr (h.next+6) 0],.fn 118 [] [.ptr (h.next+7) 0,.ptr (h.next+8) 0],.fn 120 [] [.ptr (h.next+9) 0,.ptr (h.next+10) 0],.fn 118 [] [.ptr (h.next+11) 0,.ptr (h.next+12) 0]]])∧hF.get (h.next+3)=some (.cells [v0])∧hF.get (h.next+4)=some (.cells [.fn 82 [] []])∧hF.get (h.next+5)=some (.cells [v1])∧hF.get (h.next+6)=some (.cells [.fn 92 [] []])∧hF.get (h.next+7)=some (.cells [v2])∧hF.get (h.next+8)=some (.cells [.fn 82 [] []])∧hF.get (h.next+9)=some (.cells [v3])∧hF.get (h.next+10)=some (.cells [.fn 86 [] []])∧hF.get (h.next+11)=some (.cells [v4])∧hF.get (h.next+12)=some (.cells [.fn 82 [] []]):=by
 refine ⟨?hF,Ev.call H.f74 H.o74 ⟨2,fun m hm=> ?b⟩, ?g, ?n, ?r⟩
 case b=>
  have q0:=fun h=>tW H kn0 ce0 82 h m om
  have q1:=fun h=>Hj H kn1 ce1 92 h m om
  have q2:=fun h=>tW H kn2 ce2 82 h m om
  have q3:=fun h=>Br H kn3 ce3 86 h m om
  have q4:=fun h=>tW H kn4 ce4 82 h m om
  simp -implicitDefEqProofs (maxSteps:=1000000) (disch:=(first|omega|(simp only [aD.aI,aD.aK];try omega)|skip)) only [a74,kn0,ce0,ic0,eq0,kn1,ce1,ic1,eq1,kn2,ce2,ic2,eq2,kn3,ce3,ic3,eq3,kn4,ce4,ic4,eq4,q0,q1,q2,q3,q4,fR,dV,dX,cX,bT,aJ,cW,bR,dW,cV,eZ,dI,aN,dH,fL,opA,mJ,gS,mK,lS,mX,oF,cJ,eY,eU,mE,kN,fW,eX,jV,cR,dQ,Nat.beq,jP,jU,dG,vl,mT,dP,dN,dA,eH,dY,dZ,aZ,fH,fF,bW,eJ,eE,bD,fG,bV,bY,bZ,bX,eK,cQ,dK,dL,aT,fD,fB,bM,dO,dM,aU,fC,bK,bO,bP,bN,dJ,cS,aQ,cM,aR,dS,aX,aV,aY,aW,cT,dU,gS,eM,iL,kX,dE,aL,aP,eS,fA,takeN,List.drop_zero,List.drop_succ_cons,nH,oEq,eqA,lT,ki,eQ,eN,oneOf,fE,gH,jZ,called,List.append_eq,List.nil_append,List.cons_append,List.append_assoc,Nat.zero_add,Nat.add_zero,iM,jH,eR,iN,jF,aM,aE,aD.aI,aD.aK,List.length_cons,List.length_nil,Bool.and_true,Bool.true_and,List.all_cons,List.all_nil,bJ,cF,bI,aS,dR,Nat.reduceAdd,Nat.reduceEqDiff,Nat.reduceBEq,ite_true,ite_false,if_true,if_false,gN,iI,iA,fP,fU,cP,fK,decide_eq_true_eq,decide_true,decide_false,mN,intArith,Int.ofNat_zero,reduceCtorEq,Bool.not_true,Bool.not_false,Bool.false_eq_true,Int.reduceEq,Int.reduceAdd,Int.zero_add,Int.add_zero,jT,dC,oO,jM,jO,oL,kO,cU,bQ,kE,kF,kG,kH,iE,pE,iD,iR,pD,iV,iZ,iO,oE,gM,fM,fN,fO,gJ,jY,lG,oJ,lJ,jC,iU,List.reverse_cons,List.reverse_nil,lX,eT,eV,eL,eW,cK,iS,iQ,jX,KF,KG]
  rfl
 case g=>exact gw2
 case n=>simp
 case r=>refine ⟨?_, ?_, ?_, ?_, ?_, ?_, ?_, ?_, ?_, ?_, ?_⟩<;>simp (disch:=(first|omega|(simp only [aD.aI,aD.aK];try omega)|skip)) only [aM,aE,aL,aP,aD.aI,aD.aK]
theorem OE (H:Has fns orc) {d:mZ} {k0:Int} {n0:AV} {v0 v1 v2:AV} (hn0:n0.fQ=true) (kn0:v0.known=true) (ce0:v0.cells=[v0]) (ic0:v0.fQ=true) (eq0:gX v0 v0=true) (kn1:v1.known=true) (ce1:v1.cells=[v1]) (ic1:v1.fQ=true) (eq1:gX v1 v1=true) (kn2:v2.known=true) (ce2:v2.cells=[v2]) (ic2:v2.fQ=true) (eq2:gX v2 v2=true) (h:aD):
  ∃hF,Ev fns orc (.call 74 [.agg (dC (.decl d) [.int .i64 k0,n0,v0,v1,v2])] .plain h) (.call (.ret (.fn 106 [] [.ptr (h.next+1) 0])) .plain hF)∧dB h hF∧hF.next=h.next+8∧
   hF.get (h.next+1)=some (.cells [.sl .full [.fn 118 [] [.ptr (h.next+2) 0,.ptr (h.next+3) 0],.fn 118 [] [.ptr (h.next+4) 0,.ptr (h.next+5) 0],.fn 121 [] [.ptr (h.next+6) 0,.ptr (h.next+7) 0]]])∧hF.get (h.next+2)=some (.cells [v0])∧hF.get (h.next+3)=some (.cells [.fn 82 [] []])∧hF.get (h.next+4)=some (.cells [v1])∧hF.get (h.next+5)=some (.cells [.fn 82 [] []])∧hF.get (h.next+6)=some (.cells [v2])∧hF.get (h.next+7)=some (.cells [.fn 42 [] []]):=by
 refine ⟨?hF,Ev.call H.f74 H.o74 ⟨2,fun m hm=> ?b⟩, ?g, ?n, ?r⟩
 case b=>
  have q0:=fun h=>tW H kn0 ce0 82 h m om
  have q1:=fun h=>tW H kn1 ce1 82 h m om
  have q2:=fun h=>CL H kn2 ce2 42 h m om
  simp -implicitDefEqProofs (maxSteps:=1000000) (disch:=(first|omega|(simp only [aD.aI,aD.aK];try omega)|skip)) only [a74,kn0,ce0,ic0,eq0,kn1,ce1,ic1,eq1,kn2,ce2,ic2,eq2,hn0,q0,q1,q2,fR,dV,dX,cX,bT,aJ,cW,bR,dW,cV,eZ,dI,aN,dH,fL,opA,mJ,gS,mK,lS,mX,oF,cJ,eY,eU,mE,kN,fW,eX,jV,cR,dQ,Nat.beq,jP,jU,dG,vl,mT,dP,dN,dA,eH,dY,dZ,aZ,fH,fF,bW,eJ,eE,bD,fG,bV,bY,bZ,bX,eK,cQ,dK,dL,aT,fD,fB,bM,dO,dM,aU,fC,bK,bO,bP,bN,dJ,cS,aQ,cM,aR,dS,aX,aV,aY,aW,cT,dU,gS,eM,iL,kX,dE,aL,aP,eS,fA,takeN,List.drop_zero,List.drop_succ_cons,nH,oEq,eqA,lT,ki,eQ,eN,oneOf,fE,gH,jZ,called,List.append_eq,List.nil_append,List.cons_append,List.append_assoc,Nat.zero_add,Nat.add_zero,iM,jH,eR,iN,jF,aM,aE,aD.aI,aD.aK,List.length_cons,List.length_nil,Bool.and_true,Bool.true_and,List.all_cons,List.all_nil,bJ,cF,bI,aS,dR,Nat.reduceAdd,Nat.reduceEqDiff,Nat.reduceBEq,ite_true,ite_false,if_true,if_false,gN,iI,iA,fP,fU,cP,fK,decide_eq_true_eq,decide_true,decide_false,mN,intArith,Int.ofNat_zero,reduceCtorEq,Bool.not_true,Bool.not_false,Bool.false_eq_true,Int.reduceEq,Int.reduceAdd,Int.zero_add,Int.add_zero,jT,dC,oO,jM,jO,oL,kO,cU,bQ,kE,kF,kG,kH,iE,pE,iD,iR,pD,iV,iZ,iO,oE,gM,fM,fN,fO,gJ,jY,lG,oJ,lJ,jC,iU,List.reverse_cons,List.reverse_nil,lX,eT,eV,eL,eW,cK,iS,iQ,jX,KF,KG]
  rfl
 case g=>exact gw2
 case n=>simp
 case r=>refine ⟨?_, ?_, ?_, ?_, ?_, ?_, ?_⟩<;>simp (disch:=(first|omega|(simp only [aD.aI,aD.aK];try omega)|skip)) only [aM,aE,aL,aP,aD.aI,aD.aK]
theorem QR (H:Has fns orc) {d:qJ} {k0:Int} {s0:List UInt8} {b0:Bool} {v0 v1 v2:AV} (kn0:v0.known=true) (ce0:v0.cells=[v0]) (ic0:v0.fQ=true) (eq0:gX v0 v0=true) (kn1:v1.known=true) (ce1:v1.cells=[v1]) (ic1:v1.fQ=true) (eq1:gX v1 v1=true) (kn2:v2.known=true) (ce2:v2.cells=[v2]) (ic2:v2.fQ=true) (eq2:gX v2 v2=true) (h:aD):
  ∃hF,Ev fns orc (.call 74 [.agg (dC (.imp d) [.int .i64 k0,.str s0,v0,v1,.bool b0,v2])] .plain h) (.call (.ret (.fn 106 [] [.ptr (h.next+1) 0])) .plain hF)∧dB h hF∧hF.next=h.next+8∧
   hF.get (h.next+1)=some (.cells [.sl .full [.fn 118 [] [.ptr (h.next+2) 0,.ptr (h.next+3) 0],.fn 122 [] [.ptr (h.next+4) 0,.ptr (h.next+5) 0],.fn 120 [] [.ptr (h.next+6) 0,.ptr (h.next+7) 0]]])∧hF.get (h.next+2)=some (.cells [v0])∧hF.get (h.next+3)=some (.cells [.fn 82 [] []])∧hF.get (h.next+4)=some (.cells [v1])∧hF.get (h.next+5)=some (.cells [.fn 96 [] []])∧hF.get (h.next+6)=some (.cells [v2])∧hF.get (h.next+7)=some (.cells [.fn 86 [] []]):=by
 refine ⟨?hF,Ev.call H.f74 H.o74 ⟨2,fun m hm=> ?b⟩, ?g, ?n, ?r⟩
 case b=>
  have q0:=fun h=>tW H kn0 ce0 82 h m om
  have q1:=fun h=>Hk H kn1 ce1 96 h m om
  have q2:=fun h=>Br H kn2 ce2 86 h m om
  simp -implicitDefEqProofs (maxSteps:=1000000) (disch:=(first|omega|(simp only [aD.aI,aD.aK];try omega)|skip)) only [a74,kn0,ce0,ic0,eq0,kn1,ce1,ic1,eq1,kn2,ce2,ic2,eq2,q0,q1,q2,fR,dV,dX,cX,bT,aJ,cW,bR,dW,cV,eZ,dI,aN,dH,fL,opA,mJ,gS,mK,lS,mX,oF,cJ,eY,eU,mE,kN,fW,eX,jV,cR,dQ,Nat.beq,jP,jU,dG,vl,mT,dP,dN,dA,eH,dY,dZ,aZ,fH,fF,bW,eJ,eE,bD,fG,bV,bY,bZ,bX,eK,cQ,dK,dL,aT,fD,fB,bM,dO,dM,aU,fC,bK,bO,bP,bN,dJ,cS,aQ,cM,aR,dS,aX,aV,aY,aW,cT,dU,gS,eM,iL,kX,dE,aL,aP,eS,fA,takeN,List.drop_zero,List.drop_succ_cons,nH,oEq,eqA,lT,ki,eQ,eN,oneOf,fE,gH,jZ,called,List.append_eq,List.nil_append,List.cons_append,List.append_assoc,Nat.zero_add,Nat.add_zero,iM,jH,eR,iN,jF,aM,aE,aD.aI,aD.aK,List.length_cons,List.length_nil,Bool.and_true,Bool.true_and,List.all_cons,List.all_nil,bJ,cF,bI,aS,dR,Nat.reduceAdd,Nat.reduceEqDiff,Nat.reduceBEq,ite_true,ite_false,if_true,if_false,gN,iI,iA,fP,fU,cP,fK,decide_eq_true_eq,decide_true,decide_false,mN,intArith,Int.ofNat_zero,reduceCtorEq,Bool.not_true,Bool.not_false,Bool.false_eq_true,Int.reduceEq,Int.reduceAdd,Int.zero_add,Int.add_zero,jT,dC,oO,jM,jO,oL,kO,cU,bQ,kE,kF,kG,kH,iE,pE,iD,iR,pD,iV,iZ,iO,oE,gM,fM,fN,fO,gJ,jY,lG,oJ,lJ,jC,iU,List.reverse_cons,List.reverse_nil,lX,eT,eV,eL,eW,cK,iS,iQ,jX,KF,KG]
  rfl
 case g=>exact gw2
 case n=>simp
 case r=>refine ⟨?_, ?_, ?_, ?_, ?_, ?_, ?_⟩<;>simp (disch:=(first|omega|(simp only [aD.aI,aD.aK];try omega)|skip)) only [aM,aE,aL,aP,aD.aI,aD.aK]
theorem OF (H:Has fns orc) {d:uU} {v0 v1:AV} (kn0:v0.known=true) (ce0:v0.cells=[v0]) (ic0:v0.fQ=true) (eq0:gX v0 v0=true) (kn1:v1.known=true) (ce1:v1.cells=[v1]) (ic1:v1.fQ=true) (eq1:gX v1 v1=true) (h:aD):
  ∃hF,Ev fns orc (.call 74 [.agg (dC (.case d) [v0,v1])] .plain h) (.call (.ret (.fn 106 [] [.ptr (h.next+1) 0])) .plain hF)∧dB h hF∧hF.next=h.next+6∧
   hF.get (h.next+1)=some (.cells [.sl .full [.fn 118 [] [.ptr (h.next+2) 0,.ptr (h.next+3) 0],.fn 120 [] [.ptr (h.next+4) 0,.ptr (h.next+5) 0]]])∧hF.get (h.next+2)=some (.cells [v0])∧hF.get (h.next+3)=some (.cells [.fn 82 [] []])∧hF.get (h.next+4)=some (.cells [v1])∧hF.get (h.next+5)=some (.cells [.fn 86 [] []]):=by
 refine ⟨?hF,Ev.call H.f74 H.o74 ⟨2,fun m hm=> ?b⟩, ?g, ?n, ?r⟩
 case b=>
  have q0:=fun h=>tW H kn0 ce0 82 h m om
  have q1:=fun h=>Br H kn1 ce1 86 h m om
  simp -implicitDefEqProofs (maxSteps:=1000000) (disch:=(first|omega|(simp only [aD.aI,aD.aK];try omega)|skip)) only [a74,kn0,ce0,ic0,eq0,kn1,ce1,ic1,eq1,q0,q1,fR,dV,dX,cX,bT,aJ,cW,bR,dW,cV,eZ,dI,aN,dH,fL,opA,mJ,gS,mK,lS,mX,oF,cJ,eY,eU,mE,kN,fW,eX,jV,cR,dQ,Nat.beq,jP,jU,dG,vl,mT,dP,dN,dA,eH,dY,dZ,aZ,fH,fF,bW,eJ,eE,bD,fG,bV,bY,bZ,bX,eK,cQ,dK,dL,aT,fD,fB,bM,dO,dM,aU,fC,bK,bO,bP,bN,dJ,cS,aQ,cM,aR,dS,aX,aV,aY,aW,cT,dU,gS,eM,iL,kX,dE,aL,aP,eS,fA,takeN,List.drop_zero,List.drop_succ_cons,nH,oEq,eqA,lT,ki,eQ,eN,oneOf,fE,gH,jZ,called,List.append_eq,List.nil_append,List.cons_append,List.append_assoc,Nat.zero_add,Nat.add_zero,iM,jH,eR,iN,jF,aM,aE,aD.aI,aD.aK,List.length_cons,List.length_nil,Bool.and_true,Bool.true_and,List.all_cons,List.all_nil,bJ,cF,bI,aS,dR,Nat.reduceAdd,Nat.reduceEqDiff,Nat.reduceBEq,ite_true,ite_false,if_true,if_false,gN,iI,iA,fP,fU,cP,fK,decide_eq_true_eq,decide_true,decide_false,mN,intArith,Int.ofNat_zero,reduceCtorEq,Bool.not_true,Bool.not_false,Bool.false_eq_true,Int.reduceEq,Int.reduceAdd,Int.zero_add,Int.add_zero,jT,dC,oO,jM,jO,oL,kO,cU,bQ,kE,kF,kG,kH,iE,pE,iD,iR,pD,iV,iZ,iO,oE,gM,fM,fN,fO,gJ,jY,lG,oJ,lJ,jC,iU,List.reverse_cons,List.reverse_nil,lX,eT,eV,eL,eW,cK,iS,iQ,jX,KF,KG]
  rfl
 case g=>exact gw2
 case n=>simp
 case r=>refine ⟨?_, ?_, ?_, ?_, ?_⟩<;>simp (disch:=(first|omega|(simp only [aD.aI,aD.aK];try omega)|skip)) only [aM,aE,aL,aP,aD.aI,aD.aK]
theorem QS (H:Has fns orc) {d:pR} {k0 k1 k2 k3 k4:Int} {s0:List UInt8} {v0 v1:AV} (kn0:v0.known=true) (ce0:v0.cells=[v0]) (ic0:v0.fQ=true) (eq0:gX v0 v0=true) (kn1:v1.known=true) (ce1:v1.cells=[v1]) (ic1:v1.fQ=true) (eq1:gX v1 v1=true) (h:aD):
  ∃hF,Ev fns orc (.call 74 [.agg (dC (.exp d) [.int .i64 k0,.int .i64 k1,.int .i64 k2,.int .i64 k3,.int .i64 k4,.str s0,v0,v1])] .plain h) (.call (.ret (.fn 106 [] [.ptr (h.next+1) 0])) .plain hF)∧dB h hF∧hF.next=h.next+6∧
   hF.get (h.next+1)=some (.cells [.sl .full [.fn 118 [] [.ptr (h.next+2) 0,.ptr (h.next+3) 0],.fn 121 [] [.ptr (h.next+4) 0,.ptr (h.next+5) 0]]])∧hF.get (h.next+2)=some (.cells [v0])∧hF.get (h.next+3)=some (.cells [.fn 82 [] []])∧hF.get (h.next+4)=some (.cells [v1])∧hF.get (h.next+5)=some (.cells [.fn 42 [] []]):=by
 refine ⟨?hF,Ev.call H.f74 H.o74 ⟨2,fun m hm=> ?b⟩, ?g, ?n, ?r⟩
 case b=>
  have q0:=fun h=>tW H kn0 ce0 82 h m om
  have q1:=fun h=>CL H kn1 ce1 42 h m om
  simp -implicitDefEqProofs (maxSteps:=1000000) (disch:=(first|omega|(simp only [aD.aI,aD.aK];try omega)|skip)) only [a74,kn0,ce0,ic0,eq0,kn1,ce1,ic1,eq1,q0,q1,fR,dV,dX,cX,bT,aJ,cW,bR,dW,cV,eZ,dI,aN,dH,fL,opA,mJ,gS,mK,lS,mX,oF,cJ,eY,eU,mE,kN,fW,eX,jV,cR,dQ,Nat.beq,jP,jU,dG,vl,mT,dP,dN,dA,eH,dY,dZ,aZ,fH,fF,bW,eJ,eE,bD,fG,bV,bY,bZ,bX,eK,cQ,dK,dL,aT,fD,fB,bM,dO,dM,aU,fC,bK,bO,bP,bN,dJ,cS,aQ,cM,aR,dS,aX,aV,aY,aW,cT,dU,gS,eM,iL,kX,dE,aL,aP,eS,fA,takeN,List.drop_zero,List.drop_succ_cons,nH,oEq,eqA,lT,ki,eQ,eN,oneOf,fE,gH,jZ,called,List.append_eq,List.nil_append,List.cons_append,List.append_assoc,Nat.zero_add,Nat.add_zero,iM,jH,eR,iN,jF,aM,aE,aD.aI,aD.aK,List.length_cons,List.length_nil,Bool.and_true,Bool.true_and,List.all_cons,List.all_nil,bJ,cF,bI,aS,dR,Nat.reduceAdd,Nat.reduceEqDiff,Nat.reduceBEq,ite_true,ite_false,if_true,if_false,gN,iI,iA,fP,fU,cP,fK,decide_eq_true_eq,decide_true,decide_false,mN,intArith,Int.ofNat_zero,reduceCtorEq,Bool.not_true,Bool.not_false,Bool.false_eq_true,Int.reduceEq,Int.reduceAdd,Int.zero_add,Int.add_zero,jT,dC,oO,jM,jO,oL,kO,cU,bQ,kE,kF,kG,kH,iE,pE,iD,iR,pD,iV,iZ,iO,oE,gM,fM,fN,fO,gJ,jY,lG,oJ,lJ,jC,iU,List.reverse_cons,List.reverse_nil,lX,eT,eV,eL,eW,cK,iS,iQ,jX,KF,KG]
  rfl
 case g=>exact gw2
 case n=>simp
 case r=>refine ⟨?_, ?_, ?_, ?_, ?_⟩<;>simp (disch:=(first|omega|(simp only [aD.aI,aD.aK];try omega)|skip)) only [aM,aE,aL,aP,aD.aI,aD.aK]
end Go.Ly
namespace Go.Ly
open Go Go.Am Go.Fs Go.Gn
variable {fns:Go.Am.F} {orc:Orc}
theorem BQ (H:Has fns orc) {a:List pR} {v:AV} (hv:RVs (a.map Part.exp) v) (hn:a.length<30000000):
  ∃ys,RPL (a.map Part.exp) ys∧∀(bl bo:Nat) (P:Nat→Prop) (h0:aD),P bl→P bo→h0.get bl=some (.cells [v])→h0.get bo=some (.cells [.fn 82 [] []])→rO fns orc 118 [.ptr bl 0,.ptr bo 0] ys P h0:=
 B3 (z:=oO) (sz:=8) H.f118 H.o118 rfl rfl rfl hv (by simpa using hn) (fun p hp c hr=>by
  obtain ⟨e,_,rfl⟩:=List.mem_map.1 hp
  exact ⟨qC hr,fun h=>JH H hr h⟩)
theorem So (H:Has fns orc) {a:List mZ} {v:AV} (hv:RVs (a.map Part.decl) v) (hn:a.length<30000000):
  ∃ys,RPL (a.map Part.decl) ys∧∀(bl bo:Nat) (P:Nat→Prop) (h0:aD),P bl→P bo→h0.get bl=some (.cells [v])→h0.get bo=some (.cells [.fn 92 [] []])→rO fns orc 119 [.ptr bl 0,.ptr bo 0] ys P h0:=
 B3 (z:=jO) (sz:=5) H.f119 H.o119 rfl rfl rfl hv (by simpa using hn) (fun p hp c hr=>by
  obtain ⟨e,_,rfl⟩:=List.mem_map.1 hp
  exact ⟨pU hr,fun h=>Hy H hr h⟩)
theorem Lv (H:Has fns orc) {a:List qJ} {v:AV} (hv:RVs (a.map Part.imp) v) (hn:a.length<30000000):
  ∃ys,RPL (a.map Part.imp) ys∧∀(bl bo:Nat) (P:Nat→Prop) (h0:aD),P bl→P bo→h0.get bl=some (.cells [v])→h0.get bo=some (.cells [.fn 86 [] []])→rO fns orc 120 [.ptr bl 0,.ptr bo 0] ys P h0:=
 B3 (z:=oL) (sz:=6) H.f120 H.o120 rfl rfl rfl hv (by simpa using hn) (fun p hp c hr=>by
  obtain ⟨e,_,rfl⟩:=List.mem_map.1 hp
  exact ⟨xO hr,fun h=>JG H hr h⟩)
theorem M6 (H:Has fns orc) {a:List pW} {v:AV} (hv:RVs (a.map Part.desc) v) (hn:a.length<30000000):
  ∃ys,RPL (a.map Part.desc) ys∧∀(bl bo:Nat) (P:Nat→Prop) (h0:aD),P bl→P bo→h0.get bl=some (.cells [v])→h0.get bo=some (.cells [.fn 42 [] []])→rO fns orc 121 [.ptr bl 0,.ptr bo 0] ys P h0:=
 B3 (z:=jM) (sz:=7) H.f121 H.o121 rfl rfl rfl hv (by simpa using hn) (fun p hp c hr=>by
  obtain ⟨e,_,rfl⟩:=List.mem_map.1 hp
  exact ⟨mC hr,fun h=>AW H hr h⟩)
theorem Sp (H:Has fns orc) {a:List uU} {v:AV} (hv:RVs (a.map Part.case) v) (hn:a.length<30000000):
  ∃ys,RPL (a.map Part.case) ys∧∀(bl bo:Nat) (P:Nat→Prop) (h0:aD),P bl→P bo→h0.get bl=some (.cells [v])→h0.get bo=some (.cells [.fn 96 [] []])→rO fns orc 122 [.ptr bl 0,.ptr bo 0] ys P h0:=
 B3 (z:=kO) (sz:=2) H.f122 H.o122 rfl rfl rfl hv (by simpa using hn) (fun p hp c hr=>by
  obtain ⟨e,_,rfl⟩:=List.mem_map.1 hp
  exact ⟨wI hr,fun h=>Hz H hr h⟩)
theorem qR {l:List Part} {ys:List AV} (h:RPL l ys):∀y∈ys,∃c,y= .agg c∧c.length=29∧c.all AV.fQ=true:=by
 induction h with
 |nil=>intro y hy;cases hy
 |cons hp _ ih=>
  intro y hy
  rcases List.mem_cons.1 hy with rfl|hy
  ·obtain ⟨c,r,rfl⟩:=hp
   exact ⟨_,rfl,kQ r,mV r⟩
  ·exact ih y hy
def z29:List AV:= .int .i64 0::(oO++jM++jO++oL++kO)
theorem Aa:a106.body=DH z29:=rfl
theorem Iw (H:Has fns orc) {p:Part} {v:AV} (hp:RP p v) (hn:p.kids.length<30000000) (h:aD):
  ∃hF b3 ys,Ev fns orc (.call 74 [v] .plain h) (.call (.ret (.fn 106 [] [.ptr b3 0])) .plain hF)∧dB h hF∧RPL p.kids ys∧
   ∀P:Nat→Prop,(∀i,h.next≤i→i<hF.next→P i)→rO fns orc 106 [.ptr b3 0] ys P hF:=by
 obtain ⟨c,hv,rfl⟩:=hp
 cases hv with
 |desc h1 h2 h3 h4 h5=>
  simp only [Part.kids,List.length_append,List.length_map] at hn
  obtain ⟨y0,r0,q0⟩:=BQ H h1 om
  obtain ⟨y1,r1,q1⟩:=So H h2 om
  obtain ⟨y2,r2,q2⟩:=BQ H h3 om
  obtain ⟨y3,r3,q3⟩:=Lv H h4 om
  obtain ⟨y4,r4,q4⟩:=BQ H h5 om
  obtain ⟨hF,e,gr,nx,g,g0a,g0b,g1a,g1b,g2a,g2b,g3a,g3b,g4a,g4b⟩:=OD H (qD h1) (kW h1) (cH h1) (kR h1) (qD h2) (kW h2) (cH h2) (kR h2) (qD h3) (kW h3) (cH h3) (kR h3) (qD h4) (kW h4) (cH h4) (kR h4) (qD h5) (kW h5) (cH h5) (kR h5) h
  refine ⟨hF,h.next+1,y0++(y1++(y2++(y3++(y4++[])))),e,gr, ?_,fun P hP=> ?_⟩
  ·simp only [Part.kids,List.append_nil,List.append_assoc]
   exact qS r0 (qS r1 (qS r2 (qS r3 (r4))))
  ·have hq:∀q∈[(⟨118,[.ptr (h.next+3) 0,.ptr (h.next+4) 0],y0⟩:Sq),(⟨119,[.ptr (h.next+5) 0,.ptr (h.next+6) 0],y1⟩:Sq),(⟨118,[.ptr (h.next+7) 0,.ptr (h.next+8) 0],y2⟩:Sq),(⟨120,[.ptr (h.next+9) 0,.ptr (h.next+10) 0],y3⟩:Sq),(⟨118,[.ptr (h.next+11) 0,.ptr (h.next+12) 0],y4⟩:Sq)],(rO fns orc q.e q.capt q.ys P hF)∧∀y∈q.ys,∃c,y= .agg c∧c.length=29∧c.all AV.fQ=true:=by
    intro q hq
    simp only [List.mem_cons,List.not_mem_nil,or_false] at hq
    rcases hq with rfl|rfl|rfl|rfl|rfl
    ·exact ⟨q0 _ _ P hF (hP _ om om) (hP _ om om) g0a g0b,qR r0⟩
    ·exact ⟨q1 _ _ P hF (hP _ om om) (hP _ om om) g1a g1b,qR r1⟩
    ·exact ⟨q2 _ _ P hF (hP _ om om) (hP _ om om) g2a g2b,qR r2⟩
    ·exact ⟨q3 _ _ P hF (hP _ om om) (hP _ om om) g3a g3b,qR r3⟩
    ·exact ⟨q4 _ _ P hF (hP _ om om) (hP _ om om) g4a g4b,qR r4⟩
   exact yN (z:=z29) H.f106 H.o106 Aa rfl rfl (.sl .full _) (by simp) (fun q hq' =>(hq q hq').2) (hP _ om om) g (fun q hq' =>(hq q hq').1)
 |decl h0 h1 h2 h3=>
  simp only [Part.kids,List.length_append,List.length_map] at hn
  obtain ⟨y0,r0,q0⟩:=BQ H h1 om
  obtain ⟨y1,r1,q1⟩:=BQ H h2 om
  obtain ⟨y2,r2,q2⟩:=M6 H h3 om
  obtain ⟨hF,e,gr,nx,g,g0a,g0b,g1a,g1b,g2a,g2b⟩:=OE H (pO h0) (qD h1) (kW h1) (cH h1) (kR h1) (qD h2) (kW h2) (cH h2) (kR h2) (qD h3) (kW h3) (cH h3) (kR h3) h
  refine ⟨hF,h.next+1,y0++(y1++(y2++[])),e,gr, ?_,fun P hP=> ?_⟩
  ·simp only [Part.kids,List.append_nil,List.append_assoc]
   exact qS r0 (qS r1 (r2))
  ·have hq:∀q∈[(⟨118,[.ptr (h.next+2) 0,.ptr (h.next+3) 0],y0⟩:Sq),(⟨118,[.ptr (h.next+4) 0,.ptr (h.next+5) 0],y1⟩:Sq),(⟨121,[.ptr (h.next+6) 0,.ptr (h.next+7) 0],y2⟩:Sq)],(rO fns orc q.e q.capt q.ys P hF)∧∀y∈q.ys,∃c,y= .agg c∧c.length=29∧c.all AV.fQ=true:=by
    intro q hq
    simp only [List.mem_cons,List.not_mem_nil,or_false] at hq
    rcases hq with rfl|rfl|rfl
    ·exact ⟨q0 _ _ P hF (hP _ om om) (hP _ om om) g0a g0b,qR r0⟩
    ·exact ⟨q1 _ _ P hF (hP _ om om) (hP _ om om) g1a g1b,qR r1⟩
    ·exact ⟨q2 _ _ P hF (hP _ om om) (hP _ om om) g2a g2b,qR r2⟩
   exact yN (z:=z29) H.f106 H.o106 Aa rfl rfl (.sl .full _) (by simp) (fun q hq' =>(hq q hq').2) (hP _ om om) g (fun q hq' =>(hq q hq').1)
 |imp h1 h2 h3=>
  simp only [Part.kids,List.length_append,List.length_map] at hn
  obtain ⟨y0,r0,q0⟩:=BQ H h1 om
  obtain ⟨y1,r1,q1⟩:=Sp H h2 om
  obtain ⟨y2,r2,q2⟩:=Lv H h3 om
  obtain ⟨hF,e,gr,nx,g,g0a,g0b,g1a,g1b,g2a,g2b⟩:=QR H (qD h1) (kW h1) (cH h1) (kR h1) (qD h2) (kW h2) (cH h2) (kR h2) (qD h3) (kW h3) (cH h3) (kR h3) h
  refine ⟨hF,h.next+1,y0++(y1++(y2++[])),e,gr, ?_,fun P hP=> ?_⟩
  ·simp only [Part.kids,List.append_nil,List.append_assoc]
   exact qS r0 (qS r1 (r2))
  ·have hq:∀q∈[(⟨118,[.ptr (h.next+2) 0,.ptr (h.next+3) 0],y0⟩:Sq),(⟨122,[.ptr (h.next+4) 0,.ptr (h.next+5) 0],y1⟩:Sq),(⟨120,[.ptr (h.next+6) 0,.ptr (h.next+7) 0],y2⟩:Sq)],(rO fns orc q.e q.capt q.ys P hF)∧∀y∈q.ys,∃c,y= .agg c∧c.length=29∧c.all AV.fQ=true:=by
    intro q hq
    simp only [List.mem_cons,List.not_mem_nil,or_false] at hq
    rcases hq with rfl|rfl|rfl
    ·exact ⟨q0 _ _ P hF (hP _ om om) (hP _ om om) g0a g0b,qR r0⟩
    ·exact ⟨q1 _ _ P hF (hP _ om om) (hP _ om om) g1a g1b,qR r1⟩
    ·exact ⟨q2 _ _ P hF (hP _ om om) (hP _ om om) g2a g2b,qR r2⟩
   exact yN (z:=z29) H.f106 H.o106 Aa rfl rfl (.sl .full _) (by simp) (fun q hq' =>(hq q hq').2) (hP _ om om) g (fun q hq' =>(hq q hq').1)
 |case h1 h2=>
  simp only [Part.kids,List.length_append,List.length_map] at hn
  obtain ⟨y0,r0,q0⟩:=BQ H h1 om
  obtain ⟨y1,r1,q1⟩:=Lv H h2 om
  obtain ⟨hF,e,gr,nx,g,g0a,g0b,g1a,g1b⟩:=OF H (qD h1) (kW h1) (cH h1) (kR h1) (qD h2) (kW h2) (cH h2) (kR h2) h
  refine ⟨hF,h.next+1,y0++(y1++[]),e,gr, ?_,fun P hP=> ?_⟩
  ·simp only [Part.kids,List.append_nil,List.append_assoc]
   exact qS r0 (r1)
  ·have hq:∀q∈[(⟨118,[.ptr (h.next+2) 0,.ptr (h.next+3) 0],y0⟩:Sq),(⟨120,[.ptr (h.next+4) 0,.ptr (h.next+5) 0],y1⟩:Sq)],(rO fns orc q.e q.capt q.ys P hF)∧∀y∈q.ys,∃c,y= .agg c∧c.length=29∧c.all AV.fQ=true:=by
    intro q hq
    simp only [List.mem_cons,List.not_mem_nil,or_false] at hq
    rcases hq with rfl|rfl
    ·exact ⟨q0 _ _ P hF (hP _ om om) (hP _ om om) g0a g0b,qR r0⟩
    ·exact ⟨q1 _ _ P hF (hP _ om om) (hP _ om om) g1a g1b,qR r1⟩
   exact yN (z:=z29) H.f106 H.o106 Aa rfl rfl (.sl .full _) (by simp) (fun q hq' =>(hq q hq').2) (hP _ om om) g (fun q hq' =>(hq q hq').1)
 |exp h1 h2=>
  simp only [Part.kids,List.length_append,List.length_map] at hn
  obtain ⟨y0,r0,q0⟩:=BQ H h1 om
  obtain ⟨y1,r1,q1⟩:=M6 H h2 om
  obtain ⟨hF,e,gr,nx,g,g0a,g0b,g1a,g1b⟩:=QS H (qD h1) (kW h1) (cH h1) (kR h1) (qD h2) (kW h2) (cH h2) (kR h2) h
  refine ⟨hF,h.next+1,y0++(y1++[]),e,gr, ?_,fun P hP=> ?_⟩
  ·simp only [Part.kids,List.append_nil,List.append_assoc]
   exact qS r0 (r1)
  ·have hq:∀q∈[(⟨118,[.ptr (h.next+2) 0,.ptr (h.next+3) 0],y0⟩:Sq),(⟨121,[.ptr (h.next+4) 0,.ptr (h.next+5) 0],y1⟩:Sq)],(rO fns orc q.e q.capt q.ys P hF)∧∀y∈q.ys,∃c,y= .agg c∧c.length=29∧c.all AV.fQ=true:=by
    intro q hq
    simp only [List.mem_cons,List.not_mem_nil,or_false] at hq
    rcases hq with rfl|rfl
    ·exact ⟨q0 _ _ P hF (hP _ om om) (hP _ om om) g0a g0b,qR r0⟩
    ·exact ⟨q1 _ _ P hF (hP _ om om) (hP _ om om) g1a g1b,qR r1⟩
   exact yN (z:=z29) H.f106 H.o106 Aa rfl rfl (.sl .full _) (by simp) (fun q hq' =>(hq q hq').2) (hP _ om om) g (fun q hq' =>(hq q hq').1)
end Go.Ly
namespace Go.Ly
open Go Go.Am Go.Fs Go.Gn
theorem cj2 {a b:Prop} (xa:a) (xb:b):a∧b:=⟨xa,xb⟩
theorem cj3 {a b c:Prop} (xa:a) (xb:b) (xc:c):a∧b∧c:=⟨xa,xb,xc⟩
theorem cj4 {a b c d:Prop} (xa:a) (xb:b) (xc:c) (xd:d):a∧b∧c∧d:=⟨xa,xb,xc,xd⟩
theorem cj5 {a b c d e:Prop} (xa:a) (xb:b) (xc:c) (xd:d) (xe:e):a∧b∧c∧d∧e:=⟨xa,xb,xc,xd,xe⟩
theorem cj6 {a b c d e f:Prop} (xa:a) (xb:b) (xc:c) (xd:d) (xe:e) (xf:f):a∧b∧c∧d∧e∧f:=⟨xa,xb,xc,xd,xe,xf⟩
theorem cj7 {a b c d e f g:Prop} (xa:a) (xb:b) (xc:c) (xd:d) (xe:e) (xf:f) (xg:g):a∧b∧c∧d∧e∧f∧g:=⟨xa,xb,xc,xd,xe,xf,xg⟩
theorem cj8 {a b c d e f g h:Prop} (xa:a) (xb:b) (xc:c) (xd:d) (xe:e) (xf:f) (xg:g) (xh:h):a∧b∧c∧d∧e∧f∧g∧h:=⟨xa,xb,xc,xd,xe,xf,xg,xh⟩
theorem cj9 {a b c d e f g h i:Prop} (xa:a) (xb:b) (xc:c) (xd:d) (xe:e) (xf:f) (xg:g) (xh:h) (xi:i):a∧b∧c∧d∧e∧f∧g∧h∧i:=⟨xa,xb,xc,xd,xe,xf,xg,xh,xi⟩
theorem uP {a b c d e f g h i j:Prop} (xa:a) (xb:b) (xc:c) (xd:d) (xe:e) (xf:f) (xg:g) (xh:h) (xi:i) (xj:j):a∧b∧c∧d∧e∧f∧g∧h∧i∧j:=⟨xa,xb,xc,xd,xe,xf,xg,xh,xi,xj⟩
theorem tG {a b c d e f g h i j k:Prop} (xa:a) (xb:b) (xc:c) (xd:d) (xe:e) (xf:f) (xg:g) (xh:h) (xi:i) (xj:j) (xk:k):a∧b∧c∧d∧e∧f∧g∧h∧i∧j∧k:=⟨xa,xb,xc,xd,xe,xf,xg,xh,xi,xj,xk⟩
theorem qP {a b c d e f g h i j k l:Prop} (xa:a) (xb:b) (xc:c) (xd:d) (xe:e) (xf:f) (xg:g) (xh:h) (xi:i) (xj:j) (xk:k) (xl:l):a∧b∧c∧d∧e∧f∧g∧h∧i∧j∧k∧l:=⟨xa,xb,xc,xd,xe,xf,xg,xh,xi,xj,xk,xl⟩
theorem vM {a b c d e f g h i j k l m:Prop} (xa:a) (xb:b) (xc:c) (xd:d) (xe:e) (xf:f) (xg:g) (xh:h) (xi:i) (xj:j) (xk:k) (xl:l) (xm:m):a∧b∧c∧d∧e∧f∧g∧h∧i∧j∧k∧l∧m:=⟨xa,xb,xc,xd,xe,xf,xg,xh,xi,xj,xk,xl,xm⟩
theorem Af {a b c d e f g h i j k l m n:Prop} (xa:a) (xb:b) (xc:c) (xd:d) (xe:e) (xf:f) (xg:g) (xh:h) (xi:i) (xj:j) (xk:k) (xl:l) (xm:m) (xn:n):a∧b∧c∧d∧e∧f∧g∧h∧i∧j∧k∧l∧m∧n:=⟨xa,xb,xc,xd,xe,xf,xg,xh,xi,xj,xk,xl,xm,xn⟩
theorem wS {a b c d e f g h i j k l m n o:Prop} (xa:a) (xb:b) (xc:c) (xd:d) (xe:e) (xf:f) (xg:g) (xh:h) (xi:i) (xj:j) (xk:k) (xl:l) (xm:m) (xn:n) (xo:o):a∧b∧c∧d∧e∧f∧g∧h∧i∧j∧k∧l∧m∧n∧o:=⟨xa,xb,xc,xd,xe,xf,xg,xh,xi,xj,xk,xl,xm,xn,xo⟩
theorem BL {a b c d e f g h i j k l m n o p:Prop} (xa:a) (xb:b) (xc:c) (xd:d) (xe:e) (xf:f) (xg:g) (xh:h) (xi:i) (xj:j) (xk:k) (xl:l) (xm:m) (xn:n) (xo:o) (xp:p):a∧b∧c∧d∧e∧f∧g∧h∧i∧j∧k∧l∧m∧n∧o∧p:=⟨xa,xb,xc,xd,xe,xf,xg,xh,xi,xj,xk,xl,xm,xn,xo,xp⟩
theorem gU {a b c d e f g h i j k l m n o p q:Prop} (xa:a) (xb:b) (xc:c) (xd:d) (xe:e) (xf:f) (xg:g) (xh:h) (xi:i) (xj:j) (xk:k) (xl:l) (xm:m) (xn:n) (xo:o) (xp:p) (xq:q):a∧b∧c∧d∧e∧f∧g∧h∧i∧j∧k∧l∧m∧n∧o∧p∧q:=⟨xa,xb,xc,xd,xe,xf,xg,xh,xi,xj,xk,xl,xm,xn,xo,xp,xq⟩
theorem K9 (n:Nat):n+1+2=n+3:=rfl
theorem KZ (n:Nat):n+2+2=n+4:=rfl
theorem K8 (n:Nat):n+1+3=n+4:=rfl
theorem SA {f p:Prop} (x:f) (h:f→p:=by intro x;simp -implicitDefEqProofs (maxSteps:=3000000) (disch:=(first|omega|(simp only [aD.aI,aD.aK];try omega)|skip)) only [x,fR,dV,dX,cX,bT,aJ,cW,bR,dW,cV,eZ,dI,aN,dH,fL,opA,mJ,gS,mK,lS,mX,oF,cJ,eY,eU,mE,kN,fW,eX,jV,cR,dQ,Nat.beq,jP,jU,dG,vl,mT,dP,dN,dA,eH,dY,dZ,aZ,fH,fF,bW,eJ,eE,bD,fG,bV,bY,bZ,bX,eK,cQ,dK,dL,aT,fD,fB,bM,dO,dM,aU,fC,bK,bO,bP,bN,dJ,cS,aQ,cM,aR,dS,aX,aV,aY,aW,cT,dU,eM,iL,kX,dE,aL,aP,eS,fA,takeN,List.drop_zero,List.drop_succ_cons,nH,oEq,eqA,lT,ki,eQ,eN,oneOf,fE,gH,jZ,called,List.append_eq,List.nil_append,List.cons_append,List.append_assoc,Nat.zero_add,Nat.add_zero,iM,jH,eR,iN,jF,aM,aE,aD.aI,aD.aK,List.length_cons,List.length_nil,Bool.and_true,Bool.true_and,List.all_cons,List.all_nil,bJ,cF,bI,aS,dR,Nat.reduceAdd,Nat.reduceEqDiff,Nat.reduceBEq,ite_true,ite_false,if_true,if_false,gN,iI,iA,fP,fU,cP,fK,decide_eq_true_eq,decide_true,decide_false,mN,intArith,Int.ofNat_zero,reduceCtorEq,Bool.not_true,Bool.not_false,Bool.false_eq_true,Int.reduceEq,Int.reduceAdd,Int.zero_add,Int.add_zero,jT,dC,oO,jM,jO,oL,kO,cU,bQ,kE,kF,kG,kH,KF,KG];try rfl):p:=h x
theorem SCx {f p:Prop} (x:f) (h:f→p:=by intro x;simp -implicitDefEqProofs (maxSteps:=3000000) (disch:=(first|omega|(simp only [aD.aI,aD.aK];try omega)|skip)) only [x,dV,dX,cX,bT,cW,bR,dW,cV,eZ,dI,aN,dH,fL,opA,mJ,gS,mK,lS,mX,oF,cJ,eY,eU,mE,kN,fW,eX,jV,cR,dQ,Nat.beq,jP,jU,dG,vl,mT,dP,dN,dA,eH,dY,dZ,aZ,fH,fF,bW,eJ,eE,bD,fG,bV,bY,bZ,bX,eK,cQ,dK,dL,aT,fD,fB,bM,dO,dM,aU,fC,bK,bO,bP,bN,dJ,cS,aQ,cM,aR,dS,aX,aV,aY,aW,cT,dU,eM,iL,aL,aP,eS,fA,List.drop_zero,List.drop_succ_cons,nH,oEq,eqA,lT,ki,eQ,eN,oneOf,fE,gH,jZ,called,List.append_eq,List.nil_append,List.cons_append,List.append_assoc,Nat.zero_add,Nat.add_zero,iM,jH,aM,aE,aD.aI,aD.aK,List.length_cons,List.length_nil,Bool.and_true,Bool.true_and,List.all_cons,List.all_nil,bJ,cF,bI,aS,dR,Nat.reduceAdd,Nat.reduceEqDiff,Nat.reduceBEq,ite_true,ite_false,if_true,if_false,gN,iI,iA,fP,fU,cP,fK,decide_eq_true_eq,decide_true,decide_false,mN,intArith,Int.ofNat_zero,reduceCtorEq,Bool.not_true,Bool.not_false,Bool.false_eq_true,Int.reduceEq,Int.reduceAdd,Int.zero_add,Int.add_zero,jT,cU,bQ,kE,kF,kG,kH,iN,iE,pE,iD,iR,pD,iV,iZ,iO,oE,gM,fM,fN,fO,gJ,jY,lG,oJ,lJ,jC,iU,List.reverse_cons,List.reverse_nil,lX,eT,eV,eL,eW,cK,iS,iQ,jX,fR,pV,oMx,lF,jW,tM,lB,evO,mL,jG,lZ,lE,lQ,mR,mQ,iC,iB,fS,iW,sB,tN,rX,bound,jE,Int.reduceLE,Int.reduceLT,kJ,jK,jA,aH,aO,fJ,cI,kM,iY,jQ,kK,lU,takeN,eR,jL,jR,jB,gV,iK,gZ,jS,kU,iJ,K9,KZ,K8,KF,KG];try rfl):p:=h x
theorem SF {f p:Prop} (x:f) (h:f→p:=by intro x;simp -implicitDefEqProofs (maxSteps:=3000000) (disch:=(first|omega|(simp only [aD.aI,aD.aK];try omega)|skip)) only [x,dV,dX,cX,bT,cW,bR,dW,cV,eZ,dI,aN,dH,fL,opA,mJ,gS,mK,lS,mX,oF,cJ,eY,eU,mE,kN,fW,eX,jV,cR,dQ,Nat.beq,jP,jU,dG,vl,mT,dP,dN,dA,eH,dY,dZ,aZ,fH,fF,bW,eJ,eE,bD,fG,bV,bY,bZ,bX,eK,cQ,dK,dL,aT,fD,fB,bM,dO,dM,aU,fC,bK,bO,bP,bN,dJ,cS,aQ,cM,aR,dS,aX,aV,aY,aW,cT,dU,eM,iL,aL,aP,eS,fA,List.drop_zero,List.drop_succ_cons,nH,oEq,eqA,lT,ki,eQ,eN,oneOf,fE,gH,jZ,called,List.append_eq,List.nil_append,List.cons_append,List.append_assoc,Nat.zero_add,Nat.add_zero,iM,jH,aM,aE,aD.aI,aD.aK,List.length_cons,List.length_nil,Bool.and_true,Bool.true_and,List.all_cons,List.all_nil,bJ,cF,bI,aS,dR,Nat.reduceAdd,Nat.reduceEqDiff,Nat.reduceBEq,ite_true,ite_false,if_true,if_false,gN,iI,iA,fP,fU,cP,fK,decide_eq_true_eq,decide_true,decide_false,mN,intArith,Int.ofNat_zero,reduceCtorEq,Bool.not_true,Bool.not_false,Bool.false_eq_true,Int.reduceEq,Int.reduceAdd,Int.zero_add,Int.add_zero,jT,cU,bQ,kE,kF,kG,kH,iN,iE,pE,iD,iR,pD,iV,iZ,iO,oE,gM,fM,fN,fO,gJ,jY,lG,oJ,lJ,jC,iU,List.reverse_cons,List.reverse_nil,lX,eT,eV,eL,eW,cK,iS,iQ,jX,fR,pV,oMx,lF,jW,tM,lB,evO,mL,jG,lZ,lE,lQ,mR,mQ,iC,iB,fS,iW,sB,tN,rX,bound,jE,Int.reduceLE,Int.reduceLT,F2,kJ,KF,KG];try rfl):p:=h x
theorem SK {f p:Prop} (x:f) (h:f→p:=by intro x;simp -implicitDefEqProofs (maxSteps:=3000000) (disch:=(first|omega|(simp only [aD.aI,aD.aK];try omega)|skip)) only [x,dV,dX,cX,bT,cW,bR,dW,cV,eZ,dI,aN,dH,fL,opA,mJ,gS,mK,lS,mX,oF,cJ,eY,eU,mE,kN,fW,eX,jV,cR,dQ,Nat.beq,jP,jU,dG,vl,mT,dP,dN,dA,eH,dY,dZ,aZ,fH,fF,bW,eJ,eE,bD,fG,bV,bY,bZ,bX,eK,cQ,dK,dL,aT,fD,fB,bM,dO,dM,aU,fC,bK,bO,bP,bN,dJ,cS,aQ,cM,aR,dS,aX,aV,aY,aW,cT,dU,eM,iL,aL,aP,eS,fA,List.drop_zero,List.drop_succ_cons,nH,oEq,eqA,lT,ki,eQ,eN,oneOf,fE,gH,jZ,called,List.append_eq,List.nil_append,List.cons_append,List.append_assoc,Nat.zero_add,Nat.add_zero,iM,jH,aM,aE,aD.aI,aD.aK,List.length_cons,List.length_nil,Bool.and_true,Bool.true_and,List.all_cons,List.all_nil,bJ,cF,bI,aS,dR,Nat.reduceAdd,Nat.reduceEqDiff,Nat.reduceBEq,ite_true,ite_false,if_true,if_false,gN,iI,iA,fP,fU,cP,fK,decide_eq_true_eq,decide_true,decide_false,mN,intArith,Int.ofNat_zero,reduceCtorEq,Bool.not_true,Bool.not_false,Bool.false_eq_true,Int.reduceEq,Int.reduceAdd,Int.zero_add,Int.add_zero,jT,cU,bQ,kE,kF,kG,kH,iN,iE,pE,iD,iR,pD,iV,iZ,iO,oE,gM,fM,fN,fO,gJ,jY,lG,oJ,lJ,jC,iU,List.reverse_cons,List.reverse_nil,lX,eT,eV,eL,eW,cK,iS,iQ,jX,fR,pV,oMx,lF,jW,tM,lB,evO,mL,jG,lQ,mR,mQ,iC,iB,fS,iW,sB,tN,rX,bound,jE,Int.reduceLE,Int.reduceLT,kJ,jK,jA,aH,aO,fJ,cI,kM,iY,jQ,kK,lU,takeN,eR,jL,jR,jB,gV,iK,gZ,jS,kU,iJ,KF,KG];try rfl):p:=h x
theorem SM {f p:Prop} (x:f) (h:f→p:=by intro x;simp -implicitDefEqProofs (maxSteps:=3000000) (disch:=(first|omega|(simp only [aD.aI,aD.aK];try omega)|skip)) only [x,dV,dX,cX,bT,cW,bR,dW,cV,eZ,dI,aN,dH,fL,opA,mJ,gS,mK,lS,mX,oF,cJ,eY,eU,mE,kN,fW,eX,jV,cR,dQ,Nat.beq,jP,jU,dG,vl,mT,dP,dN,dA,eH,dY,dZ,aZ,fH,fF,bW,eJ,eE,bD,fG,bV,bY,bZ,bX,eK,cQ,dK,dL,aT,fD,fB,bM,dO,dM,aU,fC,bK,bO,bP,bN,dJ,cS,aQ,cM,aR,dS,aX,aV,aY,aW,cT,dU,eM,iL,aL,aP,eS,fA,List.drop_zero,List.drop_succ_cons,nH,oEq,eqA,lT,ki,eQ,eN,oneOf,fE,gH,jZ,called,List.append_eq,List.nil_append,List.cons_append,List.append_assoc,Nat.zero_add,Nat.add_zero,iM,jH,aM,aE,aD.aI,aD.aK,List.length_cons,List.length_nil,Bool.and_true,Bool.true_and,List.all_cons,List.all_nil,bJ,cF,bI,aS,dR,Nat.reduceAdd,Nat.reduceEqDiff,Nat.reduceBEq,ite_true,ite_false,if_true,if_false,gN,iI,iA,fP,fU,cP,fK,decide_eq_true_eq,decide_true,decide_false,mN,intArith,Int.ofNat_zero,reduceCtorEq,Bool.not_true,Bool.not_false,Bool.false_eq_true,Int.reduceEq,Int.reduceAdd,Int.zero_add,Int.add_zero,jT,cU,bQ,kE,kF,kG,kH,iN,iE,pE,iD,iR,pD,iV,iZ,iO,oE,gM,fM,fN,fO,gJ,jY,lG,oJ,lJ,jC,iU,List.reverse_cons,List.reverse_nil,lX,eT,eV,eL,eW,cK,iS,fR,pV,oMx,lF,jW,tM,lB,evO,mL,jG,mR,mQ,iC,iB,fS,iW,sB,tN,rX,bound,jE,Int.reduceLE,Int.reduceLT,kJ,jK,aH,aO,fJ,cI,kM,iY,jQ,kK,lU,takeN,eR,jL,jR,jB,gV,iK,gZ,jS,kU,iJ,KF,KG];try rfl):p:=h x
theorem SO {f p:Prop} (x:f) (h:f→p:=by intro x;simp -implicitDefEqProofs (maxSteps:=3000000) (disch:=(first|omega|(simp only [aD.aI,aD.aK];try omega)|skip)) only [x,dV,dX,cX,bT,cW,bR,dW,cV,eZ,dI,aN,dH,fL,opA,mJ,gS,mK,lS,mX,oF,cJ,eY,eU,mE,kN,fW,eX,jV,cR,dQ,Nat.beq,jP,jU,dG,vl,mT,dP,dN,dA,eH,dY,dZ,aZ,fH,fF,bW,eJ,eE,bD,fG,bV,bY,bZ,bX,eK,cQ,dK,dL,aT,fD,fB,bM,dO,dM,aU,fC,bK,bO,bP,bN,dJ,cS,aQ,cM,aR,dS,aX,aV,aY,aW,cT,dU,eM,iL,aL,aP,eS,fA,List.drop_zero,List.drop_succ_cons,nH,oEq,eqA,lT,ki,eQ,eN,oneOf,fE,gH,jZ,called,List.append_eq,List.nil_append,List.cons_append,List.append_assoc,Nat.zero_add,Nat.add_zero,iM,jH,aM,aE,aD.aI,aD.aK,List.length_cons,List.length_nil,Bool.and_true,Bool.true_and,List.all_cons,List.all_nil,bJ,cF,bI,aS,dR,Nat.reduceAdd,Nat.reduceEqDiff,Nat.reduceBEq,ite_true,ite_false,if_true,if_false,gN,iI,iA,fP,fU,cP,fK,decide_eq_true_eq,decide_true,decide_false,mN,intArith,Int.ofNat_zero,reduceCtorEq,Bool.not_true,Bool.not_false,Bool.false_eq_true,Int.reduceEq,Int.reduceAdd,Int.zero_add,Int.add_zero,jT,cU,bQ,kE,kF,kG,kH,iN,iE,pE,iD,iR,pD,iV,iZ,iO,oE,gM,fM,fN,fO,gJ,jY,lG,oJ,lJ,jC,iU,List.reverse_cons,List.reverse_nil,lX,eT,eV,eL,eW,cK,iS,iQ,jX,fR,pV,oMx,lF,jW,tM,lB,evO,mL,jG,mR,mQ,iC,iB,fS,iW,sB,tN,rX,bound,jE,Int.reduceLE,Int.reduceLT,kJ,jK,aH,aO,fJ,cI,kM,iY,jQ,kK,lU,takeN,eR,jL,jR,jB,gV,iK,gZ,jS,kU,iJ,KF,KG];try rfl):p:=h x
theorem SR {f p:Prop} (x:f) (h:f→p:=by intro x;simp -implicitDefEqProofs (maxSteps:=3000000) (disch:=(first|omega|(simp only [aD.aI,aD.aK];try omega)|skip)) only [x,dV,dX,cX,bT,cW,bR,dW,cV,eZ,dI,aN,dH,fL,opA,mJ,gS,mK,lS,mX,oF,cJ,eY,eU,mE,kN,fW,eX,jV,cR,dQ,Nat.beq,jP,jU,dG,vl,mT,dP,dN,dA,eH,dY,dZ,aZ,fH,fF,bW,eJ,eE,bD,fG,bV,bY,bZ,bX,eK,cQ,dK,dL,aT,fD,fB,bM,dO,dM,aU,fC,bK,bO,bP,bN,dJ,cS,aQ,cM,aR,dS,aX,aV,aY,aW,cT,dU,eM,iL,aL,aP,eS,fA,List.drop_zero,List.drop_succ_cons,nH,oEq,eqA,lT,ki,eQ,eN,oneOf,fE,gH,jZ,called,List.append_eq,List.nil_append,List.cons_append,List.append_assoc,Nat.zero_add,Nat.add_zero,iM,jH,aM,aE,aD.aI,aD.aK,List.length_cons,List.length_nil,Bool.and_true,Bool.true_and,List.all_cons,List.all_nil,bJ,cF,bI,aS,dR,Nat.reduceAdd,Nat.reduceEqDiff,Nat.reduceBEq,ite_true,ite_false,if_true,if_false,gN,iI,iA,fP,fU,cP,fK,decide_eq_true_eq,decide_true,decide_false,mN,intArith,Int.ofNat_zero,reduceCtorEq,Bool.not_true,Bool.not_false,Bool.false_eq_true,Int.reduceEq,Int.reduceAdd,Int.zero_add,Int.add_zero,jT,cU,bQ,kE,kF,kG,kH,iN,iE,pE,iD,iR,pD,iV,iZ,iO,oE,gM,fM,fN,fO,gJ,jY,lG,oJ,lJ,jC,iU,List.reverse_cons,List.reverse_nil,lX,eT,eV,eL,eW,cK,iS,iQ,jX,fR,pV,oMx,lF,jW,tM,lB,evO,mL,jG,lZ,lE,lQ,mR,mQ,iC,iB,fS,iW,sB,tN,rX,bound,jE,Int.reduceLE,Int.reduceLT,kJ,jK,jA,aH,aO,fJ,cI,kM,iY,jQ,lU,takeN,eR,jL,jR,jB,gV,iK,gZ,jS,kU,iJ,KF,KG];try rfl):p:=h x
theorem SS {f p:Prop} (x:f) (h:f→p:=by intro x;simp -implicitDefEqProofs (maxSteps:=3000000) (disch:=(first|omega|(simp only [aD.aI,aD.aK];try omega)|skip)) only [x,dV,dX,cX,bT,cW,bR,dW,cV,eZ,dI,aN,dH,fL,opA,mJ,gS,mK,lS,mX,oF,cJ,eY,eU,mE,kN,fW,eX,jV,cR,dQ,Nat.beq,jP,jU,dG,vl,mT,dP,dN,dA,eH,dY,dZ,aZ,fH,fF,bW,eJ,eE,bD,fG,bV,bY,bZ,bX,eK,cQ,dK,dL,aT,fD,fB,bM,dO,dM,aU,fC,bK,bO,bP,bN,dJ,cS,aQ,cM,aR,dS,aX,aV,aY,aW,cT,dU,eM,iL,aL,aP,eS,fA,List.drop_zero,List.drop_succ_cons,nH,oEq,eqA,lT,ki,eQ,eN,oneOf,fE,gH,jZ,called,List.append_eq,List.nil_append,List.cons_append,List.append_assoc,Nat.zero_add,Nat.add_zero,iM,jH,aM,aE,aD.aI,aD.aK,List.length_cons,List.length_nil,Bool.and_true,Bool.true_and,List.all_cons,List.all_nil,bJ,cF,bI,aS,dR,Nat.reduceAdd,Nat.reduceEqDiff,Nat.reduceBEq,ite_true,ite_false,if_true,if_false,gN,iI,iA,fP,fU,cP,fK,decide_eq_true_eq,decide_true,decide_false,mN,intArith,Int.ofNat_zero,reduceCtorEq,Bool.not_true,Bool.not_false,Bool.false_eq_true,Int.reduceEq,Int.reduceAdd,Int.zero_add,Int.add_zero,jT,cU,bQ,kE,kF,kG,kH,iN,iE,pE,iD,iR,pD,iV,iZ,iO,oE,gM,fM,fN,fO,gJ,jY,lG,oJ,lJ,jC,iU,List.reverse_cons,List.reverse_nil,lX,eT,eV,eL,eW,cK,iS,iQ,jX,fR,pV,oMx,lF,jW,tM,lB,evO,mL,jG,lZ,lE,lQ,mR,mQ,iC,iB,fS,iW,sB,tN,rX,bound,jE,Int.reduceLE,Int.reduceLT,kJ,jK,aH,aO,fJ,cI,kM,iY,jQ,kK,lU,takeN,eR,jL,jR,jB,gV,iK,gZ,jS,kU,iJ,KF,KG];try rfl):p:=h x
theorem SUe {f q p:Prop} (x:f) (y:q) (h:f→q→p:=by intro x y;simp -implicitDefEqProofs (maxSteps:=3000000) (disch:=(first|omega|(simp only [aD.aI,aD.aK];try omega)|skip)) only [x,dV,dX,cX,bT,cW,bR,dW,cV,eZ,dI,aN,dH,fL,opA,mJ,gS,mK,lS,mX,oF,cJ,eY,eU,mE,kN,fW,eX,jV,cR,dQ,Nat.beq,jP,jU,dG,vl,mT,dP,dN,dA,eH,dY,dZ,aZ,fH,fF,bW,eJ,eE,bD,fG,bV,bY,bZ,bX,eK,cQ,dK,dL,aT,fD,fB,bM,dO,dM,aU,fC,bK,bO,bP,bN,dJ,cS,aQ,cM,aR,dS,aX,aV,aY,aW,cT,dU,eM,iL,aL,aP,eS,fA,List.drop_zero,List.drop_succ_cons,nH,oEq,eqA,lT,ki,eQ,eN,oneOf,fE,gH,jZ,called,List.append_eq,List.nil_append,List.cons_append,List.append_assoc,Nat.zero_add,Nat.add_zero,iM,jH,aM,aE,aD.aI,aD.aK,List.length_cons,List.length_nil,Bool.and_true,Bool.true_and,List.all_cons,List.all_nil,bJ,cF,bI,aS,dR,Nat.reduceAdd,Nat.reduceEqDiff,Nat.reduceBEq,ite_true,ite_false,if_true,if_false,gN,iI,iA,fP,fU,cP,fK,decide_eq_true_eq,decide_true,decide_false,mN,intArith,Int.ofNat_zero,reduceCtorEq,Bool.not_true,Bool.not_false,Bool.false_eq_true,Int.reduceEq,Int.reduceAdd,Int.zero_add,Int.add_zero,jT,cU,bQ,kE,kF,kG,kH,iN,iE,pE,iD,iR,pD,iV,iZ,iO,oE,gM,fM,fN,fO,gJ,jY,lG,oJ,lJ,jC,iU,List.reverse_cons,List.reverse_nil,lX,eT,eV,eL,eW,cK,iS,fR,pV,oMx,lF,jW,tM,lB,evO,mL,jG,lZ,lE,lQ,mR,mQ,iC,iB,fS,iW,sB,tN,rX,bound,jE,Int.reduceLE,Int.reduceLT,kJ,jK,jA,aH,aO,fJ,cI,kM,iY,jQ,lU,takeN,eR,jL,jR,jB,gV,iK,gZ,jS,kU,iJ,KF,KG];exact y):p:=h x y
theorem SV {f p:Prop} (x:f) (h:f→p:=by intro x;simp -implicitDefEqProofs (maxSteps:=3000000) (disch:=(first|omega|(simp only [aD.aI,aD.aK];try omega)|skip)) only [x,dV,dX,cX,bT,cW,bR,dW,cV,eZ,dI,aN,dH,fL,opA,mJ,gS,mK,lS,mX,oF,cJ,eY,eU,mE,kN,fW,eX,jV,cR,dQ,Nat.beq,jP,jU,dG,vl,mT,dP,dN,dA,eH,dY,dZ,aZ,fH,fF,bW,eJ,eE,bD,fG,bV,bY,bZ,bX,eK,cQ,dK,dL,aT,fD,fB,bM,dO,dM,aU,fC,bK,bO,bP,bN,dJ,cS,aQ,cM,aR,dS,aX,aV,aY,aW,cT,dU,eM,iL,aL,aP,eS,fA,List.drop_zero,List.drop_succ_cons,nH,oEq,eqA,lT,ki,eQ,eN,oneOf,fE,gH,jZ,called,List.append_eq,List.nil_append,List.cons_append,List.append_assoc,Nat.zero_add,Nat.add_zero,iM,jH,aM,aE,aD.aI,aD.aK,List.length_cons,List.length_nil,Bool.and_true,Bool.true_and,List.all_cons,List.all_nil,bJ,cF,bI,aS,dR,Nat.reduceAdd,Nat.reduceEqDiff,Nat.reduceBEq,ite_true,ite_false,if_true,if_false,gN,iI,iA,fP,fU,cP,fK,decide_eq_true_eq,decide_true,decide_false,mN,intArith,Int.ofNat_zero,reduceCtorEq,Bool.not_true,Bool.not_false,Bool.false_eq_true,Int.reduceEq,Int.reduceAdd,Int.zero_add,Int.add_zero,jT,cU,bQ,kE,kF,kG,kH,iN,iE,pE,iD,iR,pD,iV,iZ,iO,oE,gM,fM,fN,fO,gJ,jY,lG,oJ,lJ,jC,iU,List.reverse_cons,List.reverse_nil,lX,eT,eV,eL,eW,cK,iS,iQ,jX,fR,pV,oMx,lF,jW,tM,lB,evO,mL,jG,lZ,lE,lQ,mR,mQ,iC,iB,fS,iW,sB,tN,rX,bound,jE,Int.reduceLE,Int.reduceLT,kJ,jK,jA,aH,aO,fJ,cI,kM,iY,jQ,lU,takeN,eR,jL,jR,jB,gV,iK,gZ,jS,kU,iJ,KF,KG];try rfl):p:=h x
theorem SVe {f q p:Prop} (x:f) (y:q) (h:f→q→p:=by intro x y;simp -implicitDefEqProofs (maxSteps:=3000000) (disch:=(first|omega|(simp only [aD.aI,aD.aK];try omega)|skip)) only [x,dV,dX,cX,bT,cW,bR,dW,cV,eZ,dI,aN,dH,fL,opA,mJ,gS,mK,lS,mX,oF,cJ,eY,eU,mE,kN,fW,eX,jV,cR,dQ,Nat.beq,jP,jU,dG,vl,mT,dP,dN,dA,eH,dY,dZ,aZ,fH,fF,bW,eJ,eE,bD,fG,bV,bY,bZ,bX,eK,cQ,dK,dL,aT,fD,fB,bM,dO,dM,aU,fC,bK,bO,bP,bN,dJ,cS,aQ,cM,aR,dS,aX,aV,aY,aW,cT,dU,eM,iL,aL,aP,eS,fA,List.drop_zero,List.drop_succ_cons,nH,oEq,eqA,lT,ki,eQ,eN,oneOf,fE,gH,jZ,called,List.append_eq,List.nil_append,List.cons_append,List.append_assoc,Nat.zero_add,Nat.add_zero,iM,jH,aM,aE,aD.aI,aD.aK,List.length_cons,List.length_nil,Bool.and_true,Bool.true_and,List.all_cons,List.all_nil,bJ,cF,bI,aS,dR,Nat.reduceAdd,Nat.reduceEqDiff,Nat.reduceBEq,ite_true,ite_false,if_true,if_false,gN,iI,iA,fP,fU,cP,fK,decide_eq_true_eq,decide_true,decide_false,mN,intArith,Int.ofNat_zero,reduceCtorEq,Bool.not_true,Bool.not_false,Bool.false_eq_true,Int.reduceEq,Int.reduceAdd,Int.zero_add,Int.add_zero,jT,cU,bQ,kE,kF,kG,kH,iN,iE,pE,iD,iR,pD,iV,iZ,iO,oE,gM,fM,fN,fO,gJ,jY,lG,oJ,lJ,jC,iU,List.reverse_cons,List.reverse_nil,lX,eT,eV,eL,eW,cK,iS,iQ,jX,fR,pV,oMx,lF,jW,tM,lB,evO,mL,jG,lZ,lE,lQ,mR,mQ,iC,iB,fS,iW,sB,tN,rX,bound,jE,Int.reduceLE,Int.reduceLT,kJ,jK,jA,aH,aO,fJ,cI,kM,iY,jQ,lU,takeN,eR,jL,jR,jB,gV,iK,gZ,jS,kU,iJ,KF,KG];exact y):p:=h x y
theorem SWe {f q p:Prop} (x:f) (y:q) (h:f→q→p:=by intro x y;simp -implicitDefEqProofs (maxSteps:=3000000) (disch:=(first|omega|(simp only [aD.aI,aD.aK];try omega)|skip)) only [x,dV,dX,cX,bT,cW,bR,dW,cV,eZ,dI,aN,dH,fL,opA,mJ,gS,mK,lS,mX,oF,cJ,eY,eU,mE,kN,fW,eX,jV,cR,dQ,Nat.beq,jP,jU,dG,vl,mT,dP,dN,dA,eH,dY,dZ,aZ,fH,fF,bW,eJ,eE,bD,fG,bV,bY,bZ,bX,eK,cQ,dK,dL,aT,fD,fB,bM,dO,dM,aU,fC,bK,bO,bP,bN,dJ,cS,aQ,cM,aR,dS,aX,aV,aY,aW,cT,dU,eM,iL,aL,aP,eS,fA,List.drop_zero,List.drop_succ_cons,nH,oEq,eqA,lT,ki,eQ,eN,oneOf,fE,gH,jZ,called,List.append_eq,List.nil_append,List.cons_append,List.append_assoc,Nat.zero_add,Nat.add_zero,iM,jH,aM,aE,aD.aI,aD.aK,List.length_cons,List.length_nil,Bool.and_true,Bool.true_and,List.all_cons,List.all_nil,bJ,cF,bI,aS,dR,Nat.reduceAdd,Nat.reduceEqDiff,Nat.reduceBEq,ite_true,ite_false,if_true,if_false,gN,iI,iA,fP,fU,cP,fK,decide_eq_true_eq,decide_true,decide_false,mN,intArith,Int.ofNat_zero,reduceCtorEq,Bool.not_true,Bool.not_false,Bool.false_eq_true,Int.reduceEq,Int.reduceAdd,Int.zero_add,Int.add_zero,jT,cU,bQ,kE,kF,kG,kH,iN,iE,pE,iD,iR,pD,iV,iZ,iO,oE,gM,fM,fN,fO,gJ,jY,lG,oJ,lJ,jC,iU,List.reverse_cons,List.reverse_nil,lX,eT,eV,eL,eW,cK,iS,fR,pV,oMx,lF,jW,tM,lB,evO,mL,jG,lZ,lE,lQ,mR,mQ,iC,iB,fS,iW,sB,tN,rX,bound,jE,Int.reduceLE,Int.reduceLT,kJ,jK,jA,aH,aO,fJ,cI,kM,iY,jQ,kK,lU,takeN,eR,jL,jR,jB,gV,iK,gZ,jS,kU,iJ,KF,KG];exact y):p:=h x y
theorem SX {f p:Prop} (x:f) (h:f→p:=by intro x;simp -implicitDefEqProofs (maxSteps:=3000000) (disch:=(first|omega|(simp only [aD.aI,aD.aK];try omega)|skip)) only [x,dV,dX,cX,bT,cW,bR,dW,cV,eZ,dI,aN,dH,fL,opA,mJ,gS,mK,lS,mX,oF,cJ,eY,eU,mE,kN,fW,eX,jV,cR,dQ,Nat.beq,jP,jU,dG,vl,mT,dP,dN,dA,eH,dY,dZ,aZ,fH,fF,bW,eJ,eE,bD,fG,bV,bY,bZ,bX,eK,cQ,dK,dL,aT,fD,fB,bM,dO,dM,aU,fC,bK,bO,bP,bN,dJ,cS,aQ,cM,aR,dS,aX,aV,aY,aW,cT,dU,eM,iL,aL,aP,eS,fA,List.drop_zero,List.drop_succ_cons,nH,oEq,eqA,lT,ki,eQ,eN,oneOf,fE,gH,jZ,called,List.append_eq,List.nil_append,List.cons_append,List.append_assoc,Nat.zero_add,Nat.add_zero,iM,jH,aM,aE,aD.aI,aD.aK,List.length_cons,List.length_nil,Bool.and_true,Bool.true_and,List.all_cons,List.all_nil,bJ,cF,bI,aS,dR,Nat.reduceAdd,Nat.reduceEqDiff,Nat.reduceBEq,ite_true,ite_false,if_true,if_false,gN,iI,iA,fP,fU,cP,fK,decide_eq_true_eq,decide_true,decide_false,mN,intArith,Int.ofNat_zero,reduceCtorEq,Bool.not_true,Bool.not_false,Bool.false_eq_true,Int.reduceEq,Int.reduceAdd,Int.zero_add,Int.add_zero,jT,cU,bQ,kE,kF,kG,kH,iN,iE,pE,iD,iR,pD,iV,iZ,iO,oE,gM,fM,fN,fO,gJ,jY,lG,oJ,lJ,jC,iU,List.reverse_cons,List.reverse_nil,lX,eT,eV,eL,eW,cK,iS,iQ,jX,fR,pV,oMx,lF,jW,tM,lB,evO,mL,jG,lZ,lE,lQ,mR,mQ,iC,iB,fS,iW,sB,tN,rX,bound,jE,Int.reduceLE,Int.reduceLT,kJ,jK,jA,aH,aO,fJ,cI,kM,iY,jQ,kK,lU,takeN,eR,jL,jR,jB,gV,iK,gZ,jS,kU,iJ,KF,KG];try rfl):p:=h x
theorem SXe {f q p:Prop} (x:f) (y:q) (h:f→q→p:=by intro x y;simp -implicitDefEqProofs (maxSteps:=3000000) (disch:=(first|omega|(simp only [aD.aI,aD.aK];try omega)|skip)) only [x,dV,dX,cX,bT,cW,bR,dW,cV,eZ,dI,aN,dH,fL,opA,mJ,gS,mK,lS,mX,oF,cJ,eY,eU,mE,kN,fW,eX,jV,cR,dQ,Nat.beq,jP,jU,dG,vl,mT,dP,dN,dA,eH,dY,dZ,aZ,fH,fF,bW,eJ,eE,bD,fG,bV,bY,bZ,bX,eK,cQ,dK,dL,aT,fD,fB,bM,dO,dM,aU,fC,bK,bO,bP,bN,dJ,cS,aQ,cM,aR,dS,aX,aV,aY,aW,cT,dU,eM,iL,aL,aP,eS,fA,List.drop_zero,List.drop_succ_cons,nH,oEq,eqA,lT,ki,eQ,eN,oneOf,fE,gH,jZ,called,List.append_eq,List.nil_append,List.cons_append,List.append_assoc,Nat.zero_add,Nat.add_zero,iM,jH,aM,aE,aD.aI,aD.aK,List.length_cons,List.length_nil,Bool.and_true,Bool.true_and,List.all_cons,List.all_nil,bJ,cF,bI,aS,dR,Nat.reduceAdd,Nat.reduceEqDiff,Nat.reduceBEq,ite_true,ite_false,if_true,if_false,gN,iI,iA,fP,fU,cP,fK,decide_eq_true_eq,decide_true,decide_false,mN,intArith,Int.ofNat_zero,reduceCtorEq,Bool.not_true,Bool.not_false,Bool.false_eq_true,Int.reduceEq,Int.reduceAdd,Int.zero_add,Int.add_zero,jT,cU,bQ,kE,kF,kG,kH,iN,iE,pE,iD,iR,pD,iV,iZ,iO,oE,gM,fM,fN,fO,gJ,jY,lG,oJ,lJ,jC,iU,List.reverse_cons,List.reverse_nil,lX,eT,eV,eL,eW,cK,iS,iQ,jX,fR,pV,oMx,lF,jW,tM,lB,evO,mL,jG,lZ,lE,lQ,mR,mQ,iC,iB,fS,iW,sB,tN,rX,bound,jE,Int.reduceLE,Int.reduceLT,kJ,jK,jA,aH,aO,fJ,cI,kM,iY,jQ,kK,lU,takeN,eR,jL,jR,jB,gV,iK,gZ,jS,kU,iJ,KF,KG];exact y):p:=h x y
theorem SXo {f p:Prop} (x:f) (h:f→p:=by intro x;simp -implicitDefEqProofs (maxSteps:=3000000) (disch:=(first|omega|(simp only [aD.aI,aD.aK];try omega)|skip)) only [x,dV,dX,cX,bT,cW,bR,dW,cV,eZ,dI,aN,dH,fL,opA,mJ,gS,mK,lS,mX,oF,cJ,eY,eU,mE,kN,fW,eX,jV,cR,dQ,Nat.beq,jP,jU,dG,vl,mT,dP,dN,dA,eH,dY,dZ,aZ,fH,fF,bW,eJ,eE,bD,fG,bV,bY,bZ,bX,eK,cQ,dK,dL,aT,fD,fB,bM,dO,dM,aU,fC,bK,bO,bP,bN,dJ,cS,aQ,cM,aR,dS,aX,aV,aY,aW,cT,dU,eM,iL,aL,aP,eS,fA,List.drop_zero,List.drop_succ_cons,nH,oEq,eqA,lT,ki,eQ,eN,oneOf,fE,gH,jZ,called,List.append_eq,List.nil_append,List.cons_append,List.append_assoc,Nat.zero_add,Nat.add_zero,iM,jH,aM,aE,aD.aI,aD.aK,List.length_cons,List.length_nil,Bool.and_true,Bool.true_and,List.all_cons,List.all_nil,bJ,cF,bI,aS,dR,Nat.reduceAdd,Nat.reduceEqDiff,Nat.reduceBEq,ite_true,ite_false,if_true,if_false,gN,iI,iA,fP,fU,cP,fK,decide_eq_true_eq,decide_true,decide_false,mN,intArith,Int.ofNat_zero,reduceCtorEq,Bool.not_true,Bool.not_false,Bool.false_eq_true,Int.reduceEq,Int.reduceAdd,Int.zero_add,Int.add_zero,jT,cU,bQ,kE,kF,kG,kH,iN,iE,pE,iD,iR,pD,iV,iZ,iO,oE,gM,fM,fN,fO,gJ,jY,lG,oJ,lJ,jC,iU,List.reverse_cons,List.reverse_nil,lX,eT,eV,eL,eW,cK,iS,iQ,jX,fR,pV,oMx,lF,jW,tM,lB,evO,mL,jG,lZ,lE,lQ,mR,mQ,iC,iB,fS,iW,sB,tN,rX,bound,jE,Int.reduceLE,Int.reduceLT,kJ,jK,jA,aH,aO,fJ,cI,kM,iY,jQ,kK,lU,takeN,eR,jL,jR,jB,gV,iK,gZ,jS,kU,iJ,KF,KG];try (exfalso;omega)):p:=h x
theorem SXw {f p:Prop} (x:f) (h:f→p:=by intro x;simp -implicitDefEqProofs (maxSteps:=3000000) (disch:=(first|omega|(simp only [aD.aI,aD.aK];try omega)|skip)) only [x,dV,dX,cX,bT,cW,bR,dW,cV,eZ,dI,aN,dH,fL,opA,mJ,gS,mK,lS,mX,oF,cJ,eY,eU,mE,kN,fW,eX,jV,cR,dQ,Nat.beq,jP,jU,dG,vl,mT,dP,dN,dA,eH,dY,dZ,aZ,fH,fF,bW,eJ,eE,bD,fG,bV,bY,bZ,bX,eK,cQ,dK,dL,aT,fD,fB,bM,dO,dM,aU,fC,bK,bO,bP,bN,dJ,cS,aQ,cM,aR,dS,aX,aV,aY,aW,cT,dU,eM,iL,aL,aP,eS,fA,List.drop_zero,List.drop_succ_cons,nH,oEq,eqA,lT,ki,eQ,eN,oneOf,fE,gH,jZ,called,List.append_eq,List.nil_append,List.cons_append,List.append_assoc,Nat.zero_add,Nat.add_zero,iM,jH,aM,aE,aD.aI,aD.aK,List.length_cons,List.length_nil,Bool.and_true,Bool.true_and,List.all_cons,List.all_nil,bJ,cF,bI,aS,dR,Nat.reduceAdd,Nat.reduceEqDiff,Nat.reduceBEq,ite_true,ite_false,if_true,if_false,gN,iI,iA,fP,fU,cP,fK,decide_eq_true_eq,decide_true,decide_false,mN,intArith,Int.ofNat_zero,reduceCtorEq,Bool.not_true,Bool.not_false,Bool.false_eq_true,Int.reduceEq,Int.reduceAdd,Int.zero_add,Int.add_zero,jT,cU,bQ,kE,kF,kG,kH,iN,iE,pE,iD,iR,pD,iV,iZ,iO,oE,gM,fM,fN,fO,gJ,jY,lG,oJ,lJ,jC,iU,List.reverse_cons,List.reverse_nil,lX,eT,eV,eL,eW,cK,iS,iQ,jX,fR,pV,oMx,lF,jW,tM,lB,evO,mL,jG,lZ,lE,lQ,mR,mQ,iC,iB,fS,iW,sB,tN,rX,bound,jE,Int.reduceLE,Int.reduceLT,kJ,jK,jA,aH,aO,fJ,cI,kM,iY,jQ,kK,lU,takeN,eR,jL,jR,jB,gV,iK,gZ,jS,kU,iJ,KF,KG];with_reducible rfl):p:=h x
end Go.Ly
namespace Go.Gn
open Go Go.Am Go.Fs
variable {fns:Go.Am.F} {orc:Orc}
def InK (h:aD) (r:sY) (J:(Nat→Prop)→aD→Prop) (P' :Nat→Prop) (hh:aD):Prop:=
 h.next+2≤hh.next∧hh.get h.next=some (.deferred (some []))∧hh.get (h.next+1)=some (.loop r)∧¬P' h.next∧¬P' (h.next+1)∧J P' hh
theorem InK.keeps {h:aD} {r:sY} {J:(Nat→Prop)→aD→Prop} (K:xM J):xM (InK h r J) where
 chg P' a b:=by
  rintro ⟨le,mk,lp,np1,np2,hJ⟩ c
  refine ⟨Nat.le_trans le c.next,(c.get _ om np1).trans mk,(c.get _ om np2).trans lp, ?_, ?_,K.chg _ _ _ hJ c⟩
  ·rintro (q|q)
   ·exact np1 q
   ·omega
  ·rintro (q|q)
   ·exact np2 q
   ·omega
 less P' Q a:=by
  rintro ⟨le,mk,lp,np1,np2,hJ⟩ hq
  exact ⟨le,mk,lp,fun q=>np1 (hq _ q),fun q=>np2 (hq _ q),K.less _ _ _ hJ hq⟩
theorem Su {fn g:FuncId} {capt:List AV} {f:Opd} {ps:List Nat} {asg body:AC} {ts:iH} {ds:List uV} {rc:RC} {h:aD} {A:Nat→List AV→Prop} {N:Nat} {P:Nat→Prop} {J:Nat→(Nat→Prop)→aD→Prop} {DJ:(Nat→Prop)→aD→Prop}
  (hf:ev ts f= .fn g [] capt) (Y:D8 fns orc g capt A N P h) (hP:∀i,P i→i<h.next) (KJ:∀n,xM (J n)) (KD:xM DJ)
  (sJ:∀n Q hh o,J n Q hh→h.next+1<hh.next→J n Q (hh.set (h.next+1) o)) (sD:∀Q hh o,DJ Q hh→h.next+1<hh.next→DJ Q (hh.set (h.next+1) o))
  (h0:J 0 P (qE h ⟨.ready,none,fn,ts,ps,asg,body,h.next⟩))
  (hR:∀n x,A n x→∀P' hh,(∀i,P' i→i<hh.next)→InK h ⟨.ready,none,fn,ts,ps,asg,body,h.next⟩ (J n) P' hh→
   ∃h' b,Ev fns orc (.round (h.next+1) x hh) (.call (.ret (.bool b)) .plain h')∧Kept P' hh h' ∧(b=true→InK h ⟨.ready,none,fn,ts,ps,asg,body,h.next⟩ (J (n+1)) P' h')∧(b=false→InK h ⟨.done,some .ret,fn,ts,ps,asg,body,h.next⟩ DJ P' h')):
  ∃h' e,(∃M,∀m,M≤m→fV (eval fns orc m) fn none (.rf f ps asg body) ⟨ts,ds,rc,h⟩= .ok (.code e ⟨ts,.collected h.next::ds,rc,h'⟩))∧h.next+2≤h'.next∧h'.get h.next=some (.deferred (some []))∧
   ((e= .normal∧J N P h')∨(e= .ret∧DJ P h')):=by
 obtain ⟨r,hr⟩:∃r:sY,r=⟨.ready,none,fn,ts,ps,asg,body,h.next⟩:=⟨_,rfl⟩
 rw [←hr] at h0
 have F:E6 fns orc (h.next+1) A (fun n=>InK h ⟨.ready,none,fn,ts,ps,asg,body,h.next⟩ (J n)) (InK h ⟨.done,some .ret,fn,ts,ps,asg,body,h.next⟩ DJ):=⟨fun n=>InK.keeps (KJ n),InK.keeps KD,hR⟩
 have gr:=sI h r
 obtain ⟨h3,⟨n1,e1⟩,k3,hID⟩:=Y (qE h r) (h.next+1) _ _ (vJ gr hP) (fun i q=>Nat.lt_of_lt_of_le (hP i q) gr.next) F
  ⟨by rw [uX];exact Nat.le_refl _,AH h r,by rw [AI,hr],fun q=>absurd (hP _ q) om,fun q=>absurd (hP _ q) om,h0⟩
 rcases hID with ⟨le,mk,lp,_,_,hJ⟩|⟨le,mk,lp,_,_,hJ⟩
 ·refine ⟨h3.set (h.next+1) (.loop ⟨.exhausted,none,fn,ts,ps,asg,body,h.next⟩),.normal,⟨n1,fun m hm=> ?_⟩,by simpa using le,(aE _ _ _ _ om om).trans mk,.inl ⟨rfl,sJ _ _ _ _ hJ om⟩⟩
  have e1' :=e1 m hm
  have hlo:kI h3 (h.next+1)= .ok ⟨.ready,none,fn,ts,ps,asg,body,h.next⟩:=by simp only [kI,lp]
  rw [hr] at e1'
  unfold qE at e1'
  simp -implicitDefEqProofs only [yR,rfA,wX,aN,zT,hf,List.nil_append,aD.aI,e1',vN,hlo,vO]
 ·refine ⟨h3.set (h.next+1) (.loop ⟨.exhausted,some .ret,fn,ts,ps,asg,body,h.next⟩),.ret,⟨n1,fun m hm=> ?_⟩,by simpa using le,(aE _ _ _ _ om om).trans mk,.inr ⟨rfl,sD _ _ _ hJ om⟩⟩
  have e1' :=e1 m hm
  have hlo:kI h3 (h.next+1)= .ok ⟨.done,some .ret,fn,ts,ps,asg,body,h.next⟩:=by simp only [kI,lp]
  rw [hr] at e1'
  unfold qE at e1'
  simp -implicitDefEqProofs only [yR,rfA,wX,aN,zT,hf,List.nil_append,aD.aI,e1',vN,hlo,vO]
end Go.Gn
namespace Go.Gn
open Go Go.Am Go.Fs
variable {fns:Go.Am.F} {orc:Orc}
inductive Ends:Am.Exit→Option (List pT)→Prop
 |normal:Ends .normal none
 |ret:Ends .ret none
 |panic (ch:List pT):Ends (.panic ch) (some ch)
theorem Ev.GG {f:FuncId} {afn:AFn} {args:List AV} {rc:RC} {h:aD} {a:Ans} {x:Am.Exit} {s:St} {mode:Option (List pT)} (hf:fns f=some afn) (ho:orc f=none)
  (hb:∃n,∀m,n≤m→fV (eval fns orc m) f none afn.body ⟨fR 0 args,[],rc,h⟩= .ok (.code x s)) (hx:Ends x mode) (hu:Ev fns orc (.unwind f mode s) a):Ev fns orc (.call f args rc h) a:=by
 obtain ⟨n,hb⟩:=hb
 obtain ⟨n2,hu⟩:=hu
 refine ⟨n+n2+2,fun m hm=> ?_⟩
 obtain ⟨k,rfl⟩:∃k,m=k+2:=⟨m -2,by omega⟩
 have hk:=hb k om
 show A6 fns orc (eval fns orc (k+1)) f args rc h= .ok a
 unfold A6
 rw [ho]
 unfold HL
 simp only [hf]
 show (fV (eval fns orc k) f none afn.body ⟨fR 0 args,[],rc,h⟩).bind (Cr (eval fns orc (k+1)) f)= .ok a
 rw [hk]
 cases hx<;>exact hu (k+1) om
theorem Ev.Ds {f:FuncId} {mode:Option (List pT)} {ts:iH} {ds:List uV} {rc:RC} {h:aD} {b:Nat} {a:Ans} (hb:h.get b=some (.deferred (some []))) (hu:Ev fns orc (.unwind f mode ⟨ts,ds,rc,h.set b (.deferred none)⟩) a):
  Ev fns orc (.unwind f mode ⟨ts,.collected b::ds,rc,h⟩) a:=by
 obtain ⟨n,hu⟩:=hu
 refine ⟨n+1,fun m hm=> ?_⟩
 obtain ⟨k,rfl⟩:∃k,m=k+1:=⟨m -1,by omega⟩
 show A5 (eval fns orc k) f mode ⟨ts,.collected b::ds,rc,h⟩ b ds=_
 simp only [A5,hb]
 exact hu k om
theorem Ev.Ll {f g:FuncId} {args:List AV} {ts:iH} {ds:List uV} {rc:RC} {h h' :aD} {v:AV} {a:Ans} (hc:Ev fns orc (.call g args .ret h) (.call (.ret v) .ret h')) (hu:Ev fns orc (.unwind f none ⟨ts,ds,rc,h'⟩) a):
  Ev fns orc (.unwind f none ⟨ts,.call g args::ds,rc,h⟩) a:=by
 obtain ⟨n,hc⟩:=hc
 obtain ⟨n2,hu⟩:=hu
 refine ⟨n+n2+1,fun m hm=> ?_⟩
 obtain ⟨k,rfl⟩:∃k,m=k+1:=⟨m -1,by omega⟩
 show (eval fns orc k (.call g args (LW none) h)).bind (yA (eval fns orc k) f none ts ds rc)=_
 show (eval fns orc k (.call g args .ret h)).bind (yA (eval fns orc k) f none ts ds rc)=_
 rw [hc k om]
 exact hu k om
theorem Ev.PL {f g:FuncId} {args:List AV} {ch:List pT} {ts:iH} {ds:List uV} {rc:RC} {h h' :aD} {v w:AV} {DB:List pT} {a:Ans} (hc:Ev fns orc (.call g args (.pan ch) h) (.call (.ret v) (.pan ({v:=w,recovered:=true}::DB)) h')) (hu:Ev fns orc (.unwind f none ⟨ts,ds,rc,h'⟩) a):
  Ev fns orc (.unwind f (some ch) ⟨ts,.call g args::ds,rc,h⟩) a:=by
 obtain ⟨n,hc⟩:=hc
 obtain ⟨n2,hu⟩:=hu
 refine ⟨n+n2+1,fun m hm=> ?_⟩
 obtain ⟨k,rfl⟩:∃k,m=k+1:=⟨m -1,by omega⟩
 show (eval fns orc k (.call g args (.pan ch) h)).bind (yA (eval fns orc k) f (some ch) ts ds rc)=_
 rw [hc k om]
 exact hu k om
theorem Ev.Lm {f:FuncId} {afn:AFn} {ts:iH} {rc:RC} {h:aD} {l:List AV} (hf:fns f=some afn) (hr:eN h ts afn.results= .ok l):Ev fns orc (.unwind f none ⟨ts,[],rc,h⟩) (.call (.ret (oneOf l)) rc h):=by
 refine ⟨1,fun m hm=> ?_⟩
 obtain ⟨k,rfl⟩:∃k,m=k+1:=⟨m -1,by omega⟩
 show Gv fns f none ⟨ts,[],rc,h⟩=_
 simp only [Gv,hf,hr,aN]
end Go.Gn
end

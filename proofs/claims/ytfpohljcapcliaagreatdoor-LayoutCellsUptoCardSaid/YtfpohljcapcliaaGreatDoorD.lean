/- Parts of a proof. -/
import Derived.Test.YtfpohljcapcliaaGreatDoorF0
import Derived.Test.YtfpohljcapcliaaGreatDoorF1
import Derived.Test.YtfpohljcapcliaaGreatDoorF2
import Derived.Test.YtfpohljcapcliaaGreatDoorF3
import Derived.Test.YtfpohljcapcliaaGreatDoorF4
import Derived.Test.YtfpohljcapcliaaGreatDoorF5
import Derived.Test.YtfpohljcapcliaaGreatDoorF6
import Derived.Test.YtfpohljcapcliaaGreatDoorF7
import Derived.Test.YtfpohljcapcliaaGreatDoorC
set_option linter.all false
set_option maxHeartbeats 10000000
set_option maxRecDepth 100000
noncomputable section
namespace Go.Ly
open Go Go.Am
abbrev p3x0:=KE (pt a3.body [0]) _
abbrev p3x10:=KE (pt a3.body [1,0]) _
abbrev p3x110:=KE (pt a3.body [1,1,0]) _
abbrev p3x1110:=KE (pt a3.body [1,1,1,0]) _
abbrev p3x11110:=KE (pt a3.body [1,1,1,1,0]) _
abbrev p3x111110:=KE (pt a3.body [1,1,1,1,1,0]) _
abbrev p3x1111110:=KE (pt a3.body [1,1,1,1,1,1,0]) _
abbrev p3x1111111:=KE (pt a3.body [1,1,1,1,1,1,1]) _
abbrev p3x11111110:=KE (pt a3.body [1,1,1,1,1,1,1,0]) _
abbrev p3x11111111:=KE (pt a3.body [1,1,1,1,1,1,1,1]) _
abbrev p3x1111111100:=KE (pt a3.body [1,1,1,1,1,1,1,1,0,0]) _
abbrev p3x111111110100:=KE (pt a3.body [1,1,1,1,1,1,1,1,0,1,0,0]) _
abbrev p3x111111111:=KE (pt a3.body [1,1,1,1,1,1,1,1,1]) _
abbrev p3x11111111100:=KE (pt a3.body [1,1,1,1,1,1,1,1,1,0,0]) _
abbrev p3x1111111110100:=KE (pt a3.body [1,1,1,1,1,1,1,1,1,0,1,0,0]) _
abbrev p3x1111111111:=KE (pt a3.body [1,1,1,1,1,1,1,1,1,1]) _
abbrev p4x0:=KE (pt a4.body [0]) _
abbrev p4x10:=KE (pt a4.body [1,0]) _
abbrev p4x110:=KE (pt a4.body [1,1,0]) _
abbrev p4x1110:=KE (pt a4.body [1,1,1,0]) _
abbrev p4x11110:=KE (pt a4.body [1,1,1,1,0]) _
abbrev p4x11111:=KE (pt a4.body [1,1,1,1,1]) _
abbrev p4x111110:=KE (pt a4.body [1,1,1,1,1,0]) _
abbrev p4x111111:=KE (pt a4.body [1,1,1,1,1,1]) _
abbrev p4x1111110:=KE (pt a4.body [1,1,1,1,1,1,0]) _
abbrev p4x11111110:=KE (pt a4.body [1,1,1,1,1,1,1,0]) _
abbrev p4x11111111:=KE (pt a4.body [1,1,1,1,1,1,1,1]) _
abbrev p7x1110100:=KE (pt a7.body [1,1,1,0,1,0,0]) _
abbrev p8x1110100:=KE (pt a8.body [1,1,1,0,1,0,0]) _
abbrev p11x10100:=KE (pt a11.body [1,0,1,0,0]) _
abbrev p15x0:=KE (pt a15.body [0]) _
abbrev p15x10:=KE (pt a15.body [1,0]) _
abbrev p15x110:=KE (pt a15.body [1,1,0]) _
abbrev p15x1110:=KE (pt a15.body [1,1,1,0]) _
abbrev p15x11110:=KE (pt a15.body [1,1,1,1,0]) _
abbrev p15x111110:=KE (pt a15.body [1,1,1,1,1,0]) _
abbrev p15x111111:=KE (pt a15.body [1,1,1,1,1,1]) _
abbrev p15x11111100:=KE (pt a15.body [1,1,1,1,1,1,0,0]) _
abbrev p15x1111110100:=KE (pt a15.body [1,1,1,1,1,1,0,1,0,0]) _
abbrev p15x1111111:=KE (pt a15.body [1,1,1,1,1,1,1]) _
abbrev p15x111111100:=KE (pt a15.body [1,1,1,1,1,1,1,0,0]) _
abbrev p15x11111110100:=KE (pt a15.body [1,1,1,1,1,1,1,0,1,0,0]) _
abbrev p15x11111111:=KE (pt a15.body [1,1,1,1,1,1,1,1]) _
abbrev p15x1111111100:=KE (pt a15.body [1,1,1,1,1,1,1,1,0,0]) _
abbrev p15x111111110100:=KE (pt a15.body [1,1,1,1,1,1,1,1,0,1,0,0]) _
abbrev p15x111111111:=KE (pt a15.body [1,1,1,1,1,1,1,1,1]) _
abbrev p17x110100:=KE (pt a17.body [1,1,0,1,0,0]) _
abbrev p26x10100:=KE (pt a26.body [1,0,1,0,0]) _
abbrev p26x10101:=KE (pt a26.body [1,0,1,0,1]) _
abbrev p27x10100:=KE (pt a27.body [1,0,1,0,0]) _
abbrev p30x10100:=KE (pt a30.body [1,0,1,0,0]) _
abbrev p38x0:=KE (pt a38.body [0]) _
abbrev p38x10:=KE (pt a38.body [1,0]) _
abbrev p38x110:=KE (pt a38.body [1,1,0]) _
abbrev p38x1110:=KE (pt a38.body [1,1,1,0]) _
abbrev p38x11110:=KE (pt a38.body [1,1,1,1,0]) _
abbrev p38x111110:=KE (pt a38.body [1,1,1,1,1,0]) _
abbrev p38x1111110:=KE (pt a38.body [1,1,1,1,1,1,0]) _
abbrev p38x111111100:=KE (pt a38.body [1,1,1,1,1,1,1,0,0]) _
abbrev p38x1111111010:=KE (pt a38.body [1,1,1,1,1,1,1,0,1,0]) _
abbrev p38x1111111011:=KE (pt a38.body [1,1,1,1,1,1,1,0,1,1]) _
abbrev p38x11111110110111100:=KE (pt a38.body [1,1,1,1,1,1,1,0,1,1,0,1,1,1,1,0,0]) _
abbrev p38x11111111:=KE (pt a38.body [1,1,1,1,1,1,1,1]) _
abbrev p39x1100:=KE (pt a39.body [1,1,0,0]) _
abbrev p39x110011001100:=KE (pt a39.body [1,1,0,0,1,1,0,0,1,1,0,0]) _
abbrev p39x110011001100110011110100:=KE (pt a39.body [1,1,0,0,1,1,0,0,1,1,0,0,1,1,0,0,1,1,1,1,0,1,0,0]) _
abbrev p40x0:=KE (pt a40.body [0]) _
abbrev p40x10:=KE (pt a40.body [1,0]) _
abbrev p40x110:=KE (pt a40.body [1,1,0]) _
abbrev p40x11100:=KE (pt a40.body [1,1,1,0,0]) _
abbrev p40x111000:=KE (pt a40.body [1,1,1,0,0,0]) _
abbrev p40x1110010:=KE (pt a40.body [1,1,1,0,0,1,0]) _
abbrev p40x111001100:=KE (pt a40.body [1,1,1,0,0,1,1,0,0]) _
abbrev p40x1110011000:=KE (pt a40.body [1,1,1,0,0,1,1,0,0,0]) _
abbrev p40x11100110010:=KE (pt a40.body [1,1,1,0,0,1,1,0,0,1,0]) _
abbrev p40x11100110011:=KE (pt a40.body [1,1,1,0,0,1,1,0,0,1,1]) _
abbrev p40x111001100110:=KE (pt a40.body [1,1,1,0,0,1,1,0,0,1,1,0]) _
abbrev p40x111001100111:=KE (pt a40.body [1,1,1,0,0,1,1,0,0,1,1,1]) _
abbrev p40x1110011001110:=KE (pt a40.body [1,1,1,0,0,1,1,0,0,1,1,1,0]) _
abbrev p40x111001100111100:=KE (pt a40.body [1,1,1,0,0,1,1,0,0,1,1,1,1,0,0]) _
abbrev p40x1110011001111000:=KE (pt a40.body [1,1,1,0,0,1,1,0,0,1,1,1,1,0,0,0]) _
abbrev p40x11100110011110010:=KE (pt a40.body [1,1,1,0,0,1,1,0,0,1,1,1,1,0,0,1,0]) _
abbrev p40x1110011001111001100:=KE (pt a40.body [1,1,1,0,0,1,1,0,0,1,1,1,1,0,0,1,1,0,0]) _
abbrev p40x11100110011110011000:=KE (pt a40.body [1,1,1,0,0,1,1,0,0,1,1,1,1,0,0,1,1,0,0,0]) _
abbrev p40x111001100111100110010:=KE (pt a40.body [1,1,1,0,0,1,1,0,0,1,1,1,1,0,0,1,1,0,0,1,0]) _
abbrev p40x1110011001111001100110:=KE (pt a40.body [1,1,1,0,0,1,1,0,0,1,1,1,1,0,0,1,1,0,0,1,1,0]) _
abbrev p40x11100110011110011001110:=KE (pt a40.body [1,1,1,0,0,1,1,0,0,1,1,1,1,0,0,1,1,0,0,1,1,1,0]) _
abbrev p40x11100110011110011001111:=KE (pt a40.body [1,1,1,0,0,1,1,0,0,1,1,1,1,0,0,1,1,0,0,1,1,1,1]) _
abbrev p40x111001100111100110011110:=KE (pt a40.body [1,1,1,0,0,1,1,0,0,1,1,1,1,0,0,1,1,0,0,1,1,1,1,0]) _
abbrev p40x111001100111100110011111:=KE (pt a40.body [1,1,1,0,0,1,1,0,0,1,1,1,1,0,0,1,1,0,0,1,1,1,1,1]) _
abbrev p40x1110011001111001100111110:=KE (pt a40.body [1,1,1,0,0,1,1,0,0,1,1,1,1,0,0,1,1,0,0,1,1,1,1,1,0]) _
abbrev p40x1110011001111001100111111:=KE (pt a40.body [1,1,1,0,0,1,1,0,0,1,1,1,1,0,0,1,1,0,0,1,1,1,1,1,1]) _
abbrev p40x11100110011110011001111110:=KE (pt a40.body [1,1,1,0,0,1,1,0,0,1,1,1,1,0,0,1,1,0,0,1,1,1,1,1,1,0]) _
abbrev p40x11100110011110011001111111:=KE (pt a40.body [1,1,1,0,0,1,1,0,0,1,1,1,1,0,0,1,1,0,0,1,1,1,1,1,1,1]) _
abbrev p40x111001100111100110011111110:=KE (pt a40.body [1,1,1,0,0,1,1,0,0,1,1,1,1,0,0,1,1,0,0,1,1,1,1,1,1,1,0]) _
abbrev p40x1110011001111001100111111110:=KE (pt a40.body [1,1,1,0,0,1,1,0,0,1,1,1,1,0,0,1,1,0,0,1,1,1,1,1,1,1,1,0]) _
abbrev p40x1110011001111001100111111111:=KE (pt a40.body [1,1,1,0,0,1,1,0,0,1,1,1,1,0,0,1,1,0,0,1,1,1,1,1,1,1,1,1]) _
abbrev p40x111001100111100111:=KE (pt a40.body [1,1,1,0,0,1,1,0,0,1,1,1,1,0,0,1,1,1]) _
abbrev p40x11100111:=KE (pt a40.body [1,1,1,0,0,1,1,1]) _
abbrev p41x0:=KE (pt a41.body [0]) _
abbrev p41x10:=KE (pt a41.body [1,0]) _
abbrev p41x1100:=KE (pt a41.body [1,1,0,0]) _
abbrev p41x110100:=KE (pt a41.body [1,1,0,1,0,0]) _
abbrev p41x1101000:=KE (pt a41.body [1,1,0,1,0,0,0]) _
abbrev p41x11010010:=KE (pt a41.body [1,1,0,1,0,0,1,0]) _
abbrev p41x11010011000:=KE (pt a41.body [1,1,0,1,0,0,1,1,0,0,0]) _
abbrev p41x110100110010:=KE (pt a41.body [1,1,0,1,0,0,1,1,0,0,1,0]) _
abbrev p41x11010011001100:=KE (pt a41.body [1,1,0,1,0,0,1,1,0,0,1,1,0,0]) _
abbrev p41x110100110011000:=KE (pt a41.body [1,1,0,1,0,0,1,1,0,0,1,1,0,0,0]) _
abbrev p41x1101001100110010:=KE (pt a41.body [1,1,0,1,0,0,1,1,0,0,1,1,0,0,1,0]) _
abbrev p41x1101001100110011000:=KE (pt a41.body [1,1,0,1,0,0,1,1,0,0,1,1,0,0,1,1,0,0,0]) _
abbrev p41x11010011001100110010:=KE (pt a41.body [1,1,0,1,0,0,1,1,0,0,1,1,0,0,1,1,0,0,1,0]) _
abbrev p41x110100110011001100110:=KE (pt a41.body [1,1,0,1,0,0,1,1,0,0,1,1,0,0,1,1,0,0,1,1,0]) _
abbrev p41x11010011001100110011100:=KE (pt a41.body [1,1,0,1,0,0,1,1,0,0,1,1,0,0,1,1,0,0,1,1,1,0,0]) _
abbrev p41x110100110011001100111000:=KE (pt a41.body [1,1,0,1,0,0,1,1,0,0,1,1,0,0,1,1,0,0,1,1,1,0,0,0]) _
abbrev p41x1101001100110011001110010:=KE (pt a41.body [1,1,0,1,0,0,1,1,0,0,1,1,0,0,1,1,0,0,1,1,1,0,0,1,0]) _
abbrev p41x110100110011001100111001100:=KE (pt a41.body [1,1,0,1,0,0,1,1,0,0,1,1,0,0,1,1,0,0,1,1,1,0,0,1,1,0,0]) _
abbrev p41x11010011001100110011100111:=KE (pt a41.body [1,1,0,1,0,0,1,1,0,0,1,1,0,0,1,1,0,0,1,1,1,0,0,1,1,1]) _
abbrev p41x11010011001100111:=KE (pt a41.body [1,1,0,1,0,0,1,1,0,0,1,1,0,0,1,1,1]) _
abbrev p41x110100111:=KE (pt a41.body [1,1,0,1,0,0,1,1,1]) _
abbrev p41x111:=KE (pt a41.body [1,1,1]) _
abbrev p43x10100:=KE (pt a43.body [1,0,1,0,0]) _
abbrev p44x1110100:=KE (pt a44.body [1,1,1,0,1,0,0]) _
abbrev p47x10100:=KE (pt a47.body [1,0,1,0,0]) _
abbrev p48x110100:=KE (pt a48.body [1,1,0,1,0,0]) _
abbrev p49x11110100:=KE (pt a49.body [1,1,1,1,0,1,0,0]) _
abbrev p50x1110100:=KE (pt a50.body [1,1,1,0,1,0,0]) _
abbrev p52x11110100:=KE (pt a52.body [1,1,1,1,0,1,0,0]) _
abbrev p52x11110101:=KE (pt a52.body [1,1,1,1,0,1,0,1]) _
abbrev p56x100:=KE (pt a56.body [1,0,0]) _
abbrev p56x1001100111100:=KE (pt a56.body [1,0,0,1,1,0,0,1,1,1,1,0,0]) _
abbrev p57x100:=KE (pt a57.body [1,0,0]) _
abbrev p57x10011001110100:=KE (pt a57.body [1,0,0,1,1,0,0,1,1,1,0,1,0,0]) _
abbrev p58x111110100:=KE (pt a58.body [1,1,1,1,1,0,1,0,0]) _
abbrev p58x11111010011001111100:=KE (pt a58.body [1,1,1,1,1,0,1,0,0,1,1,0,0,1,1,1,1,1,0,0]) _
abbrev p61x10100:=KE (pt a61.body [1,0,1,0,0]) _
abbrev p62x110100:=KE (pt a62.body [1,1,0,1,0,0]) _
abbrev p65x110100:=KE (pt a65.body [1,1,0,1,0,0]) _
abbrev p67x101010110100:=KE (pt a67.body [1,0,1,0,1,0,1,1,0,1,0,0]) _
abbrev p67x101011111010100:=KE (pt a67.body [1,0,1,0,1,1,1,1,1,0,1,0,1,0,0]) _
abbrev p69x100:=KE (pt a69.body [1,0,0]) _
abbrev p70x10100:=KE (pt a70.body [1,0,1,0,0]) _
abbrev p83x1110100:=KE (pt a83.body [1,1,1,0,1,0,0]) _
abbrev p83x1110101:=KE (pt a83.body [1,1,1,0,1,0,1]) _
abbrev p87x1110100:=KE (pt a87.body [1,1,1,0,1,0,0]) _
abbrev p87x1110101:=KE (pt a87.body [1,1,1,0,1,0,1]) _
abbrev p107x10100:=KE (pt a107.body [1,0,1,0,0]) _
abbrev p123x110100:=KE (pt a123.body [1,1,0,1,0,0]) _
abbrev p132x11110100:=KE (pt a132.body [1,1,1,1,0,1,0,0]) _
abbrev p132x11110101:=KE (pt a132.body [1,1,1,1,0,1,0,1]) _
abbrev p136x110100:=KE (pt a136.body [1,1,0,1,0,0]) _
abbrev p138x10100:=KE (pt a138.body [1,0,1,0,0]) _
abbrev p144x1110100:=KE (pt a144.body [1,1,1,0,1,0,0]) _
abbrev p144x1110101:=KE (pt a144.body [1,1,1,0,1,0,1]) _
abbrev p149x011100:=KE (pt a149.body [0,1,1,1,0,0]) _
abbrev p159x11000:=KE (pt a159.body [1,1,0,0,0]) _
abbrev p166x0:=KE (pt a166.body [0]) _
abbrev p166x10:=KE (pt a166.body [1,0]) _
abbrev p166x110:=KE (pt a166.body [1,1,0]) _
abbrev p166x1110:=KE (pt a166.body [1,1,1,0]) _
abbrev p166x1111:=KE (pt a166.body [1,1,1,1]) _
abbrev p173x11000:=KE (pt a173.body [1,1,0,0,0]) _
abbrev p175x10100:=KE (pt a175.body [1,0,1,0,0]) _
end Go.Ly
namespace Go.Ly
open Go Go.Am
structure Has (fns:Go.Am.F) (orc:Orc):Prop where
 f3:fns 3=some a3
 o3:orc 3=none
 f4:fns 4=some a4
 o4:orc 4=none
 f5:fns 5=some a5
 o5:orc 5=none
 f7:fns 7=some a7
 o7:orc 7=none
 f8:fns 8=some a8
 o8:orc 8=none
 f9:fns 9=some a9
 o9:orc 9=none
 f10:fns 10=some a10
 o10:orc 10=none
 f11:fns 11=some a11
 o11:orc 11=none
 f12:fns 12=some a12
 o12:orc 12=none
 f13:fns 13=some a13
 o13:orc 13=none
 f14:fns 14=some a14
 o14:orc 14=none
 f15:fns 15=some a15
 o15:orc 15=none
 f17:fns 17=some a17
 o17:orc 17=none
 f21:fns 21=some a21
 o21:orc 21=none
 f22:fns 22=some a22
 o22:orc 22=none
 f23:fns 23=some a23
 o23:orc 23=none
 f24:fns 24=some a24
 o24:orc 24=none
 f25:fns 25=some a25
 o25:orc 25=none
 f26:fns 26=some a26
 o26:orc 26=none
 f27:fns 27=some a27
 o27:orc 27=none
 f28:fns 28=some a28
 o28:orc 28=none
 f29:fns 29=some a29
 o29:orc 29=none
 f30:fns 30=some a30
 o30:orc 30=none
 f31:fns 31=some a31
 o31:orc 31=none
 f32:fns 32=some a32
 o32:orc 32=none
 f33:fns 33=some a33
 o33:orc 33=none
 f34:fns 34=some a34
 o34:orc 34=none
 f35:fns 35=some a35
 o35:orc 35=none
 f36:fns 36=some a36
 o36:orc 36=none
 f37:fns 37=some a37
 o37:orc 37=none
 f38:fns 38=some a38
 o38:orc 38=none
 f39:fns 39=some a39
 o39:orc 39=none
 f40:fns 40=some a40
 o40:orc 40=none
 f41:fns 41=some a41
 o41:orc 41=none
 f43:fns 43=some a43
 o43:orc 43=none
 f44:fns 44=some a44
 o44:orc 44=none
 f45:fns 45=some a45
 o45:orc 45=none
 f46:fns 46=some a46
 o46:orc 46=none
 f47:fns 47=some a47
 o47:orc 47=none
 f48:fns 48=some a48
 o48:orc 48=none
 f49:fns 49=some a49
 o49:orc 49=none
 f50:fns 50=some a50
 o50:orc 50=none
 f51:fns 51=some a51
 o51:orc 51=none
 f52:fns 52=some a52
 o52:orc 52=none
 f53:fns 53=some a53
 o53:orc 53=none
 f54:fns 54=some a54
 o54:orc 54=none
 f55:fns 55=some a55
 o55:orc 55=none
 f56:fns 56=some a56
 o56:orc 56=none
 f57:fns 57=some a57
 o57:orc 57=none
 f58:fns 58=some a58
 o58:orc 58=none
 f59:fns 59=some a59
 o59:orc 59=none
 f60:fns 60=some a60
 o60:orc 60=none
 f61:fns 61=some a61
 o61:orc 61=none
 f62:fns 62=some a62
 o62:orc 62=none
 f63:fns 63=some a63
 o63:orc 63=none
 f64:fns 64=some a64
 o64:orc 64=none
 f65:fns 65=some a65
 o65:orc 65=none
 f66:fns 66=some a66
 o66:orc 66=none
 f67:fns 67=some a67
 o67:orc 67=none
 f68:fns 68=some a68
 o68:orc 68=none
 f69:fns 69=some a69
 o69:orc 69=none
 f70:fns 70=some a70
 o70:orc 70=none
 f71:fns 71=some a71
 o71:orc 71=none
 f72:fns 72=some a72
 o72:orc 72=none
 f73:fns 73=some a73
 o73:orc 73=none
 f74:fns 74=some a74
 o74:orc 74=none
 f75:fns 75=some a75
 o75:orc 75=none
 f76:fns 76=some a76
 o76:orc 76=none
 f77:fns 77=some a77
 o77:orc 77=none
 f78:fns 78=some a78
 o78:orc 78=none
 f79:fns 79=some a79
 o79:orc 79=none
 f80:fns 80=some a80
 o80:orc 80=none
 f81:fns 81=some a81
 o81:orc 81=none
 f82:fns 82=some a82
 o82:orc 82=none
 f83:fns 83=some a83
 o83:orc 83=none
 f84:fns 84=some a84
 o84:orc 84=none
 f85:fns 85=some a85
 o85:orc 85=none
 f86:fns 86=some a86
 o86:orc 86=none
 f87:fns 87=some a87
 o87:orc 87=none
 f88:fns 88=some a88
 o88:orc 88=none
 f89:fns 89=some a89
 o89:orc 89=none
 f90:fns 90=some a90
 o90:orc 90=none
 f91:fns 91=some a91
 o91:orc 91=none
 f92:fns 92=some a92
 o92:orc 92=none
 f93:fns 93=some a93
 o93:orc 93=none
 f94:fns 94=some a94
 o94:orc 94=none
 f95:fns 95=some a95
 o95:orc 95=none
 f96:fns 96=some a96
 o96:orc 96=none
 f97:fns 97=some a97
 o97:orc 97=none
 f98:fns 98=some a98
 o98:orc 98=none
 f99:fns 99=some a99
 o99:orc 99=none
 f100:fns 100=some a100
 o100:orc 100=none
 f101:fns 101=some a101
 o101:orc 101=none
 f102:fns 102=some a102
 o102:orc 102=none
 f103:fns 103=some a103
 o103:orc 103=none
 f104:fns 104=some a104
 o104:orc 104=none
 f105:fns 105=some a105
 o105:orc 105=none
 f106:fns 106=some a106
 o106:orc 106=none
 f107:fns 107=some a107
 o107:orc 107=none
 f108:fns 108=some a108
 o108:orc 108=none
 f109:fns 109=some a109
 o109:orc 109=none
 f110:fns 110=some a110
 o110:orc 110=none
 f111:fns 111=some a111
 o111:orc 111=none
 f112:fns 112=some a112
 o112:orc 112=none
 f113:fns 113=some a113
 o113:orc 113=none
 f114:fns 114=some a114
 o114:orc 114=none
 f115:fns 115=some a115
 o115:orc 115=none
 f116:fns 116=some a116
 o116:orc 116=none
 f117:fns 117=some a117
 o117:orc 117=none
 f118:fns 118=some a118
 o118:orc 118=none
 f119:fns 119=some a119
 o119:orc 119=none
 f120:fns 120=some a120
 o120:orc 120=none
 f121:fns 121=some a121
 o121:orc 121=none
 f122:fns 122=some a122
 o122:orc 122=none
 f123:fns 123=some a123
 o123:orc 123=none
 f124:fns 124=some a124
 o124:orc 124=none
 f125:fns 125=some a125
 o125:orc 125=none
 f126:fns 126=some a126
 o126:orc 126=none
 f127:fns 127=some a127
 o127:orc 127=none
 f128:fns 128=some a128
 o128:orc 128=none
 f129:fns 129=some a129
 o129:orc 129=none
 f130:fns 130=some a130
 o130:orc 130=none
 f131:fns 131=some a131
 o131:orc 131=none
 f132:fns 132=some a132
 o132:orc 132=none
 f133:fns 133=some a133
 o133:orc 133=none
 f134:fns 134=some a134
 o134:orc 134=none
 f135:fns 135=some a135
 o135:orc 135=none
 f136:fns 136=some a136
 o136:orc 136=none
 f137:fns 137=some a137
 o137:orc 137=none
 f138:fns 138=some a138
 o138:orc 138=none
 f139:fns 139=some a139
 o139:orc 139=none
 f140:fns 140=some a140
 o140:orc 140=none
 f141:fns 141=some a141
 o141:orc 141=none
 f142:fns 142=some a142
 o142:orc 142=none
 f143:fns 143=some a143
 o143:orc 143=none
 f144:fns 144=some a144
 o144:orc 144=none
 f145:fns 145=some a145
 o145:orc 145=none
 f146:fns 146=some a146
 o146:orc 146=none
 f147:fns 147=some a147
 o147:orc 147=none
 f148:fns 148=some a148
 o148:orc 148=none
 f149:fns 149=some a149
 o149:orc 149=none
 f150:fns 150=some a150
 o150:orc 150=none
 f151:fns 151=some a151
 o151:orc 151=none
 f154:fns 154=some a154
 o154:orc 154=none
 f155:fns 155=some a155
 o155:orc 155=none
 f156:fns 156=some a156
 o156:orc 156=none
 f157:fns 157=some a157
 o157:orc 157=none
 f158:fns 158=some a158
 o158:orc 158=none
 f159:fns 159=some a159
 o159:orc 159=none
 f160:fns 160=some a160
 o160:orc 160=none
 f161:fns 161=some a161
 o161:orc 161=none
 f162:fns 162=some a162
 o162:orc 162=none
 f163:fns 163=some a163
 o163:orc 163=none
 f164:fns 164=some a164
 o164:orc 164=none
 f165:fns 165=some a165
 o165:orc 165=none
 f166:fns 166=some a166
 o166:orc 166=none
 f167:fns 167=some a167
 o167:orc 167=none
 f168:fns 168=some a168
 o168:orc 168=none
 f169:fns 169=some a169
 o169:orc 169=none
 f170:fns 170=some a170
 o170:orc 170=none
 f171:fns 171=some a171
 o171:orc 171=none
 f173:fns 173=some a173
 o173:orc 173=none
 f175:fns 175=some a175
 o175:orc 175=none
 f176:fns 176=some a176
 o176:orc 176=none
end Go.Ly
namespace Go.Ly
open Go Go.Am Go.Fs Go.Gn
variable {fns:Go.Am.F} {orc:Orc}
theorem vN (t:Tk):Pw t t=true:=by cases t<;>simp [Pw]
theorem AG (k:IntKind):kEq k k=true:=by cases k<;>rfl
theorem Ht:∀n:List (List UInt8),kQ (n.map AV.str) (n.map AV.str)=true
 |[]=>by simp [kQ]
 |a::n=>by simp [kQ,dX,jV,Ht n]
theorem vC {v:AV} {n:List (List UInt8)} (h:iP v (n.map AV.str)):dX v v=true:=by
 generalize hx:n.map AV.str=xs at h
 cases h with
 |nil=>simp [dX]
 |sl tk xs=>subst hx;simp [dX,vN,Ht]
mutual
theorem AR:∀{p:Part} {v:AV},RV p v→dX v v=true
 |_,_,.exp h1 h2=>by simp [dX,kQ,AG,iQ,jV,jS h1,jS h2]
 |_,_,.desc h1 h2 h3 h4 h5=>by simp [dX,kQ,jV,iK,jS h1,jS h2,jS h3,jS h4,jS h5]
 |_,_,.decl h0 h1 h2 h3=>by simp [dX,kQ,AG,iQ,vC h0,jS h1,jS h2,jS h3]
 |_,_,.imp h1 h2 h3=>by simp [dX,kQ,AG,iQ,jV,iK,jS h1,jS h2,jS h3]
 |_,_,.case h1 h2=>by simp [dX,kQ,jS h1,jS h2]
theorem jS:∀{l:List Part} {v:AV},RVs l v→dX v v=true
 |_,_,.nil=>by simp [dX]
 |_,_,.sl tk h=>by simp [dX,vN,Rq h]
theorem Rq:∀{l:List Part} {xs:List AV},RVL l xs→kQ xs xs=true
 |_,_,.nil=>by simp [kQ]
 |_,_,.cons h1 h2=>by simp [kQ,AR h1,Rq h2]
end
theorem oS (n:Nat) (a b:AV):Me n a b=dX a b:=rfl
theorem pZ {l:List Part} {v:AV} (h:RVs l v):v.known=true:=by cases h<;>rfl
theorem jX {l:List Part} {v:AV} (h:RVs l v):v.cells=[v]:=by cases h<;>rfl
theorem jA {rec:Task→R Ans} {rd:Option Nat} (q:Nat) (vs:List aD) (rs:List Dd) (s:St):FJ rec rd [] q vs rs s= .ok ⟨.normal,s,vs,rs⟩:=rfl
theorem iL {rec:Task→R Ans} {rd:Option Nat} (o:oL) (l:List oL) (q:Nat) (vs:List aD) (rs:List Dd) (s:St):FJ rec rd (o::l) q vs rs s=qD rec rd o.o l (FJ rec rd l) q vs rs s o.k:=rfl
theorem fU (h:aD):rV [] h=h:=rfl
theorem eJ (o:lI) (l:List oL) (h:aD):rV (⟨o,.soft⟩::l) h=rV l h:=rfl
theorem eK (o:lI) (w:List Nat) (l:List oL) (h:aD):rV (⟨o,.look w⟩::l) h=rV l h:=rfl
theorem eL (o:lI) (b:List Bool) (l:List oL) (h:aD):rV (⟨o,.uK b⟩::l) h=rV l h:=rfl
theorem fS (o:lI) (z:List AV) (w:List Nat) (l:List oL) (h:aD):rV (⟨o,.pre z w⟩::l) h=rV l (h.push (.cells z)):=rfl
theorem dD (k:IntKind) (n:Int):dX (.int k n) (.int k n)=true:=by simp [dX,AG,iQ]
theorem dZ (i o:Nat):dX (.ptr i o) (.ptr i o)=true:=by simp [dX]
theorem dC (b:Bool):dX (.bool b) (.bool b)=true:=by simp [dX,iK]
theorem eD (b:List UInt8):dX (.str b) (.str b)=true:=by simp [dX,jV]
theorem bM:dX .aC .aC=true:=by simp [dX]
theorem jB (f:FuncId):dX (.fn f [] []) (.fn f [] [])=true:=by simp [dX,kQ]
theorem KT (H:Has fns orc) {p:pO} {c:List AV} (hv:RV (.exp p) (.agg c)) (h:aD):∃h',aP h h' ∧Ev fns orc (.call 92 [.agg c] .plain h) (.call (.ret (.agg (aX (.exp p) c))) .plain h'):=by
 cases hv with
 |exp h1 h2=>
  refine ⟨?hh, ?g,Ev.call H.f92 H.o92 ⟨0,fun m _=> ?b⟩⟩
  case b=>
   have c1:=aS h1;have c2:=aS h2
   exact SA (cj4 @a92.eq_1 c1 c2 @KF.eq_1)
  case g=>exact (((aP.refl h).tI _).tI _).set (by simp) (by simp) _
theorem Bl (H:Has fns orc) {p:pD} {c:List AV} (hv:RV (.desc p) (.agg c)) (h:aD):∃h',aP h h' ∧Ev fns orc (.call 55 [.agg c] .plain h) (.call (.ret (.agg (aX (.desc p) c))) .plain h'):=by
 cases hv with
 |desc h1 h2 h3 h4 h5=>
  refine ⟨?hh, ?g,Ev.call H.f55 H.o55 ⟨0,fun m _=> ?b⟩⟩
  case b=>
   have c1:=aS h1;have c2:=aS h2;have c3:=aS h3;have c4:=aS h4;have c5:=aS h5
   exact SA (cj7 @a55.eq_1 c1 c2 c3 c4 c5 @KF.eq_1)
  case g=>exact (((aP.refl h).tI _).tI _).set (by simp) (by simp) _
theorem Io (H:Has fns orc) {p:kV} {c:List AV} (hv:RV (.decl p) (.agg c)) (h:aD):∃h',aP h h' ∧Ev fns orc (.call 102 [.agg c] .plain h) (.call (.ret (.agg (aX (.decl p) c))) .plain h'):=by
 cases hv with
 |decl h0 h1 h2 h3=>
  refine ⟨?hh, ?g,Ev.call H.f102 H.o102 ⟨0,fun m _=> ?b⟩⟩
  case b=>
   have c0:=qL h0;have c1:=aS h1;have c2:=aS h2;have c3:=aS h3
   exact SA (cj6 @a102.eq_1 c0 c1 c2 c3 @KF.eq_1)
  case g=>exact (((aP.refl h).tI _).tI _).set (by simp) (by simp) _
theorem KQ (H:Has fns orc) {p:qN} {c:List AV} (hv:RV (.imp p) (.agg c)) (h:aD):∃h',aP h h' ∧Ev fns orc (.call 96 [.agg c] .plain h) (.call (.ret (.agg (aX (.imp p) c))) .plain h'):=by
 cases hv with
 |imp h1 h2 h3=>
  refine ⟨?hh, ?g,Ev.call H.f96 H.o96 ⟨0,fun m _=> ?b⟩⟩
  case b=>
   have c1:=aS h1;have c2:=aS h2;have c3:=aS h3
   exact SA (cj5 @a96.eq_1 c1 c2 c3 @KF.eq_1)
  case g=>exact (((aP.refl h).tI _).tI _).set (by simp) (by simp) _
theorem Ip (H:Has fns orc) {p:vK} {c:List AV} (hv:RV (.case p) (.agg c)) (h:aD):∃h',aP h h' ∧Ev fns orc (.call 106 [.agg c] .plain h) (.call (.ret (.agg (aX (.case p) c))) .plain h'):=by
 cases hv with
 |case h1 h2=>
  refine ⟨?hh, ?g,Ev.call H.f106 H.o106 ⟨0,fun m _=> ?b⟩⟩
  case b=>
   have c1:=aS h1;have c2:=aS h2
   exact SA (cj4 @a106.eq_1 c1 c2 @KF.eq_1)
  case g=>exact (((aP.refl h).tI _).tI _).set (by simp) (by simp) _
theorem Cw {f g:Nat} {afn:AFn} {sz:Nat} {z:List AV} (hf:fns f=some afn) (ho:orc f=none) (hbd:afn.body=Ex sz z) (hr:afn.results=[]) (hz:z.length=sz) {l:List Part} {v:AV} (hv:RVs l v) (hn:l.length<30000000)
  (hof:∀p∈l,∀c,RV p (.agg c)→c.length=sz∧∀h:aD,∃h',aP h h' ∧Ev fns orc (.call g [.agg c] .plain h) (.call (.ret (.agg (aX p c))) .plain h')):
  ∃ys,RPL l ys∧∀(bl bo:Nat) (P:Nat→Prop) (h0:aD),P bl→P bo→h0.get bl=some (.cells [v])→h0.get bo=some (.cells [.fn g [] []])→rY fns orc f [.ptr bl 0,.ptr bo 0] ys P h0:=by
 obtain ⟨xs,h1,h2,h3⟩:=jZ hv
 have key:∀(l:List Part) (xs:List AV),xs.length=l.length→(∀i (hi:i<l.length),∃c,xs[i]? =some (.agg c)∧RV l[i] (.agg c))→
   ∃ys,RPL l ys∧ys.length=l.length∧∀i (hi:i<l.length),∃c,xs[i]? =some (.agg c)∧RV l[i] (.agg c)∧ys[i]? =some (.agg (aX l[i] c)):=by
  intro l
  induction l with
  |nil=>intro xs _ _;exact ⟨[],.nil,rfl,fun i hi=>by simp at hi⟩
  |cons p l ih=>
   intro xs hl hx
   cases xs with
   |nil=>simp at hl
   |cons x xs=>
    obtain ⟨c,e,r⟩:=hx 0 (by simp)
    obtain ⟨ys,r1,r2,r3⟩:=ih xs (by simpa using hl) (fun i hi=>by obtain ⟨d,u,w⟩:=hx (i+1) (by simp;omega);exact ⟨d,u,w⟩)
    refine ⟨.agg (aX p c)::ys,.cons ⟨c,by simpa using r,rfl⟩ r1,by simp [r2],fun i hi=> ?_⟩
    cases i with
    |zero=>exact ⟨c,e,r,rfl⟩
    |succ i=>obtain ⟨d,u,w,k⟩:=r3 i (by simp at hi;omega);exact ⟨d,u,w,k⟩
 obtain ⟨ys,r1,r2,r3⟩:=key l xs h2 h3
 refine ⟨ys,r1,fun bl bo P h0 b1 b2 g1 g2=>LJ hf ho hbd hr hz h1 om om (fun i hi=> ?_) b1 b2 g1 g2⟩
 obtain ⟨c,e1,e2,e3⟩:=r3 i om
 obtain ⟨o1,o2⟩:=hof _ (List.getElem_mem om) c e2
 refine ⟨c,e1,o1, ?_,fun h=> ?_⟩
 ·have:=lF e2
  cases hp:l[i]'om<;>rw [hp] at this<;>simp only [aX,List.all_cons,List.all_append,Bool.and_eq_true] at this<;>simp_all
 ·obtain ⟨h',g',e'⟩:=o2 h
  have:ys[i]'om= .agg (aX (l[i]'om) c):=by rw [List.getElem?_eq_getElem om] at e3;exact Option.some.inj e3
  rw [this]
  exact ⟨h',g',e'⟩
theorem uD (H:Has fns orc) {v:AV} (hk:v.known=true) (hc:v.cells=[v]) (g:Nat) (h:aD) (m:Nat) (hm:2≤m):
  eval fns orc m (.call 110 [v,.fn g [] []] .plain h)= .ok (.call (.ret (.fn 127 [] [.ptr h.next 0,.ptr (h.next+1) 0])) .plain ((h.push (.cells [v])).push (.cells [.fn g [] []]))):=
 fW (n:=0) H.f110 H.o110 (fun m _=>by
  exact SA (cj4 @a110.eq_1 hk hc @KF.eq_1)) m hm
theorem H4 (H:Has fns orc) {v:AV} (hk:v.known=true) (hc:v.cells=[v]) (g:Nat) (h:aD) (m:Nat) (hm:2≤m):
  eval fns orc m (.call 111 [v,.fn g [] []] .plain h)= .ok (.call (.ret (.fn 128 [] [.ptr h.next 0,.ptr (h.next+1) 0])) .plain ((h.push (.cells [v])).push (.cells [.fn g [] []]))):=
 fW (n:=0) H.f111 H.o111 (fun m _=>by
  exact SA (cj4 @a111.eq_1 hk hc @KF.eq_1)) m hm
theorem BR (H:Has fns orc) {v:AV} (hk:v.known=true) (hc:v.cells=[v]) (g:Nat) (h:aD) (m:Nat) (hm:2≤m):
  eval fns orc m (.call 112 [v,.fn g [] []] .plain h)= .ok (.call (.ret (.fn 129 [] [.ptr h.next 0,.ptr (h.next+1) 0])) .plain ((h.push (.cells [v])).push (.cells [.fn g [] []]))):=
 fW (n:=0) H.f112 H.o112 (fun m _=>by
  exact SA (cj4 @a112.eq_1 hk hc @KF.eq_1)) m hm
theorem Dq (H:Has fns orc) {v:AV} (hk:v.known=true) (hc:v.cells=[v]) (g:Nat) (h:aD) (m:Nat) (hm:2≤m):
  eval fns orc m (.call 113 [v,.fn g [] []] .plain h)= .ok (.call (.ret (.fn 130 [] [.ptr h.next 0,.ptr (h.next+1) 0])) .plain ((h.push (.cells [v])).push (.cells [.fn g [] []]))):=
 fW (n:=0) H.f113 H.o113 (fun m _=>by
  exact SA (cj4 @a113.eq_1 hk hc @KF.eq_1)) m hm
theorem H5 (H:Has fns orc) {v:AV} (hk:v.known=true) (hc:v.cells=[v]) (g:Nat) (h:aD) (m:Nat) (hm:2≤m):
  eval fns orc m (.call 114 [v,.fn g [] []] .plain h)= .ok (.call (.ret (.fn 131 [] [.ptr h.next 0,.ptr (h.next+1) 0])) .plain ((h.push (.cells [v])).push (.cells [.fn g [] []]))):=
 fW (n:=0) H.f114 H.o114 (fun m _=>by
  exact SA (cj4 @a114.eq_1 hk hc @KF.eq_1)) m hm
theorem SD {f p:Prop} (x:f) (h:f→p:=by intro x;simp -implicitDefEqProofs (maxSteps:=3000000) (disch:=(first|omega|(simp only [aD.aJ,aD.aL];try omega)|skip)) only [x,eO,fE,fG,dV,cT,aI,dU,cS,fF,dR,gV,eQ,aM,dJ,iJ,opA,qS,kE,qT,pL,rJ,sB,dG,gU,fP,qM,mC,iZ,gJ,mK,dM,eZ,Nat.beq,lS,mH,eE,vl,rH,eY,eW,dW,fK,fH,fI,bY,iG,iD,cV,fL,fJ,bZ,iE,cU,cX,dA,cW,fM,dL,eT,eU,bP,iB,gZ,cK,eX,eV,bQ,iA,cJ,cP,cQ,cM,eS,dO,aY,dH,aZ,fB,bV,bR,bW,bT,dP,fD,eN,kL,mE,bN,aT,aV,fO,gX,takeN,List.drop_zero,List.drop_succ_cons,rS,oEq,eqA,pR,ki,eP,eH,oneOf,iC,jH,mU,called,List.append_eq,List.nil_append,List.cons_append,List.append_assoc,Nat.zero_add,Nat.add_zero,kN,lK,cI,kR,kG,aQ,aE,aD.aJ,aD.aL,List.length_cons,List.length_nil,Bool.and_true,Bool.true_and,List.all_cons,List.all_nil,bJ,cF,bK,bI,fA,Nat.reduceAdd,Nat.reduceEqDiff,Nat.reduceBEq,ite_true,ite_false,if_true,if_false,iQ,kH,jE,iK,iN,dK,iI,decide_eq_true_eq,decide_true,decide_false,qV,intArith,Int.ofNat_zero,reduceCtorEq,Bool.not_true,Bool.not_false,Bool.false_eq_true,Int.reduceEq,Int.reduceAdd,Int.zero_add,Int.add_zero,lZ,aX,pY,kD,kF,pX,lG,dQ,cR,oG,oI,oJ,oK,iM,qE,iL,jA,qD,iW,jO,iY,pH,fU,eJ,eK,eL,fS,kK,lT,pK,mJ,jU,iV,List.reverse_cons,List.reverse_nil,oS,dD,dZ,dC,eD,bM,jB,jN,kZ,KF,KG];try rfl):p:=h x
end Go.Ly
namespace Go.Ly
open Go Go.Am Go.Fs Go.Gn
variable {fns:Go.Am.F} {orc:Orc}
theorem Qh (H:Has fns orc) {d:pD} {s0:List UInt8} {b0:Bool} {v0 v1 v2 v3 v4:AV} (kn0:v0.known=true) (ce0:v0.cells=[v0]) (ic0:v0.bX=true) (eq0:dX v0 v0=true) (kn1:v1.known=true) (ce1:v1.cells=[v1]) (ic1:v1.bX=true) (eq1:dX v1 v1=true) (kn2:v2.known=true) (ce2:v2.cells=[v2]) (ic2:v2.bX=true) (eq2:dX v2 v2=true) (kn3:v3.known=true) (ce3:v3.cells=[v3]) (ic3:v3.bX=true) (eq3:dX v3 v3=true) (kn4:v4.known=true) (ce4:v4.cells=[v4]) (ic4:v4.bX=true) (eq4:dX v4 v4=true) (h:aD):
  ∃hF,Ev fns orc (.call 84 [.agg (aX (.desc d) [.str s0,v0,v1,v2,.bool b0,v3,v4])] .plain h) (.call (.ret (.fn 115 [] [.ptr (h.next+1) 0])) .plain hF)∧aP h hF∧hF.next=h.next+13∧
   hF.get (h.next+1)=some (.cells [.sl .full [.fn 127 [] [.ptr (h.next+3) 0,.ptr (h.next+4) 0],.fn 128 [] [.ptr (h.next+5) 0,.ptr (h.next+6) 0],.fn 127 [] [.ptr (h.next+7) 0,.ptr (h.next+8) 0],.fn 129 [] [.ptr (h.next+9) 0,.ptr (h.next+10) 0],.fn 127 [] [.ptr (h.next+11) 0,.ptr (h.next+12) 0]]])∧hF.get (h.next+3)=some (.cells [v0])∧hF.get (h.next+4)=some (.cells [.fn 92 [] []])∧hF.get (h.next+5)=some (.cells [v1])∧hF.get (h.next+6)=some (.cells [.fn 102 [] []])∧hF.get (h.next+7)=some (.cells [v2])∧hF.get (h.next+8)=some (.cells [.fn 92 [] []])∧hF.get (h.next+9)=some (.cells [v3])∧hF.get (h.next+10)=some (.cells [.fn 96 [] []])∧hF.get (h.next+11)=some (.cells [v4])∧hF.get (h.next+12)=some (.cells [.fn 92 [] []]):=by
 refine ⟨?hF,Ev.call H.f84 H.o84 ⟨2,fun m hm=> ?b⟩, ?g, ?n, ?r⟩
 case b=>
  have q0:=fun h=>uD H kn0 ce0 92 h m om
  have q1:=fun h=>H4 H kn1 ce1 102 h m om
  have q2:=fun h=>uD H kn2 ce2 92 h m om
  have q3:=fun h=>BR H kn3 ce3 96 h m om
  have q4:=fun h=>uD H kn4 ce4 92 h m om
  exact SD (dI @a84.eq_1 kn0 ce0 ic0 eq0 kn1 ce1 ic1 eq1 kn2 ce2 ic2 eq2 kn3 ce3 ic3 (sC eq3 kn4 ce4 ic4 eq4 q0 q1 q2 q3 q4 @KF.eq_1))
 case g=>exact gw2
 case n=>simp
 case r=>refine ⟨?_, ?_, ?_, ?_, ?_, ?_, ?_, ?_, ?_, ?_, ?_⟩<;>simp (disch:=(first|omega|(simp only [aD.aJ,aD.aL];try omega)|skip)) only [aQ,aE,aT,aV,aD.aJ,aD.aL]
theorem Qi (H:Has fns orc) {d:kV} {k0:Int} {n0:AV} {v0 v1 v2:AV} (hn0:n0.bX=true) (kn0:v0.known=true) (ce0:v0.cells=[v0]) (ic0:v0.bX=true) (eq0:dX v0 v0=true) (kn1:v1.known=true) (ce1:v1.cells=[v1]) (ic1:v1.bX=true) (eq1:dX v1 v1=true) (kn2:v2.known=true) (ce2:v2.cells=[v2]) (ic2:v2.bX=true) (eq2:dX v2 v2=true) (h:aD):
  ∃hF,Ev fns orc (.call 84 [.agg (aX (.decl d) [.int .i64 k0,n0,v0,v1,v2])] .plain h) (.call (.ret (.fn 115 [] [.ptr (h.next+1) 0])) .plain hF)∧aP h hF∧hF.next=h.next+8∧
   hF.get (h.next+1)=some (.cells [.sl .full [.fn 127 [] [.ptr (h.next+2) 0,.ptr (h.next+3) 0],.fn 127 [] [.ptr (h.next+4) 0,.ptr (h.next+5) 0],.fn 130 [] [.ptr (h.next+6) 0,.ptr (h.next+7) 0]]])∧hF.get (h.next+2)=some (.cells [v0])∧hF.get (h.next+3)=some (.cells [.fn 92 [] []])∧hF.get (h.next+4)=some (.cells [v1])∧hF.get (h.next+5)=some (.cells [.fn 92 [] []])∧hF.get (h.next+6)=some (.cells [v2])∧hF.get (h.next+7)=some (.cells [.fn 55 [] []]):=by
 refine ⟨?hF,Ev.call H.f84 H.o84 ⟨2,fun m hm=> ?b⟩, ?g, ?n, ?r⟩
 case b=>
  have q0:=fun h=>uD H kn0 ce0 92 h m om
  have q1:=fun h=>uD H kn1 ce1 92 h m om
  have q2:=fun h=>Dq H kn2 ce2 55 h m om
  exact SD (dI @a84.eq_1 kn0 ce0 ic0 eq0 kn1 ce1 ic1 eq1 kn2 ce2 ic2 eq2 hn0 q0 q1 (cj2 q2 @KF.eq_1))
 case g=>exact gw2
 case n=>simp
 case r=>refine ⟨?_, ?_, ?_, ?_, ?_, ?_, ?_⟩<;>simp (disch:=(first|omega|(simp only [aD.aJ,aD.aL];try omega)|skip)) only [aQ,aE,aT,aV,aD.aJ,aD.aL]
theorem Sv (H:Has fns orc) {d:qN} {k0:Int} {s0:List UInt8} {b0:Bool} {v0 v1 v2:AV} (kn0:v0.known=true) (ce0:v0.cells=[v0]) (ic0:v0.bX=true) (eq0:dX v0 v0=true) (kn1:v1.known=true) (ce1:v1.cells=[v1]) (ic1:v1.bX=true) (eq1:dX v1 v1=true) (kn2:v2.known=true) (ce2:v2.cells=[v2]) (ic2:v2.bX=true) (eq2:dX v2 v2=true) (h:aD):
  ∃hF,Ev fns orc (.call 84 [.agg (aX (.imp d) [.int .i64 k0,.str s0,v0,v1,.bool b0,v2])] .plain h) (.call (.ret (.fn 115 [] [.ptr (h.next+1) 0])) .plain hF)∧aP h hF∧hF.next=h.next+8∧
   hF.get (h.next+1)=some (.cells [.sl .full [.fn 127 [] [.ptr (h.next+2) 0,.ptr (h.next+3) 0],.fn 131 [] [.ptr (h.next+4) 0,.ptr (h.next+5) 0],.fn 129 [] [.ptr (h.next+6) 0,.ptr (h.next+7) 0]]])∧hF.get (h.next+2)=some (.cells [v0])∧hF.get (h.next+3)=some (.cells [.fn 92 [] []])∧hF.get (h.next+4)=some (.cells [v1])∧hF.get (h.next+5)=some (.cells [.fn 106 [] []])∧hF.get (h.next+6)=some (.cells [v2])∧hF.get (h.next+7)=some (.cells [.fn 96 [] []]):=by
 refine ⟨?hF,Ev.call H.f84 H.o84 ⟨2,fun m hm=> ?b⟩, ?g, ?n, ?r⟩
 case b=>
  have q0:=fun h=>uD H kn0 ce0 92 h m om
  have q1:=fun h=>H5 H kn1 ce1 106 h m om
  have q2:=fun h=>BR H kn2 ce2 96 h m om
  exact SD (dI @a84.eq_1 kn0 ce0 ic0 eq0 kn1 ce1 ic1 eq1 kn2 ce2 ic2 eq2 q0 q1 q2 @KF.eq_1)
 case g=>exact gw2
 case n=>simp
 case r=>refine ⟨?_, ?_, ?_, ?_, ?_, ?_, ?_⟩<;>simp (disch:=(first|omega|(simp only [aD.aJ,aD.aL];try omega)|skip)) only [aQ,aE,aT,aV,aD.aJ,aD.aL]
theorem Qj (H:Has fns orc) {d:vK} {v0 v1:AV} (kn0:v0.known=true) (ce0:v0.cells=[v0]) (ic0:v0.bX=true) (eq0:dX v0 v0=true) (kn1:v1.known=true) (ce1:v1.cells=[v1]) (ic1:v1.bX=true) (eq1:dX v1 v1=true) (h:aD):
  ∃hF,Ev fns orc (.call 84 [.agg (aX (.case d) [v0,v1])] .plain h) (.call (.ret (.fn 115 [] [.ptr (h.next+1) 0])) .plain hF)∧aP h hF∧hF.next=h.next+6∧
   hF.get (h.next+1)=some (.cells [.sl .full [.fn 127 [] [.ptr (h.next+2) 0,.ptr (h.next+3) 0],.fn 129 [] [.ptr (h.next+4) 0,.ptr (h.next+5) 0]]])∧hF.get (h.next+2)=some (.cells [v0])∧hF.get (h.next+3)=some (.cells [.fn 92 [] []])∧hF.get (h.next+4)=some (.cells [v1])∧hF.get (h.next+5)=some (.cells [.fn 96 [] []]):=by
 refine ⟨?hF,Ev.call H.f84 H.o84 ⟨2,fun m hm=> ?b⟩, ?g, ?n, ?r⟩
 case b=>
  have q0:=fun h=>uD H kn0 ce0 92 h m om
  have q1:=fun h=>BR H kn1 ce1 96 h m om
  exact SD (qC @a84.eq_1 kn0 ce0 ic0 eq0 kn1 ce1 ic1 eq1 q0 q1 @KF.eq_1)
 case g=>exact gw2
 case n=>simp
 case r=>refine ⟨?_, ?_, ?_, ?_, ?_⟩<;>simp (disch:=(first|omega|(simp only [aD.aJ,aD.aL];try omega)|skip)) only [aQ,aE,aT,aV,aD.aJ,aD.aL]
theorem Sw (H:Has fns orc) {d:pO} {k0 k1 k2 k3 k4:Int} {s0:List UInt8} {v0 v1:AV} (kn0:v0.known=true) (ce0:v0.cells=[v0]) (ic0:v0.bX=true) (eq0:dX v0 v0=true) (kn1:v1.known=true) (ce1:v1.cells=[v1]) (ic1:v1.bX=true) (eq1:dX v1 v1=true) (h:aD):
  ∃hF,Ev fns orc (.call 84 [.agg (aX (.exp d) [.int .i64 k0,.int .i64 k1,.int .i64 k2,.int .i64 k3,.int .i64 k4,.str s0,v0,v1])] .plain h) (.call (.ret (.fn 115 [] [.ptr (h.next+1) 0])) .plain hF)∧aP h hF∧hF.next=h.next+6∧
   hF.get (h.next+1)=some (.cells [.sl .full [.fn 127 [] [.ptr (h.next+2) 0,.ptr (h.next+3) 0],.fn 130 [] [.ptr (h.next+4) 0,.ptr (h.next+5) 0]]])∧hF.get (h.next+2)=some (.cells [v0])∧hF.get (h.next+3)=some (.cells [.fn 92 [] []])∧hF.get (h.next+4)=some (.cells [v1])∧hF.get (h.next+5)=some (.cells [.fn 55 [] []]):=by
 refine ⟨?hF,Ev.call H.f84 H.o84 ⟨2,fun m hm=> ?b⟩, ?g, ?n, ?r⟩
 case b=>
  have q0:=fun h=>uD H kn0 ce0 92 h m om
  have q1:=fun h=>Dq H kn1 ce1 55 h m om
  exact SD (qC @a84.eq_1 kn0 ce0 ic0 eq0 kn1 ce1 ic1 eq1 q0 q1 @KF.eq_1)
 case g=>exact gw2
 case n=>simp
 case r=>refine ⟨?_, ?_, ?_, ?_, ?_⟩<;>simp (disch:=(first|omega|(simp only [aD.aJ,aD.aL];try omega)|skip)) only [aQ,aE,aT,aV,aD.aJ,aD.aL]
end Go.Ly
namespace Go.Ly
open Go Go.Am Go.Fs Go.Gn
variable {fns:Go.Am.F} {orc:Orc}
theorem Cl (H:Has fns orc) {a:List pO} {v:AV} (hv:RVs (a.map Part.exp) v) (hn:a.length<30000000):
  ∃ys,RPL (a.map Part.exp) ys∧∀(bl bo:Nat) (P:Nat→Prop) (h0:aD),P bl→P bo→h0.get bl=some (.cells [v])→h0.get bo=some (.cells [.fn 92 [] []])→rY fns orc 127 [.ptr bl 0,.ptr bo 0] ys P h0:=
 Cw (z:=pY) (sz:=8) H.f127 H.o127 rfl rfl rfl hv (by simpa using hn) (fun p hp c hr=>by
  obtain ⟨e,_,rfl⟩:=List.mem_map.1 hp
  exact ⟨pW hr,fun h=>KT H hr h⟩)
theorem UE (H:Has fns orc) {a:List kV} {v:AV} (hv:RVs (a.map Part.decl) v) (hn:a.length<30000000):
  ∃ys,RPL (a.map Part.decl) ys∧∀(bl bo:Nat) (P:Nat→Prop) (h0:aD),P bl→P bo→h0.get bl=some (.cells [v])→h0.get bo=some (.cells [.fn 102 [] []])→rY fns orc 128 [.ptr bl 0,.ptr bo 0] ys P h0:=
 Cw (z:=kF) (sz:=5) H.f128 H.o128 rfl rfl rfl hv (by simpa using hn) (fun p hp c hr=>by
  obtain ⟨e,_,rfl⟩:=List.mem_map.1 hp
  exact ⟨pG hr,fun h=>Io H hr h⟩)
theorem MF (H:Has fns orc) {a:List qN} {v:AV} (hv:RVs (a.map Part.imp) v) (hn:a.length<30000000):
  ∃ys,RPL (a.map Part.imp) ys∧∀(bl bo:Nat) (P:Nat→Prop) (h0:aD),P bl→P bo→h0.get bl=some (.cells [v])→h0.get bo=some (.cells [.fn 96 [] []])→rY fns orc 129 [.ptr bl 0,.ptr bo 0] ys P h0:=
 Cw (z:=pX) (sz:=6) H.f129 H.o129 rfl rfl rfl hv (by simpa using hn) (fun p hp c hr=>by
  obtain ⟨e,_,rfl⟩:=List.mem_map.1 hp
  exact ⟨yR hr,fun h=>KQ H hr h⟩)
theorem On (H:Has fns orc) {a:List pD} {v:AV} (hv:RVs (a.map Part.desc) v) (hn:a.length<30000000):
  ∃ys,RPL (a.map Part.desc) ys∧∀(bl bo:Nat) (P:Nat→Prop) (h0:aD),P bl→P bo→h0.get bl=some (.cells [v])→h0.get bo=some (.cells [.fn 55 [] []])→rY fns orc 130 [.ptr bl 0,.ptr bo 0] ys P h0:=
 Cw (z:=kD) (sz:=7) H.f130 H.o130 rfl rfl rfl hv (by simpa using hn) (fun p hp c hr=>by
  obtain ⟨e,_,rfl⟩:=List.mem_map.1 hp
  exact ⟨kW hr,fun h=>Bl H hr h⟩)
theorem UF (H:Has fns orc) {a:List vK} {v:AV} (hv:RVs (a.map Part.case) v) (hn:a.length<30000000):
  ∃ys,RPL (a.map Part.case) ys∧∀(bl bo:Nat) (P:Nat→Prop) (h0:aD),P bl→P bo→h0.get bl=some (.cells [v])→h0.get bo=some (.cells [.fn 106 [] []])→rY fns orc 131 [.ptr bl 0,.ptr bo 0] ys P h0:=
 Cw (z:=lG) (sz:=2) H.f131 H.o131 rfl rfl rfl hv (by simpa using hn) (fun p hp c hr=>by
  obtain ⟨e,_,rfl⟩:=List.mem_map.1 hp
  exact ⟨xL hr,fun h=>Ip H hr h⟩)
theorem qY {l:List Part} {ys:List AV} (h:RPL l ys):∀y∈ys,∃c,y= .agg c∧c.length=29∧c.all AV.bX=true:=by
 induction h with
 |nil=>intro y hy;cases hy
 |cons hp _ ih=>
  intro y hy
  rcases List.mem_cons.1 hy with rfl|hy
  ·obtain ⟨c,r,rfl⟩:=hp
   exact ⟨_,rfl,jD r,lF r⟩
  ·exact ih y hy
def z29:List AV:= .int .i64 0::(pY++kD++kF++pX++lG)
theorem AF:a115.body=En z29:=rfl
theorem Js (H:Has fns orc) {p:Part} {v:AV} (hp:RP p v) (hn:p.kids.length<30000000) (h:aD):
  ∃hF b3 ys,Ev fns orc (.call 84 [v] .plain h) (.call (.ret (.fn 115 [] [.ptr b3 0])) .plain hF)∧aP h hF∧RPL p.kids ys∧
   ∀P:Nat→Prop,(∀i,h.next≤i→i<hF.next→P i)→rY fns orc 115 [.ptr b3 0] ys P hF:=by
 obtain ⟨c,hv,rfl⟩:=hp
 cases hv with
 |desc h1 h2 h3 h4 h5=>
  simp only [Part.kids,List.length_append,List.length_map] at hn
  obtain ⟨y0,r0,q0⟩:=Cl H h1 om
  obtain ⟨y1,r1,q1⟩:=UE H h2 om
  obtain ⟨y2,r2,q2⟩:=Cl H h3 om
  obtain ⟨y3,r3,q3⟩:=MF H h4 om
  obtain ⟨y4,r4,q4⟩:=Cl H h5 om
  obtain ⟨hF,e,gr,nx,g,g0a,g0b,g1a,g1b,g2a,g2b,g3a,g3b,g4a,g4b⟩:=Qh H (pZ h1) (jX h1) (aS h1) (jS h1) (pZ h2) (jX h2) (aS h2) (jS h2) (pZ h3) (jX h3) (aS h3) (jS h3) (pZ h4) (jX h4) (aS h4) (jS h4) (pZ h5) (jX h5) (aS h5) (jS h5) h
  refine ⟨hF,h.next+1,y0++(y1++(y2++(y3++(y4++[])))),e,gr, ?_,fun P hP=> ?_⟩
  ·simp only [Part.kids,List.append_nil,List.append_assoc]
   exact qF r0 (qF r1 (qF r2 (qF r3 (r4))))
  ·have hq:∀q∈[(⟨127,[.ptr (h.next+3) 0,.ptr (h.next+4) 0],y0⟩:Sq),(⟨128,[.ptr (h.next+5) 0,.ptr (h.next+6) 0],y1⟩:Sq),(⟨127,[.ptr (h.next+7) 0,.ptr (h.next+8) 0],y2⟩:Sq),(⟨129,[.ptr (h.next+9) 0,.ptr (h.next+10) 0],y3⟩:Sq),(⟨127,[.ptr (h.next+11) 0,.ptr (h.next+12) 0],y4⟩:Sq)],(rY fns orc q.e q.capt q.ys P hF)∧∀y∈q.ys,∃c,y= .agg c∧c.length=29∧c.all AV.bX=true:=by
    intro q hq
    simp only [List.mem_cons,List.not_mem_nil,or_false] at hq
    rcases hq with rfl|rfl|rfl|rfl|rfl
    ·exact ⟨q0 _ _ P hF (hP _ om om) (hP _ om om) g0a g0b,qY r0⟩
    ·exact ⟨q1 _ _ P hF (hP _ om om) (hP _ om om) g1a g1b,qY r1⟩
    ·exact ⟨q2 _ _ P hF (hP _ om om) (hP _ om om) g2a g2b,qY r2⟩
    ·exact ⟨q3 _ _ P hF (hP _ om om) (hP _ om om) g3a g3b,qY r3⟩
    ·exact ⟨q4 _ _ P hF (hP _ om om) (hP _ om om) g4a g4b,qY r4⟩
   exact zS (z:=z29) H.f115 H.o115 AF rfl rfl (.sl .full _) (by simp) (fun q hq' =>(hq q hq').2) (hP _ om om) g (fun q hq' =>(hq q hq').1)
 |decl h0 h1 h2 h3=>
  simp only [Part.kids,List.length_append,List.length_map] at hn
  obtain ⟨y0,r0,q0⟩:=Cl H h1 om
  obtain ⟨y1,r1,q1⟩:=Cl H h2 om
  obtain ⟨y2,r2,q2⟩:=On H h3 om
  obtain ⟨hF,e,gr,nx,g,g0a,g0b,g1a,g1b,g2a,g2b⟩:=Qi H (qL h0) (pZ h1) (jX h1) (aS h1) (jS h1) (pZ h2) (jX h2) (aS h2) (jS h2) (pZ h3) (jX h3) (aS h3) (jS h3) h
  refine ⟨hF,h.next+1,y0++(y1++(y2++[])),e,gr, ?_,fun P hP=> ?_⟩
  ·simp only [Part.kids,List.append_nil,List.append_assoc]
   exact qF r0 (qF r1 (r2))
  ·have hq:∀q∈[(⟨127,[.ptr (h.next+2) 0,.ptr (h.next+3) 0],y0⟩:Sq),(⟨127,[.ptr (h.next+4) 0,.ptr (h.next+5) 0],y1⟩:Sq),(⟨130,[.ptr (h.next+6) 0,.ptr (h.next+7) 0],y2⟩:Sq)],(rY fns orc q.e q.capt q.ys P hF)∧∀y∈q.ys,∃c,y= .agg c∧c.length=29∧c.all AV.bX=true:=by
    intro q hq
    simp only [List.mem_cons,List.not_mem_nil,or_false] at hq
    rcases hq with rfl|rfl|rfl
    ·exact ⟨q0 _ _ P hF (hP _ om om) (hP _ om om) g0a g0b,qY r0⟩
    ·exact ⟨q1 _ _ P hF (hP _ om om) (hP _ om om) g1a g1b,qY r1⟩
    ·exact ⟨q2 _ _ P hF (hP _ om om) (hP _ om om) g2a g2b,qY r2⟩
   exact zS (z:=z29) H.f115 H.o115 AF rfl rfl (.sl .full _) (by simp) (fun q hq' =>(hq q hq').2) (hP _ om om) g (fun q hq' =>(hq q hq').1)
 |imp h1 h2 h3=>
  simp only [Part.kids,List.length_append,List.length_map] at hn
  obtain ⟨y0,r0,q0⟩:=Cl H h1 om
  obtain ⟨y1,r1,q1⟩:=UF H h2 om
  obtain ⟨y2,r2,q2⟩:=MF H h3 om
  obtain ⟨hF,e,gr,nx,g,g0a,g0b,g1a,g1b,g2a,g2b⟩:=Sv H (pZ h1) (jX h1) (aS h1) (jS h1) (pZ h2) (jX h2) (aS h2) (jS h2) (pZ h3) (jX h3) (aS h3) (jS h3) h
  refine ⟨hF,h.next+1,y0++(y1++(y2++[])),e,gr, ?_,fun P hP=> ?_⟩
  ·simp only [Part.kids,List.append_nil,List.append_assoc]
   exact qF r0 (qF r1 (r2))
  ·have hq:∀q∈[(⟨127,[.ptr (h.next+2) 0,.ptr (h.next+3) 0],y0⟩:Sq),(⟨131,[.ptr (h.next+4) 0,.ptr (h.next+5) 0],y1⟩:Sq),(⟨129,[.ptr (h.next+6) 0,.ptr (h.next+7) 0],y2⟩:Sq)],(rY fns orc q.e q.capt q.ys P hF)∧∀y∈q.ys,∃c,y= .agg c∧c.length=29∧c.all AV.bX=true:=by
    intro q hq
    simp only [List.mem_cons,List.not_mem_nil,or_false] at hq
    rcases hq with rfl|rfl|rfl
    ·exact ⟨q0 _ _ P hF (hP _ om om) (hP _ om om) g0a g0b,qY r0⟩
    ·exact ⟨q1 _ _ P hF (hP _ om om) (hP _ om om) g1a g1b,qY r1⟩
    ·exact ⟨q2 _ _ P hF (hP _ om om) (hP _ om om) g2a g2b,qY r2⟩
   exact zS (z:=z29) H.f115 H.o115 AF rfl rfl (.sl .full _) (by simp) (fun q hq' =>(hq q hq').2) (hP _ om om) g (fun q hq' =>(hq q hq').1)
 |case h1 h2=>
  simp only [Part.kids,List.length_append,List.length_map] at hn
  obtain ⟨y0,r0,q0⟩:=Cl H h1 om
  obtain ⟨y1,r1,q1⟩:=MF H h2 om
  obtain ⟨hF,e,gr,nx,g,g0a,g0b,g1a,g1b⟩:=Qj H (pZ h1) (jX h1) (aS h1) (jS h1) (pZ h2) (jX h2) (aS h2) (jS h2) h
  refine ⟨hF,h.next+1,y0++(y1++[]),e,gr, ?_,fun P hP=> ?_⟩
  ·simp only [Part.kids,List.append_nil,List.append_assoc]
   exact qF r0 (r1)
  ·have hq:∀q∈[(⟨127,[.ptr (h.next+2) 0,.ptr (h.next+3) 0],y0⟩:Sq),(⟨129,[.ptr (h.next+4) 0,.ptr (h.next+5) 0],y1⟩:Sq)],(rY fns orc q.e q.capt q.ys P hF)∧∀y∈q.ys,∃c,y= .agg c∧c.length=29∧c.all AV.bX=true:=by
    intro q hq
    simp only [List.mem_cons,List.not_mem_nil,or_false] at hq
    rcases hq with rfl|rfl
    ·exact ⟨q0 _ _ P hF (hP _ om om) (hP _ om om) g0a g0b,qY r0⟩
    ·exact ⟨q1 _ _ P hF (hP _ om om) (hP _ om om) g1a g1b,qY r1⟩
   exact zS (z:=z29) H.f115 H.o115 AF rfl rfl (.sl .full _) (by simp) (fun q hq' =>(hq q hq').2) (hP _ om om) g (fun q hq' =>(hq q hq').1)
 |exp h1 h2=>
  simp only [Part.kids,List.length_append,List.length_map] at hn
  obtain ⟨y0,r0,q0⟩:=Cl H h1 om
  obtain ⟨y1,r1,q1⟩:=On H h2 om
  obtain ⟨hF,e,gr,nx,g,g0a,g0b,g1a,g1b⟩:=Sw H (pZ h1) (jX h1) (aS h1) (jS h1) (pZ h2) (jX h2) (aS h2) (jS h2) h
  refine ⟨hF,h.next+1,y0++(y1++[]),e,gr, ?_,fun P hP=> ?_⟩
  ·simp only [Part.kids,List.append_nil,List.append_assoc]
   exact qF r0 (r1)
  ·have hq:∀q∈[(⟨127,[.ptr (h.next+2) 0,.ptr (h.next+3) 0],y0⟩:Sq),(⟨130,[.ptr (h.next+4) 0,.ptr (h.next+5) 0],y1⟩:Sq)],(rY fns orc q.e q.capt q.ys P hF)∧∀y∈q.ys,∃c,y= .agg c∧c.length=29∧c.all AV.bX=true:=by
    intro q hq
    simp only [List.mem_cons,List.not_mem_nil,or_false] at hq
    rcases hq with rfl|rfl
    ·exact ⟨q0 _ _ P hF (hP _ om om) (hP _ om om) g0a g0b,qY r0⟩
    ·exact ⟨q1 _ _ P hF (hP _ om om) (hP _ om om) g1a g1b,qY r1⟩
   exact zS (z:=z29) H.f115 H.o115 AF rfl rfl (.sl .full _) (by simp) (fun q hq' =>(hq q hq').2) (hP _ om om) g (fun q hq' =>(hq q hq').1)
end Go.Ly
namespace Go.Ly
open Go Go.Am Go.Fs Go.Gn
theorem Y9 (n:Nat):n+1+2=n+3:=rfl
theorem Y7 (n:Nat):n+2+2=n+4:=rfl
theorem Y8 (n:Nat):n+1+3=n+4:=rfl
theorem SBe {f q p:Prop} (x:f) (y:q) (h:f→q→p:=by intro x y;simp -implicitDefEqProofs (maxSteps:=3000000) (disch:=(first|omega|(simp only [aD.aJ,aD.aL];try omega)|skip)) only [x,fE,fG,dV,cT,dU,cS,fF,dR,gV,eQ,aM,dJ,iJ,opA,qS,kE,qT,pL,rJ,sB,dG,gU,fP,qM,mC,iZ,gJ,mK,dM,eZ,Nat.beq,lS,mH,eE,vl,rH,eY,eW,dW,fK,fH,fI,bY,iG,iD,cV,fL,fJ,bZ,iE,cU,cX,dA,cW,fM,dL,eT,eU,bP,iB,gZ,cK,eX,eV,bQ,iA,cJ,cP,cQ,cM,eS,dO,aY,dH,aZ,fB,bV,bR,bW,bT,dP,fD,eN,kL,aT,aV,fO,gX,List.drop_zero,List.drop_succ_cons,rS,oEq,eqA,pR,ki,eP,eH,oneOf,iC,jH,mU,called,List.append_eq,List.nil_append,List.cons_append,List.append_assoc,Nat.zero_add,Nat.add_zero,kN,lK,aQ,aE,aD.aJ,aD.aL,List.length_cons,List.length_nil,Bool.and_true,Bool.true_and,List.all_cons,List.all_nil,bJ,cF,bK,bI,fA,Nat.reduceAdd,Nat.reduceEqDiff,Nat.reduceBEq,ite_true,ite_false,if_true,if_false,iQ,kH,jE,iK,iN,dK,iI,decide_eq_true_eq,decide_true,decide_false,qV,intArith,Int.ofNat_zero,reduceCtorEq,Bool.not_true,Bool.not_false,Bool.false_eq_true,Int.reduceEq,Int.reduceAdd,Int.zero_add,Int.add_zero,lZ,dQ,cR,oG,oI,oJ,oK,kR,iM,qE,iL,jA,qD,iW,jO,iY,pH,fU,eJ,eK,eL,fS,kK,lT,pK,mJ,jU,iV,List.reverse_cons,List.reverse_nil,oS,dD,dZ,dC,eD,bM,jB,eO,qO,oMx,lE,jT,vF,lD,evO,mZ,jL,mX,lH,lQ,oF,oE,gH,fX,dY,iU,uF,vG,tP,bound,jC,Int.reduceLE,Int.reduceLT,kJ,jM,aG,aK,dB,aR,kO,iO,jP,kM,lU,takeN,cI,jJ,jQ,iX,eM,gS,fQ,jR,kU,gN,KF,KG];exact y):p:=h x y
theorem SC {f p:Prop} (x:f) (h:f→p:=by intro x;simp -implicitDefEqProofs (maxSteps:=3000000) (disch:=(first|omega|(simp only [aD.aJ,aD.aL];try omega)|skip)) only [x,fE,fG,dV,cT,dU,cS,fF,dR,gV,eQ,aM,dJ,iJ,opA,qS,kE,qT,pL,rJ,sB,dG,gU,fP,qM,mC,iZ,gJ,mK,dM,eZ,Nat.beq,lS,mH,eE,vl,rH,eY,eW,dW,fK,fH,fI,bY,iG,iD,cV,fL,fJ,bZ,iE,cU,cX,dA,cW,fM,dL,eT,eU,bP,iB,gZ,cK,eX,eV,bQ,iA,cJ,cP,cQ,cM,eS,dO,aY,dH,aZ,fB,bV,bR,bW,bT,dP,fD,eN,kL,aT,aV,fO,gX,List.drop_zero,List.drop_succ_cons,rS,oEq,eqA,pR,ki,eP,eH,oneOf,iC,jH,mU,called,List.append_eq,List.nil_append,List.cons_append,List.append_assoc,Nat.zero_add,Nat.add_zero,kN,lK,aQ,aE,aD.aJ,aD.aL,List.length_cons,List.length_nil,Bool.and_true,Bool.true_and,List.all_cons,List.all_nil,bJ,cF,bK,bI,fA,Nat.reduceAdd,Nat.reduceEqDiff,Nat.reduceBEq,ite_true,ite_false,if_true,if_false,iQ,kH,jE,iK,iN,dK,iI,decide_eq_true_eq,decide_true,decide_false,qV,intArith,Int.ofNat_zero,reduceCtorEq,Bool.not_true,Bool.not_false,Bool.false_eq_true,Int.reduceEq,Int.reduceAdd,Int.zero_add,Int.add_zero,lZ,dQ,cR,oG,oI,oJ,oK,kR,iM,qE,iL,jA,qD,iW,jO,iY,pH,fU,eJ,eK,eL,fS,kK,lT,pK,mJ,jU,iV,List.reverse_cons,List.reverse_nil,oS,dD,dZ,dC,eD,bM,jB,jN,kZ,eO,qO,oMx,lE,jT,vF,lD,evO,mZ,jL,mX,lH,lQ,oF,oE,gH,fX,dY,iU,uF,vG,tP,bound,jC,Int.reduceLE,Int.reduceLT,kJ,jM,iS,aG,aK,dB,aR,kO,iO,jP,kM,lU,takeN,cI,jJ,jQ,iX,eM,gS,fQ,jR,kU,gN,Y9,Y7,Y8,KF,KG];try rfl):p:=h x
theorem SF {f p:Prop} (x:f) (h:f→p:=by intro x;simp -implicitDefEqProofs (maxSteps:=3000000) (disch:=(first|omega|(simp only [aD.aJ,aD.aL];try omega)|skip)) only [x,fE,fG,dV,cT,dU,cS,fF,dR,gV,eQ,aM,dJ,iJ,opA,qS,kE,qT,pL,rJ,sB,dG,gU,fP,qM,mC,iZ,gJ,mK,dM,eZ,Nat.beq,lS,mH,eE,vl,rH,eY,eW,dW,fK,fH,fI,bY,iG,iD,cV,fL,fJ,bZ,iE,cU,cX,dA,cW,fM,dL,eT,eU,bP,iB,gZ,cK,eX,eV,bQ,iA,cJ,cP,cQ,cM,eS,dO,aY,dH,aZ,fB,bV,bR,bW,bT,dP,fD,eN,kL,aT,aV,fO,gX,List.drop_zero,List.drop_succ_cons,rS,oEq,eqA,pR,ki,eP,eH,oneOf,iC,jH,mU,called,List.append_eq,List.nil_append,List.cons_append,List.append_assoc,Nat.zero_add,Nat.add_zero,kN,lK,aQ,aE,aD.aJ,aD.aL,List.length_cons,List.length_nil,Bool.and_true,Bool.true_and,List.all_cons,List.all_nil,bJ,cF,bK,bI,fA,Nat.reduceAdd,Nat.reduceEqDiff,Nat.reduceBEq,ite_true,ite_false,if_true,if_false,iQ,kH,jE,iK,iN,dK,iI,decide_eq_true_eq,decide_true,decide_false,qV,intArith,Int.ofNat_zero,reduceCtorEq,Bool.not_true,Bool.not_false,Bool.false_eq_true,Int.reduceEq,Int.reduceAdd,Int.zero_add,Int.add_zero,lZ,dQ,cR,oG,oI,oJ,oK,kR,iM,qE,iL,jA,qD,iW,jO,iY,pH,fU,eJ,eK,eL,fS,kK,lT,pK,mJ,jU,iV,List.reverse_cons,List.reverse_nil,oS,dD,dZ,dC,eD,bM,jB,jN,kZ,eO,qO,oMx,lE,jT,vF,lD,evO,mZ,jL,mX,lH,lQ,oF,oE,gH,fX,dY,iU,uF,vG,tP,bound,jC,Int.reduceLE,Int.reduceLT,Lh,kJ,KF,KG];try rfl):p:=h x
theorem SFe {f q p:Prop} (x:f) (y:q) (h:f→q→p:=by intro x y;simp -implicitDefEqProofs (maxSteps:=3000000) (disch:=(first|omega|(simp only [aD.aJ,aD.aL];try omega)|skip)) only [x,fE,fG,dV,cT,dU,cS,fF,dR,gV,eQ,aM,dJ,iJ,opA,qS,kE,qT,pL,rJ,sB,dG,gU,fP,qM,mC,iZ,gJ,mK,dM,eZ,Nat.beq,lS,mH,eE,vl,rH,eY,eW,dW,fK,fH,fI,bY,iG,iD,cV,fL,fJ,bZ,iE,cU,cX,dA,cW,fM,dL,eT,eU,bP,iB,gZ,cK,eX,eV,bQ,iA,cJ,cP,cQ,cM,eS,dO,aY,dH,aZ,fB,bV,bR,bW,bT,dP,fD,eN,kL,aT,aV,fO,gX,List.drop_zero,List.drop_succ_cons,rS,oEq,eqA,pR,ki,eP,eH,oneOf,iC,jH,mU,called,List.append_eq,List.nil_append,List.cons_append,List.append_assoc,Nat.zero_add,Nat.add_zero,kN,lK,aQ,aE,aD.aJ,aD.aL,List.length_cons,List.length_nil,Bool.and_true,Bool.true_and,List.all_cons,List.all_nil,bJ,cF,bK,bI,fA,Nat.reduceAdd,Nat.reduceEqDiff,Nat.reduceBEq,ite_true,ite_false,if_true,if_false,iQ,kH,jE,iK,iN,dK,iI,decide_eq_true_eq,decide_true,decide_false,qV,intArith,Int.ofNat_zero,reduceCtorEq,Bool.not_true,Bool.not_false,Bool.false_eq_true,Int.reduceEq,Int.reduceAdd,Int.zero_add,Int.add_zero,lZ,dQ,cR,oG,oI,oJ,oK,kR,iM,qE,iL,jA,qD,iW,jO,iY,pH,fU,eJ,eK,eL,fS,kK,lT,pK,mJ,jU,iV,List.reverse_cons,List.reverse_nil,oS,dD,dZ,dC,eD,bM,jB,jN,kZ,eO,qO,oMx,lE,jT,vF,lD,evO,mZ,jL,mX,lH,lQ,oF,oE,gH,fX,dY,iU,uF,vG,tP,bound,jC,Int.reduceLE,Int.reduceLT,Lh,kJ,KF,KG];exact y):p:=h x y
theorem SK {f p:Prop} (x:f) (h:f→p:=by intro x;simp -implicitDefEqProofs (maxSteps:=3000000) (disch:=(first|omega|(simp only [aD.aJ,aD.aL];try omega)|skip)) only [x,fE,fG,dV,cT,dU,cS,fF,dR,gV,eQ,aM,dJ,iJ,opA,qS,kE,qT,pL,rJ,sB,dG,gU,fP,qM,mC,iZ,gJ,mK,dM,eZ,Nat.beq,lS,mH,eE,vl,rH,eY,eW,dW,fK,fH,fI,bY,iG,iD,cV,fL,fJ,bZ,iE,cU,cX,dA,cW,fM,dL,eT,eU,bP,iB,gZ,cK,eX,eV,bQ,iA,cJ,cP,cQ,cM,eS,dO,aY,dH,aZ,fB,bV,bR,bW,bT,dP,fD,eN,kL,aT,aV,fO,gX,List.drop_zero,List.drop_succ_cons,rS,oEq,eqA,pR,ki,eP,eH,oneOf,iC,jH,mU,called,List.append_eq,List.nil_append,List.cons_append,List.append_assoc,Nat.zero_add,Nat.add_zero,kN,lK,aQ,aE,aD.aJ,aD.aL,List.length_cons,List.length_nil,Bool.and_true,Bool.true_and,List.all_cons,List.all_nil,bJ,cF,bK,bI,fA,Nat.reduceAdd,Nat.reduceEqDiff,Nat.reduceBEq,ite_true,ite_false,if_true,if_false,iQ,kH,jE,iK,iN,dK,iI,decide_eq_true_eq,decide_true,decide_false,qV,intArith,Int.ofNat_zero,reduceCtorEq,Bool.not_true,Bool.not_false,Bool.false_eq_true,Int.reduceEq,Int.reduceAdd,Int.zero_add,Int.add_zero,lZ,dQ,cR,oG,oI,oJ,oK,kR,iM,qE,iL,jA,qD,iW,jO,iY,pH,fU,eJ,eK,eL,fS,kK,lT,pK,mJ,jU,iV,List.reverse_cons,List.reverse_nil,oS,dD,dZ,dC,eD,bM,jB,jN,kZ,eO,qO,oMx,lE,jT,vF,lD,evO,mZ,jL,lQ,oF,oE,gH,fX,dY,iU,uF,vG,tP,bound,jC,Int.reduceLE,Int.reduceLT,kJ,jM,iS,aG,aK,dB,aR,kO,iO,jP,kM,lU,takeN,cI,jJ,jQ,iX,eM,gS,fQ,jR,kU,gN,KF,KG];try rfl):p:=h x
theorem SM {f p:Prop} (x:f) (h:f→p:=by intro x;simp -implicitDefEqProofs (maxSteps:=3000000) (disch:=(first|omega|(simp only [aD.aJ,aD.aL];try omega)|skip)) only [x,fE,fG,dV,cT,dU,cS,fF,dR,gV,eQ,aM,dJ,iJ,opA,qS,kE,qT,pL,rJ,sB,dG,gU,fP,qM,mC,iZ,gJ,mK,dM,eZ,Nat.beq,lS,mH,eE,vl,rH,eY,eW,dW,fK,fH,fI,bY,iG,iD,cV,fL,fJ,bZ,iE,cU,cX,dA,cW,fM,dL,eT,eU,bP,iB,gZ,cK,eX,eV,bQ,iA,cJ,cP,cQ,cM,eS,dO,aY,dH,aZ,fB,bV,bR,bW,bT,dP,fD,eN,kL,aT,aV,fO,gX,List.drop_zero,List.drop_succ_cons,rS,oEq,eqA,pR,ki,eP,eH,oneOf,iC,jH,mU,called,List.append_eq,List.nil_append,List.cons_append,List.append_assoc,Nat.zero_add,Nat.add_zero,kN,lK,aQ,aE,aD.aJ,aD.aL,List.length_cons,List.length_nil,Bool.and_true,Bool.true_and,List.all_cons,List.all_nil,bJ,cF,bK,bI,fA,Nat.reduceAdd,Nat.reduceEqDiff,Nat.reduceBEq,ite_true,ite_false,if_true,if_false,iQ,kH,jE,iK,iN,dK,iI,decide_eq_true_eq,decide_true,decide_false,qV,intArith,Int.ofNat_zero,reduceCtorEq,Bool.not_true,Bool.not_false,Bool.false_eq_true,Int.reduceEq,Int.reduceAdd,Int.zero_add,Int.add_zero,lZ,dQ,cR,oG,oI,oJ,oK,kR,iM,qE,iL,jA,qD,iW,jO,iY,pH,fU,eJ,eK,eL,fS,kK,lT,pK,mJ,jU,iV,List.reverse_cons,List.reverse_nil,oS,dD,dZ,dC,eD,bM,jB,eO,qO,oMx,lE,jT,vF,lD,evO,mZ,jL,oF,oE,gH,fX,dY,iU,uF,vG,tP,bound,jC,Int.reduceLE,Int.reduceLT,kJ,jM,aG,aK,dB,aR,kO,iO,jP,kM,lU,takeN,cI,jJ,jQ,iX,eM,gS,fQ,jR,kU,gN,KF,KG];try rfl):p:=h x
theorem SMe {f q p:Prop} (x:f) (y:q) (h:f→q→p:=by intro x y;simp -implicitDefEqProofs (maxSteps:=3000000) (disch:=(first|omega|(simp only [aD.aJ,aD.aL];try omega)|skip)) only [x,fE,fG,dV,cT,dU,cS,fF,dR,gV,eQ,aM,dJ,iJ,opA,qS,kE,qT,pL,rJ,sB,dG,gU,fP,qM,mC,iZ,gJ,mK,dM,eZ,Nat.beq,lS,mH,eE,vl,rH,eY,eW,dW,fK,fH,fI,bY,iG,iD,cV,fL,fJ,bZ,iE,cU,cX,dA,cW,fM,dL,eT,eU,bP,iB,gZ,cK,eX,eV,bQ,iA,cJ,cP,cQ,cM,eS,dO,aY,dH,aZ,fB,bV,bR,bW,bT,dP,fD,eN,kL,aT,aV,fO,gX,List.drop_zero,List.drop_succ_cons,rS,oEq,eqA,pR,ki,eP,eH,oneOf,iC,jH,mU,called,List.append_eq,List.nil_append,List.cons_append,List.append_assoc,Nat.zero_add,Nat.add_zero,kN,lK,aQ,aE,aD.aJ,aD.aL,List.length_cons,List.length_nil,Bool.and_true,Bool.true_and,List.all_cons,List.all_nil,bJ,cF,bK,bI,fA,Nat.reduceAdd,Nat.reduceEqDiff,Nat.reduceBEq,ite_true,ite_false,if_true,if_false,iQ,kH,jE,iK,iN,dK,iI,decide_eq_true_eq,decide_true,decide_false,qV,intArith,Int.ofNat_zero,reduceCtorEq,Bool.not_true,Bool.not_false,Bool.false_eq_true,Int.reduceEq,Int.reduceAdd,Int.zero_add,Int.add_zero,lZ,dQ,cR,oG,oI,oJ,oK,kR,iM,qE,iL,jA,qD,iW,jO,iY,pH,fU,eJ,eK,eL,fS,kK,lT,pK,mJ,jU,iV,List.reverse_cons,List.reverse_nil,oS,dD,dZ,dC,eD,bM,jB,eO,qO,oMx,lE,jT,vF,lD,evO,mZ,jL,oF,oE,gH,fX,dY,iU,uF,vG,tP,bound,jC,Int.reduceLE,Int.reduceLT,kJ,jM,aG,aK,dB,aR,kO,iO,jP,kM,lU,takeN,cI,jJ,jQ,iX,eM,gS,fQ,jR,kU,gN,KF,KG];exact y):p:=h x y
theorem SO {f p:Prop} (x:f) (h:f→p:=by intro x;simp -implicitDefEqProofs (maxSteps:=3000000) (disch:=(first|omega|(simp only [aD.aJ,aD.aL];try omega)|skip)) only [x,fE,fG,dV,cT,dU,cS,fF,dR,gV,eQ,aM,dJ,iJ,opA,qS,kE,qT,pL,rJ,sB,dG,gU,fP,qM,mC,iZ,gJ,mK,dM,eZ,Nat.beq,lS,mH,eE,vl,rH,eY,eW,dW,fK,fH,fI,bY,iG,iD,cV,fL,fJ,bZ,iE,cU,cX,dA,cW,fM,dL,eT,eU,bP,iB,gZ,cK,eX,eV,bQ,iA,cJ,cP,cQ,cM,eS,dO,aY,dH,aZ,fB,bV,bR,bW,bT,dP,fD,eN,kL,aT,aV,fO,gX,List.drop_zero,List.drop_succ_cons,rS,oEq,eqA,pR,ki,eP,eH,oneOf,iC,jH,mU,called,List.append_eq,List.nil_append,List.cons_append,List.append_assoc,Nat.zero_add,Nat.add_zero,kN,lK,aQ,aE,aD.aJ,aD.aL,List.length_cons,List.length_nil,Bool.and_true,Bool.true_and,List.all_cons,List.all_nil,bJ,cF,bK,bI,fA,Nat.reduceAdd,Nat.reduceEqDiff,Nat.reduceBEq,ite_true,ite_false,if_true,if_false,iQ,kH,jE,iK,iN,dK,iI,decide_eq_true_eq,decide_true,decide_false,qV,intArith,Int.ofNat_zero,reduceCtorEq,Bool.not_true,Bool.not_false,Bool.false_eq_true,Int.reduceEq,Int.reduceAdd,Int.zero_add,Int.add_zero,lZ,dQ,cR,oG,oI,oJ,oK,kR,iM,qE,iL,jA,qD,iW,jO,iY,pH,fU,eJ,eK,eL,fS,kK,lT,pK,mJ,jU,iV,List.reverse_cons,List.reverse_nil,oS,dD,dZ,dC,eD,bM,jB,jN,kZ,eO,qO,oMx,lE,jT,vF,lD,evO,mZ,jL,oF,oE,gH,fX,dY,iU,uF,vG,tP,bound,jC,Int.reduceLE,Int.reduceLT,kJ,jM,aG,aK,dB,aR,kO,iO,jP,kM,lU,takeN,cI,jJ,jQ,iX,eM,gS,fQ,jR,kU,gN,KF,KG];try rfl):p:=h x
theorem SR {f p:Prop} (x:f) (h:f→p:=by intro x;simp -implicitDefEqProofs (maxSteps:=3000000) (disch:=(first|omega|(simp only [aD.aJ,aD.aL];try omega)|skip)) only [x,fE,fG,dV,cT,dU,cS,fF,dR,gV,eQ,aM,dJ,iJ,opA,qS,kE,qT,pL,rJ,sB,dG,gU,fP,qM,mC,iZ,gJ,mK,dM,eZ,Nat.beq,lS,mH,eE,vl,rH,eY,eW,dW,fK,fH,fI,bY,iG,iD,cV,fL,fJ,bZ,iE,cU,cX,dA,cW,fM,dL,eT,eU,bP,iB,gZ,cK,eX,eV,bQ,iA,cJ,cP,cQ,cM,eS,dO,aY,dH,aZ,fB,bV,bR,bW,bT,dP,fD,eN,kL,aT,aV,fO,gX,List.drop_zero,List.drop_succ_cons,rS,oEq,eqA,pR,ki,eP,eH,oneOf,iC,jH,mU,called,List.append_eq,List.nil_append,List.cons_append,List.append_assoc,Nat.zero_add,Nat.add_zero,kN,lK,aQ,aE,aD.aJ,aD.aL,List.length_cons,List.length_nil,Bool.and_true,Bool.true_and,List.all_cons,List.all_nil,bJ,cF,bK,bI,fA,Nat.reduceAdd,Nat.reduceEqDiff,Nat.reduceBEq,ite_true,ite_false,if_true,if_false,iQ,kH,jE,iK,iN,dK,iI,decide_eq_true_eq,decide_true,decide_false,qV,intArith,Int.ofNat_zero,reduceCtorEq,Bool.not_true,Bool.not_false,Bool.false_eq_true,Int.reduceEq,Int.reduceAdd,Int.zero_add,Int.add_zero,lZ,dQ,cR,oG,oI,oJ,oK,kR,iM,qE,iL,jA,qD,iW,jO,iY,pH,fU,eJ,eK,eL,fS,kK,lT,pK,mJ,jU,iV,List.reverse_cons,List.reverse_nil,oS,dD,dZ,dC,eD,bM,jB,jN,kZ,eO,qO,oMx,lE,jT,vF,lD,evO,mZ,jL,mX,lH,lQ,oF,oE,gH,fX,dY,iU,uF,vG,tP,bound,jC,Int.reduceLE,Int.reduceLT,kJ,jM,iS,aG,aK,dB,aR,kO,iO,jP,lU,takeN,cI,jJ,jQ,iX,eM,gS,fQ,jR,kU,gN,KF,KG];try rfl):p:=h x
theorem SS {f p:Prop} (x:f) (h:f→p:=by intro x;simp -implicitDefEqProofs (maxSteps:=3000000) (disch:=(first|omega|(simp only [aD.aJ,aD.aL];try omega)|skip)) only [x,fE,fG,dV,cT,dU,cS,fF,dR,gV,eQ,aM,dJ,iJ,opA,qS,kE,qT,pL,rJ,sB,dG,gU,fP,qM,mC,iZ,gJ,mK,dM,eZ,Nat.beq,lS,mH,eE,vl,rH,eY,eW,dW,fK,fH,fI,bY,iG,iD,cV,fL,fJ,bZ,iE,cU,cX,dA,cW,fM,dL,eT,eU,bP,iB,gZ,cK,eX,eV,bQ,iA,cJ,cP,cQ,cM,eS,dO,aY,dH,aZ,fB,bV,bR,bW,bT,dP,fD,eN,kL,aT,aV,fO,gX,List.drop_zero,List.drop_succ_cons,rS,oEq,eqA,pR,ki,eP,eH,oneOf,iC,jH,mU,called,List.append_eq,List.nil_append,List.cons_append,List.append_assoc,Nat.zero_add,Nat.add_zero,kN,lK,aQ,aE,aD.aJ,aD.aL,List.length_cons,List.length_nil,Bool.and_true,Bool.true_and,List.all_cons,List.all_nil,bJ,cF,bK,bI,fA,Nat.reduceAdd,Nat.reduceEqDiff,Nat.reduceBEq,ite_true,ite_false,if_true,if_false,iQ,kH,jE,iK,iN,dK,iI,decide_eq_true_eq,decide_true,decide_false,qV,intArith,Int.ofNat_zero,reduceCtorEq,Bool.not_true,Bool.not_false,Bool.false_eq_true,Int.reduceEq,Int.reduceAdd,Int.zero_add,Int.add_zero,lZ,dQ,cR,oG,oI,oJ,oK,kR,iM,qE,iL,jA,qD,iW,jO,iY,pH,fU,eJ,eK,eL,fS,kK,lT,pK,mJ,jU,iV,List.reverse_cons,List.reverse_nil,oS,dD,dZ,dC,eD,bM,jB,jN,kZ,eO,qO,oMx,lE,jT,vF,lD,evO,mZ,jL,mX,lH,lQ,oF,oE,gH,fX,dY,iU,uF,vG,tP,bound,jC,Int.reduceLE,Int.reduceLT,kJ,jM,aG,aK,dB,aR,kO,iO,jP,kM,lU,takeN,cI,jJ,jQ,iX,eM,gS,fQ,jR,kU,gN,KF,KG];try rfl):p:=h x
theorem SUe {f q p:Prop} (x:f) (y:q) (h:f→q→p:=by intro x y;simp -implicitDefEqProofs (maxSteps:=3000000) (disch:=(first|omega|(simp only [aD.aJ,aD.aL];try omega)|skip)) only [x,fE,fG,dV,cT,dU,cS,fF,dR,gV,eQ,aM,dJ,iJ,opA,qS,kE,qT,pL,rJ,sB,dG,gU,fP,qM,mC,iZ,gJ,mK,dM,eZ,Nat.beq,lS,mH,eE,vl,rH,eY,eW,dW,fK,fH,fI,bY,iG,iD,cV,fL,fJ,bZ,iE,cU,cX,dA,cW,fM,dL,eT,eU,bP,iB,gZ,cK,eX,eV,bQ,iA,cJ,cP,cQ,cM,eS,dO,aY,dH,aZ,fB,bV,bR,bW,bT,dP,fD,eN,kL,aT,aV,fO,gX,List.drop_zero,List.drop_succ_cons,rS,oEq,eqA,pR,ki,eP,eH,oneOf,iC,jH,mU,called,List.append_eq,List.nil_append,List.cons_append,List.append_assoc,Nat.zero_add,Nat.add_zero,kN,lK,aQ,aE,aD.aJ,aD.aL,List.length_cons,List.length_nil,Bool.and_true,Bool.true_and,List.all_cons,List.all_nil,bJ,cF,bK,bI,fA,Nat.reduceAdd,Nat.reduceEqDiff,Nat.reduceBEq,ite_true,ite_false,if_true,if_false,iQ,kH,jE,iK,iN,dK,iI,decide_eq_true_eq,decide_true,decide_false,qV,intArith,Int.ofNat_zero,reduceCtorEq,Bool.not_true,Bool.not_false,Bool.false_eq_true,Int.reduceEq,Int.reduceAdd,Int.zero_add,Int.add_zero,lZ,dQ,cR,oG,oI,oJ,oK,kR,iM,qE,iL,jA,qD,iW,jO,iY,pH,fU,eJ,eK,eL,fS,kK,lT,pK,mJ,jU,iV,List.reverse_cons,List.reverse_nil,oS,dD,dZ,dC,eD,bM,jB,eO,qO,oMx,lE,jT,vF,lD,evO,mZ,jL,mX,lH,lQ,oF,oE,gH,fX,dY,iU,uF,vG,tP,bound,jC,Int.reduceLE,Int.reduceLT,kJ,jM,iS,aG,aK,dB,aR,kO,iO,jP,lU,takeN,cI,jJ,jQ,iX,eM,gS,fQ,jR,kU,gN,KF,KG];exact y):p:=h x y
theorem SV {f p:Prop} (x:f) (h:f→p:=by intro x;simp -implicitDefEqProofs (maxSteps:=3000000) (disch:=(first|omega|(simp only [aD.aJ,aD.aL];try omega)|skip)) only [x,fE,fG,dV,cT,dU,cS,fF,dR,gV,eQ,aM,dJ,iJ,opA,qS,kE,qT,pL,rJ,sB,dG,gU,fP,qM,mC,iZ,gJ,mK,dM,eZ,Nat.beq,lS,mH,eE,vl,rH,eY,eW,dW,fK,fH,fI,bY,iG,iD,cV,fL,fJ,bZ,iE,cU,cX,dA,cW,fM,dL,eT,eU,bP,iB,gZ,cK,eX,eV,bQ,iA,cJ,cP,cQ,cM,eS,dO,aY,dH,aZ,fB,bV,bR,bW,bT,dP,fD,eN,kL,aT,aV,fO,gX,List.drop_zero,List.drop_succ_cons,rS,oEq,eqA,pR,ki,eP,eH,oneOf,iC,jH,mU,called,List.append_eq,List.nil_append,List.cons_append,List.append_assoc,Nat.zero_add,Nat.add_zero,kN,lK,aQ,aE,aD.aJ,aD.aL,List.length_cons,List.length_nil,Bool.and_true,Bool.true_and,List.all_cons,List.all_nil,bJ,cF,bK,bI,fA,Nat.reduceAdd,Nat.reduceEqDiff,Nat.reduceBEq,ite_true,ite_false,if_true,if_false,iQ,kH,jE,iK,iN,dK,iI,decide_eq_true_eq,decide_true,decide_false,qV,intArith,Int.ofNat_zero,reduceCtorEq,Bool.not_true,Bool.not_false,Bool.false_eq_true,Int.reduceEq,Int.reduceAdd,Int.zero_add,Int.add_zero,lZ,dQ,cR,oG,oI,oJ,oK,kR,iM,qE,iL,jA,qD,iW,jO,iY,pH,fU,eJ,eK,eL,fS,kK,lT,pK,mJ,jU,iV,List.reverse_cons,List.reverse_nil,oS,dD,dZ,dC,eD,bM,jB,jN,kZ,eO,qO,oMx,lE,jT,vF,lD,evO,mZ,jL,mX,lH,lQ,oF,oE,gH,fX,dY,iU,uF,vG,tP,bound,jC,Int.reduceLE,Int.reduceLT,kJ,jM,iS,aG,aK,dB,aR,kO,iO,jP,lU,takeN,cI,jJ,jQ,iX,eM,gS,fQ,jR,kU,gN,KF,KG];try rfl):p:=h x
theorem SVe {f q p:Prop} (x:f) (y:q) (h:f→q→p:=by intro x y;simp -implicitDefEqProofs (maxSteps:=3000000) (disch:=(first|omega|(simp only [aD.aJ,aD.aL];try omega)|skip)) only [x,fE,fG,dV,cT,dU,cS,fF,dR,gV,eQ,aM,dJ,iJ,opA,qS,kE,qT,pL,rJ,sB,dG,gU,fP,qM,mC,iZ,gJ,mK,dM,eZ,Nat.beq,lS,mH,eE,vl,rH,eY,eW,dW,fK,fH,fI,bY,iG,iD,cV,fL,fJ,bZ,iE,cU,cX,dA,cW,fM,dL,eT,eU,bP,iB,gZ,cK,eX,eV,bQ,iA,cJ,cP,cQ,cM,eS,dO,aY,dH,aZ,fB,bV,bR,bW,bT,dP,fD,eN,kL,aT,aV,fO,gX,List.drop_zero,List.drop_succ_cons,rS,oEq,eqA,pR,ki,eP,eH,oneOf,iC,jH,mU,called,List.append_eq,List.nil_append,List.cons_append,List.append_assoc,Nat.zero_add,Nat.add_zero,kN,lK,aQ,aE,aD.aJ,aD.aL,List.length_cons,List.length_nil,Bool.and_true,Bool.true_and,List.all_cons,List.all_nil,bJ,cF,bK,bI,fA,Nat.reduceAdd,Nat.reduceEqDiff,Nat.reduceBEq,ite_true,ite_false,if_true,if_false,iQ,kH,jE,iK,iN,dK,iI,decide_eq_true_eq,decide_true,decide_false,qV,intArith,Int.ofNat_zero,reduceCtorEq,Bool.not_true,Bool.not_false,Bool.false_eq_true,Int.reduceEq,Int.reduceAdd,Int.zero_add,Int.add_zero,lZ,dQ,cR,oG,oI,oJ,oK,kR,iM,qE,iL,jA,qD,iW,jO,iY,pH,fU,eJ,eK,eL,fS,kK,lT,pK,mJ,jU,iV,List.reverse_cons,List.reverse_nil,oS,dD,dZ,dC,eD,bM,jB,jN,kZ,eO,qO,oMx,lE,jT,vF,lD,evO,mZ,jL,mX,lH,lQ,oF,oE,gH,fX,dY,iU,uF,vG,tP,bound,jC,Int.reduceLE,Int.reduceLT,kJ,jM,iS,aG,aK,dB,aR,kO,iO,jP,lU,takeN,cI,jJ,jQ,iX,eM,gS,fQ,jR,kU,gN,KF,KG];exact y):p:=h x y
theorem SWe {f q p:Prop} (x:f) (y:q) (h:f→q→p:=by intro x y;simp -implicitDefEqProofs (maxSteps:=3000000) (disch:=(first|omega|(simp only [aD.aJ,aD.aL];try omega)|skip)) only [x,fE,fG,dV,cT,dU,cS,fF,dR,gV,eQ,aM,dJ,iJ,opA,qS,kE,qT,pL,rJ,sB,dG,gU,fP,qM,mC,iZ,gJ,mK,dM,eZ,Nat.beq,lS,mH,eE,vl,rH,eY,eW,dW,fK,fH,fI,bY,iG,iD,cV,fL,fJ,bZ,iE,cU,cX,dA,cW,fM,dL,eT,eU,bP,iB,gZ,cK,eX,eV,bQ,iA,cJ,cP,cQ,cM,eS,dO,aY,dH,aZ,fB,bV,bR,bW,bT,dP,fD,eN,kL,aT,aV,fO,gX,List.drop_zero,List.drop_succ_cons,rS,oEq,eqA,pR,ki,eP,eH,oneOf,iC,jH,mU,called,List.append_eq,List.nil_append,List.cons_append,List.append_assoc,Nat.zero_add,Nat.add_zero,kN,lK,aQ,aE,aD.aJ,aD.aL,List.length_cons,List.length_nil,Bool.and_true,Bool.true_and,List.all_cons,List.all_nil,bJ,cF,bK,bI,fA,Nat.reduceAdd,Nat.reduceEqDiff,Nat.reduceBEq,ite_true,ite_false,if_true,if_false,iQ,kH,jE,iK,iN,dK,iI,decide_eq_true_eq,decide_true,decide_false,qV,intArith,Int.ofNat_zero,reduceCtorEq,Bool.not_true,Bool.not_false,Bool.false_eq_true,Int.reduceEq,Int.reduceAdd,Int.zero_add,Int.add_zero,lZ,dQ,cR,oG,oI,oJ,oK,kR,iM,qE,iL,jA,qD,iW,jO,iY,pH,fU,eJ,eK,eL,fS,kK,lT,pK,mJ,jU,iV,List.reverse_cons,List.reverse_nil,oS,dD,dZ,dC,eD,bM,jB,eO,qO,oMx,lE,jT,vF,lD,evO,mZ,jL,mX,lH,lQ,oF,oE,gH,fX,dY,iU,uF,vG,tP,bound,jC,Int.reduceLE,Int.reduceLT,kJ,jM,iS,aG,aK,dB,aR,kO,iO,jP,kM,lU,takeN,cI,jJ,jQ,iX,eM,gS,fQ,jR,kU,gN,KF,KG];exact y):p:=h x y
theorem SX {f p:Prop} (x:f) (h:f→p:=by intro x;simp -implicitDefEqProofs (maxSteps:=3000000) (disch:=(first|omega|(simp only [aD.aJ,aD.aL];try omega)|skip)) only [x,fE,fG,dV,cT,dU,cS,fF,dR,gV,eQ,aM,dJ,iJ,opA,qS,kE,qT,pL,rJ,sB,dG,gU,fP,qM,mC,iZ,gJ,mK,dM,eZ,Nat.beq,lS,mH,eE,vl,rH,eY,eW,dW,fK,fH,fI,bY,iG,iD,cV,fL,fJ,bZ,iE,cU,cX,dA,cW,fM,dL,eT,eU,bP,iB,gZ,cK,eX,eV,bQ,iA,cJ,cP,cQ,cM,eS,dO,aY,dH,aZ,fB,bV,bR,bW,bT,dP,fD,eN,kL,aT,aV,fO,gX,List.drop_zero,List.drop_succ_cons,rS,oEq,eqA,pR,ki,eP,eH,oneOf,iC,jH,mU,called,List.append_eq,List.nil_append,List.cons_append,List.append_assoc,Nat.zero_add,Nat.add_zero,kN,lK,aQ,aE,aD.aJ,aD.aL,List.length_cons,List.length_nil,Bool.and_true,Bool.true_and,List.all_cons,List.all_nil,bJ,cF,bK,bI,fA,Nat.reduceAdd,Nat.reduceEqDiff,Nat.reduceBEq,ite_true,ite_false,if_true,if_false,iQ,kH,jE,iK,iN,dK,iI,decide_eq_true_eq,decide_true,decide_false,qV,intArith,Int.ofNat_zero,reduceCtorEq,Bool.not_true,Bool.not_false,Bool.false_eq_true,Int.reduceEq,Int.reduceAdd,Int.zero_add,Int.add_zero,lZ,dQ,cR,oG,oI,oJ,oK,kR,iM,qE,iL,jA,qD,iW,jO,iY,pH,fU,eJ,eK,eL,fS,kK,lT,pK,mJ,jU,iV,List.reverse_cons,List.reverse_nil,oS,dD,dZ,dC,eD,bM,jB,jN,kZ,eO,qO,oMx,lE,jT,vF,lD,evO,mZ,jL,mX,lH,lQ,oF,oE,gH,fX,dY,iU,uF,vG,tP,bound,jC,Int.reduceLE,Int.reduceLT,kJ,jM,iS,aG,aK,dB,aR,kO,iO,jP,kM,lU,takeN,cI,jJ,jQ,iX,eM,gS,fQ,jR,kU,gN,KF,KG];try rfl):p:=h x
theorem SXe {f q p:Prop} (x:f) (y:q) (h:f→q→p:=by intro x y;simp -implicitDefEqProofs (maxSteps:=3000000) (disch:=(first|omega|(simp only [aD.aJ,aD.aL];try omega)|skip)) only [x,fE,fG,dV,cT,dU,cS,fF,dR,gV,eQ,aM,dJ,iJ,opA,qS,kE,qT,pL,rJ,sB,dG,gU,fP,qM,mC,iZ,gJ,mK,dM,eZ,Nat.beq,lS,mH,eE,vl,rH,eY,eW,dW,fK,fH,fI,bY,iG,iD,cV,fL,fJ,bZ,iE,cU,cX,dA,cW,fM,dL,eT,eU,bP,iB,gZ,cK,eX,eV,bQ,iA,cJ,cP,cQ,cM,eS,dO,aY,dH,aZ,fB,bV,bR,bW,bT,dP,fD,eN,kL,aT,aV,fO,gX,List.drop_zero,List.drop_succ_cons,rS,oEq,eqA,pR,ki,eP,eH,oneOf,iC,jH,mU,called,List.append_eq,List.nil_append,List.cons_append,List.append_assoc,Nat.zero_add,Nat.add_zero,kN,lK,aQ,aE,aD.aJ,aD.aL,List.length_cons,List.length_nil,Bool.and_true,Bool.true_and,List.all_cons,List.all_nil,bJ,cF,bK,bI,fA,Nat.reduceAdd,Nat.reduceEqDiff,Nat.reduceBEq,ite_true,ite_false,if_true,if_false,iQ,kH,jE,iK,iN,dK,iI,decide_eq_true_eq,decide_true,decide_false,qV,intArith,Int.ofNat_zero,reduceCtorEq,Bool.not_true,Bool.not_false,Bool.false_eq_true,Int.reduceEq,Int.reduceAdd,Int.zero_add,Int.add_zero,lZ,dQ,cR,oG,oI,oJ,oK,kR,iM,qE,iL,jA,qD,iW,jO,iY,pH,fU,eJ,eK,eL,fS,kK,lT,pK,mJ,jU,iV,List.reverse_cons,List.reverse_nil,oS,dD,dZ,dC,eD,bM,jB,jN,kZ,eO,qO,oMx,lE,jT,vF,lD,evO,mZ,jL,mX,lH,lQ,oF,oE,gH,fX,dY,iU,uF,vG,tP,bound,jC,Int.reduceLE,Int.reduceLT,kJ,jM,iS,aG,aK,dB,aR,kO,iO,jP,kM,lU,takeN,cI,jJ,jQ,iX,eM,gS,fQ,jR,kU,gN,KF,KG];exact y):p:=h x y
theorem SXo {f p:Prop} (x:f) (h:f→p:=by intro x;simp -implicitDefEqProofs (maxSteps:=3000000) (disch:=(first|omega|(simp only [aD.aJ,aD.aL];try omega)|skip)) only [x,fE,fG,dV,cT,dU,cS,fF,dR,gV,eQ,aM,dJ,iJ,opA,qS,kE,qT,pL,rJ,sB,dG,gU,fP,qM,mC,iZ,gJ,mK,dM,eZ,Nat.beq,lS,mH,eE,vl,rH,eY,eW,dW,fK,fH,fI,bY,iG,iD,cV,fL,fJ,bZ,iE,cU,cX,dA,cW,fM,dL,eT,eU,bP,iB,gZ,cK,eX,eV,bQ,iA,cJ,cP,cQ,cM,eS,dO,aY,dH,aZ,fB,bV,bR,bW,bT,dP,fD,eN,kL,aT,aV,fO,gX,List.drop_zero,List.drop_succ_cons,rS,oEq,eqA,pR,ki,eP,eH,oneOf,iC,jH,mU,called,List.append_eq,List.nil_append,List.cons_append,List.append_assoc,Nat.zero_add,Nat.add_zero,kN,lK,aQ,aE,aD.aJ,aD.aL,List.length_cons,List.length_nil,Bool.and_true,Bool.true_and,List.all_cons,List.all_nil,bJ,cF,bK,bI,fA,Nat.reduceAdd,Nat.reduceEqDiff,Nat.reduceBEq,ite_true,ite_false,if_true,if_false,iQ,kH,jE,iK,iN,dK,iI,decide_eq_true_eq,decide_true,decide_false,qV,intArith,Int.ofNat_zero,reduceCtorEq,Bool.not_true,Bool.not_false,Bool.false_eq_true,Int.reduceEq,Int.reduceAdd,Int.zero_add,Int.add_zero,lZ,dQ,cR,oG,oI,oJ,oK,kR,iM,qE,iL,jA,qD,iW,jO,iY,pH,fU,eJ,eK,eL,fS,kK,lT,pK,mJ,jU,iV,List.reverse_cons,List.reverse_nil,oS,dD,dZ,dC,eD,bM,jB,jN,kZ,eO,qO,oMx,lE,jT,vF,lD,evO,mZ,jL,mX,lH,lQ,oF,oE,gH,fX,dY,iU,uF,vG,tP,bound,jC,Int.reduceLE,Int.reduceLT,kJ,jM,iS,aG,aK,dB,aR,kO,iO,jP,kM,lU,takeN,cI,jJ,jQ,iX,eM,gS,fQ,jR,kU,gN,KF,KG];try (exfalso;omega)):p:=h x
theorem SXw {f p:Prop} (x:f) (h:f→p:=by intro x;simp -implicitDefEqProofs (maxSteps:=3000000) (disch:=(first|omega|(simp only [aD.aJ,aD.aL];try omega)|skip)) only [x,fE,fG,dV,cT,dU,cS,fF,dR,gV,eQ,aM,dJ,iJ,opA,qS,kE,qT,pL,rJ,sB,dG,gU,fP,qM,mC,iZ,gJ,mK,dM,eZ,Nat.beq,lS,mH,eE,vl,rH,eY,eW,dW,fK,fH,fI,bY,iG,iD,cV,fL,fJ,bZ,iE,cU,cX,dA,cW,fM,dL,eT,eU,bP,iB,gZ,cK,eX,eV,bQ,iA,cJ,cP,cQ,cM,eS,dO,aY,dH,aZ,fB,bV,bR,bW,bT,dP,fD,eN,kL,aT,aV,fO,gX,List.drop_zero,List.drop_succ_cons,rS,oEq,eqA,pR,ki,eP,eH,oneOf,iC,jH,mU,called,List.append_eq,List.nil_append,List.cons_append,List.append_assoc,Nat.zero_add,Nat.add_zero,kN,lK,aQ,aE,aD.aJ,aD.aL,List.length_cons,List.length_nil,Bool.and_true,Bool.true_and,List.all_cons,List.all_nil,bJ,cF,bK,bI,fA,Nat.reduceAdd,Nat.reduceEqDiff,Nat.reduceBEq,ite_true,ite_false,if_true,if_false,iQ,kH,jE,iK,iN,dK,iI,decide_eq_true_eq,decide_true,decide_false,qV,intArith,Int.ofNat_zero,reduceCtorEq,Bool.not_true,Bool.not_false,Bool.false_eq_true,Int.reduceEq,Int.reduceAdd,Int.zero_add,Int.add_zero,lZ,dQ,cR,oG,oI,oJ,oK,kR,iM,qE,iL,jA,qD,iW,jO,iY,pH,fU,eJ,eK,eL,fS,kK,lT,pK,mJ,jU,iV,List.reverse_cons,List.reverse_nil,oS,dD,dZ,dC,eD,bM,jB,jN,kZ,eO,qO,oMx,lE,jT,vF,lD,evO,mZ,jL,mX,lH,lQ,oF,oE,gH,fX,dY,iU,uF,vG,tP,bound,jC,Int.reduceLE,Int.reduceLT,kJ,jM,iS,aG,aK,dB,aR,kO,iO,jP,kM,lU,takeN,cI,jJ,jQ,iX,eM,gS,fQ,jR,kU,gN,KF,KG];with_reducible rfl):p:=h x
end Go.Ly
namespace Go.Gn
open Go Go.Am Go.Fs
variable {fns:Go.Am.F} {orc:Orc}
def InK (h:aD) (r:tM) (J:(Nat→Prop)→aD→Prop) (P' :Nat→Prop) (hh:aD):Prop:=
 h.next+2≤hh.next∧hh.get h.next=some (.deferred (some []))∧hh.get (h.next+1)=some (.loop r)∧¬P' h.next∧¬P' (h.next+1)∧J P' hh
theorem InK.keeps {h:aD} {r:tM} {J:(Nat→Prop)→aD→Prop} (K:yP J):yP (InK h r J) where
 chg P' a b:=by
  rintro ⟨le,mk,lp,np1,np2,hJ⟩ c
  refine ⟨Nat.le_trans le c.next,(c.get _ om np1).trans mk,(c.get _ om np2).trans lp, ?_, ?_,K.chg _ _ _ hJ c⟩
  ·rintro (q|q)
   ·exact np1 q
   ·omega
  ·rintro (q|q)
   ·exact np2 q
   ·omega
 less P' Q a:=by
  rintro ⟨le,mk,lp,np1,np2,hJ⟩ hq
  exact ⟨le,mk,lp,fun q=>np1 (hq _ q),fun q=>np2 (hq _ q),K.less _ _ _ hJ hq⟩
theorem UI {fn g:FuncId} {capt:List AV} {f:Opd} {ps:List Nat} {asg body:AC} {ts:fN} {ds:List vM} {rc:RC} {h:aD} {A:Nat→List AV→Prop} {N:Nat} {P:Nat→Prop} {J:Nat→(Nat→Prop)→aD→Prop} {DJ:(Nat→Prop)→aD→Prop}
  (hf:ev ts f= .fn g [] capt) (Y:EK fns orc g capt A N P h) (hP:∀i,P i→i<h.next) (KJ:∀n,yP (J n)) (KD:yP DJ)
  (sJ:∀n Q hh o,J n Q hh→h.next+1<hh.next→J n Q (hh.set (h.next+1) o)) (sD:∀Q hh o,DJ Q hh→h.next+1<hh.next→DJ Q (hh.set (h.next+1) o))
  (h0:J 0 P (qA h ⟨.ready,none,fn,ts,ps,asg,body,h.next⟩))
  (hR:∀n x,A n x→∀P' hh,(∀i,P' i→i<hh.next)→InK h ⟨.ready,none,fn,ts,ps,asg,body,h.next⟩ (J n) P' hh→
   ∃h' b,Ev fns orc (.round (h.next+1) x hh) (.call (.ret (.bool b)) .plain h')∧Kept P' hh h' ∧(b=true→InK h ⟨.ready,none,fn,ts,ps,asg,body,h.next⟩ (J (n+1)) P' h')∧(b=false→InK h ⟨.done,some .ret,fn,ts,ps,asg,body,h.next⟩ DJ P' h')):
  ∃h' e,(∃M,∀m,M≤m→cG (eval fns orc m) fn none (.rf f ps asg body) ⟨ts,ds,rc,h⟩= .ok (.code e ⟨ts,.collected h.next::ds,rc,h'⟩))∧h.next+2≤h'.next∧h'.get h.next=some (.deferred (some []))∧
   ((e= .normal∧J N P h')∨(e= .ret∧DJ P h')):=by
 obtain ⟨r,hr⟩:∃r:tM,r=⟨.ready,none,fn,ts,ps,asg,body,h.next⟩:=⟨_,rfl⟩
 rw [←hr] at h0
 have F:FO fns orc (h.next+1) A (fun n=>InK h ⟨.ready,none,fn,ts,ps,asg,body,h.next⟩ (J n)) (InK h ⟨.done,some .ret,fn,ts,ps,asg,body,h.next⟩ DJ):=⟨fun n=>InK.keeps (KJ n),InK.keeps KD,hR⟩
 have gr:=tJ h r
 obtain ⟨h3,⟨n1,e1⟩,k3,hID⟩:=Y (qA h r) (h.next+1) _ _ (wB gr hP) (fun i q=>Nat.lt_of_lt_of_le (hP i q) gr.next) F
  ⟨by rw [vO];exact Nat.le_refl _,A6 h r,by rw [A7,hr],fun q=>absurd (hP _ q) om,fun q=>absurd (hP _ q) om,h0⟩
 rcases hID with ⟨le,mk,lp,_,_,hJ⟩|⟨le,mk,lp,_,_,hJ⟩
 ·refine ⟨h3.set (h.next+1) (.loop ⟨.exhausted,none,fn,ts,ps,asg,body,h.next⟩),.normal,⟨n1,fun m hm=> ?_⟩,by simpa using le,(aE _ _ _ _ om om).trans mk,.inl ⟨rfl,sJ _ _ _ _ hJ om⟩⟩
  have e1' :=e1 m hm
  have hlo:jG h3 (h.next+1)= .ok ⟨.ready,none,fn,ts,ps,asg,body,h.next⟩:=by simp only [jG,lp]
  rw [hr] at e1'
  unfold qA at e1'
  simp -implicitDefEqProofs only [zX,rfA,yC,aM,yD,hf,List.nil_append,aD.aJ,e1',tD,hlo,wE]
 ·refine ⟨h3.set (h.next+1) (.loop ⟨.exhausted,some .ret,fn,ts,ps,asg,body,h.next⟩),.ret,⟨n1,fun m hm=> ?_⟩,by simpa using le,(aE _ _ _ _ om om).trans mk,.inr ⟨rfl,sD _ _ _ hJ om⟩⟩
  have e1' :=e1 m hm
  have hlo:jG h3 (h.next+1)= .ok ⟨.done,some .ret,fn,ts,ps,asg,body,h.next⟩:=by simp only [jG,lp]
  rw [hr] at e1'
  unfold qA at e1'
  simp -implicitDefEqProofs only [zX,rfA,yC,aM,yD,hf,List.nil_append,aD.aJ,e1',tD,hlo,wE]
end Go.Gn
namespace Go.Gn
open Go Go.Am Go.Fs
variable {fns:Go.Am.F} {orc:Orc}
inductive Ends:Am.Exit→Option (List pQ)→Prop
 |normal:Ends .normal none
 |ret:Ends .ret none
 |panic (ch:List pQ):Ends (.panic ch) (some ch)
theorem Ev.Hq {f:FuncId} {afn:AFn} {args:List AV} {rc:RC} {h:aD} {a:Ans} {x:Am.Exit} {s:St} {mode:Option (List pQ)} (hf:fns f=some afn) (ho:orc f=none)
  (hb:∃n,∀m,n≤m→cG (eval fns orc m) f none afn.body ⟨eO 0 args,[],rc,h⟩= .ok (.code x s)) (hx:Ends x mode) (hu:Ev fns orc (.unwind f mode s) a):Ev fns orc (.call f args rc h) a:=by
 obtain ⟨n,hb⟩:=hb
 obtain ⟨n2,hu⟩:=hu
 refine ⟨n+n2+2,fun m hm=> ?_⟩
 obtain ⟨k,rfl⟩:∃k,m=k+2:=⟨m -2,by omega⟩
 have hk:=hb k om
 show Bx fns orc (eval fns orc (k+1)) f args rc h= .ok a
 unfold Bx
 rw [ho]
 unfold IB
 simp only [hf]
 show (cG (eval fns orc k) f none afn.body ⟨eO 0 args,[],rc,h⟩).bind (C8 (eval fns orc (k+1)) f)= .ok a
 rw [hk]
 cases hx<;>exact hu (k+1) om
theorem Ev.D6 {f:FuncId} {mode:Option (List pQ)} {ts:fN} {ds:List vM} {rc:RC} {h:aD} {b:Nat} {a:Ans} (hb:h.get b=some (.deferred (some []))) (hu:Ev fns orc (.unwind f mode ⟨ts,ds,rc,h.set b (.deferred none)⟩) a):
  Ev fns orc (.unwind f mode ⟨ts,.collected b::ds,rc,h⟩) a:=by
 obtain ⟨n,hu⟩:=hu
 refine ⟨n+1,fun m hm=> ?_⟩
 obtain ⟨k,rfl⟩:∃k,m=k+1:=⟨m -1,by omega⟩
 show Bw (eval fns orc k) f mode ⟨ts,.collected b::ds,rc,h⟩ b ds=_
 simp only [Bw,hb]
 exact hu k om
theorem Ev.Mu {f g:FuncId} {args:List AV} {ts:fN} {ds:List vM} {rc:RC} {h h' :aD} {v:AV} {a:Ans} (hc:Ev fns orc (.call g args .ret h) (.call (.ret v) .ret h')) (hu:Ev fns orc (.unwind f none ⟨ts,ds,rc,h'⟩) a):
  Ev fns orc (.unwind f none ⟨ts,.call g args::ds,rc,h⟩) a:=by
 obtain ⟨n,hc⟩:=hc
 obtain ⟨n2,hu⟩:=hu
 refine ⟨n+n2+1,fun m hm=> ?_⟩
 obtain ⟨k,rfl⟩:∃k,m=k+1:=⟨m -1,by omega⟩
 show (eval fns orc k (.call g args (M8 none) h)).bind (zC (eval fns orc k) f none ts ds rc)=_
 show (eval fns orc k (.call g args .ret h)).bind (zC (eval fns orc k) f none ts ds rc)=_
 rw [hc k om]
 exact hu k om
theorem Ev.Rk {f g:FuncId} {args:List AV} {ch:List pQ} {ts:fN} {ds:List vM} {rc:RC} {h h' :aD} {v w:AV} {Eh:List pQ} {a:Ans} (hc:Ev fns orc (.call g args (.pan ch) h) (.call (.ret v) (.pan ({v:=w,recovered:=true}::Eh)) h')) (hu:Ev fns orc (.unwind f none ⟨ts,ds,rc,h'⟩) a):
  Ev fns orc (.unwind f (some ch) ⟨ts,.call g args::ds,rc,h⟩) a:=by
 obtain ⟨n,hc⟩:=hc
 obtain ⟨n2,hu⟩:=hu
 refine ⟨n+n2+1,fun m hm=> ?_⟩
 obtain ⟨k,rfl⟩:∃k,m=k+1:=⟨m -1,by omega⟩
 show (eval fns orc k (.call g args (.pan ch) h)).bind (zC (eval fns orc k) f (some ch) ts ds rc)=_
 rw [hc k om]
 exact hu k om
theorem Ev.Mv {f:FuncId} {afn:AFn} {ts:fN} {rc:RC} {h:aD} {l:List AV} (hf:fns f=some afn) (hr:eH h ts afn.results= .ok l):Ev fns orc (.unwind f none ⟨ts,[],rc,h⟩) (.call (.ret (oneOf l)) rc h):=by
 refine ⟨1,fun m hm=> ?_⟩
 obtain ⟨k,rfl⟩:∃k,m=k+1:=⟨m -1,by omega⟩
 show Hf fns f none ⟨ts,[],rc,h⟩=_
 simp only [Hf,hf,hr,aM]
end Go.Gn
end

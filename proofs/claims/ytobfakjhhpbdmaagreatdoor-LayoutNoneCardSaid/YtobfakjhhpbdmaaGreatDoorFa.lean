/-
  FUNCTIONS IN THE ABSTRACT MACHINE's CODE: printed by wip/am/PrintAm.lean.
-/
import Derived.Test.YtobfakjhhpbdmaaGreatDoorAmBase
namespace Go.Proofs.YtobfakjhhpbdmaaGreatDoor
open Go Go.Am
noncomputable def a3 : AFn := { ntmps := 141, results := [.tmp 6], body :=
  (.seq (.reg [⟨(some 6), .mov (.c (.bool false)), none⟩] (some [0, 1, 2]))
  (.seq (.reg [⟨(some 24), .o3 (.build [.nilsl, .nilmap, .nilsl] []), none⟩,
      ⟨(some 25), .u2 .box (.t 24), none⟩,
      ⟨(some 26), .o3 (.bslice 1 [(.c .nilptr), (.t 25)]), none⟩,
      ⟨(some 7), .mov (.t 26), none⟩] (some [0, 1, 2, 7]))
  (.seq (.seq (.reg [⟨(some 8), .mov (.c (.int .i64 0)), none⟩] (some [0, 1, 2, 7, 8]))
  (.block 0
    (.loop
      (.seq (.seq (.reg [⟨(some 27), .mov (.t 8), none⟩,
          ⟨(some 28), .mov (.t 7), none⟩,
          ⟨(some 29), .u1 (.len .sl) (.t 28), none⟩,
          ⟨(some 30), .b2 (.bin .lss) (.t 27) (.t 29), none⟩] (some [0, 1, 2, 7, 8, 30]))
      (.cond (.t 30)
        .skip
        (.exit 0)))
      (.seq (.block 1
        (.seq (.reg [⟨(some 34), .mov (.t 7), none⟩,
            ⟨(some 35), .mov (.t 8), none⟩,
            ⟨(some 36), .b2 (.iaddr 1) (.t 34) (.t 35), none⟩,
            ⟨(some 37), .u1 (.load none) (.t 36), none⟩,
            ⟨(some 38), .mov (.t 0), none⟩,
            ⟨(some 39), .mov (.t 1), none⟩,
            ⟨(some 40), .call (.c (.fn 4 [] [])) [(.t 37), (.t 38), (.t 39)], none⟩,
            ⟨(some 33), .mov (.t 40), none⟩,
            ⟨(some 41), .u1 (.extract 0) (.t 33), none⟩,
            ⟨(some 42), .u1 (.extract 1) (.t 33), none⟩,
            ⟨(some 9), .o3 (.alloc [(.int .i64 0), (.int .i64 0), (.int .i64 0), (.int .i64 0), (.int .i64 0), (.int .i64 0)]), none⟩,
            ⟨none, .b2 (.store 6) (.t 9) (.t 41), none⟩,
            ⟨(some 10), .mov (.t 42), none⟩] (some [0, 1, 2, 7, 8, 10]))
        (.seq (.reg [⟨(some 44), .mov (.t 7), none⟩,
            ⟨(some 45), .mov (.t 8), none⟩,
            ⟨(some 46), .b2 (.iaddr 1) (.t 44) (.t 45), none⟩,
            ⟨(some 47), .u1 (.load none) (.t 46), none⟩,
            ⟨(some 48), .mov (.t 0), none⟩,
            ⟨(some 49), .mov (.t 1), none⟩,
            ⟨(some 50), .call (.c (.fn 5 [] [])) [(.t 47), (.t 48), (.t 49)], none⟩,
            ⟨(some 43), .mov (.t 50), none⟩,
            ⟨(some 51), .u1 (.extract 0) (.t 43), none⟩,
            ⟨(some 52), .u1 (.extract 1) (.t 43), none⟩,
            ⟨(some 11), .o3 (.alloc [(.int .i64 0), (.int .i64 0), (.int .i64 0), (.int .i64 0), (.int .i64 0), (.int .i64 0)]), none⟩,
            ⟨none, .b2 (.store 6) (.t 11) (.t 51), none⟩,
            ⟨(some 12), .mov (.t 52), none⟩] (some [0, 1, 2, 7, 8, 10, 12]))
        (.seq (.reg [⟨(some 54), .mov (.t 7), none⟩,
            ⟨(some 55), .mov (.t 8), none⟩,
            ⟨(some 56), .b2 (.iaddr 1) (.t 54) (.t 55), none⟩,
            ⟨(some 57), .u1 (.load none) (.t 56), none⟩,
            ⟨(some 58), .mov (.t 0), none⟩,
            ⟨(some 59), .mov (.t 1), none⟩,
            ⟨(some 60), .call (.c (.fn 6 [] [])) [(.t 57), (.t 58), (.t 59)], none⟩,
            ⟨(some 53), .mov (.t 60), none⟩,
            ⟨(some 61), .u1 (.extract 0) (.t 53), none⟩,
            ⟨(some 62), .u1 (.extract 1) (.t 53), none⟩,
            ⟨(some 13), .mov (.t 61), none⟩,
            ⟨(some 14), .mov (.t 62), none⟩] (some [0, 1, 2, 7, 8, 10, 12, 14]))
        (.seq (.reg [⟨(some 64), .mov (.t 7), none⟩,
            ⟨(some 65), .mov (.t 8), none⟩,
            ⟨(some 66), .b2 (.iaddr 1) (.t 64) (.t 65), none⟩,
            ⟨(some 67), .u1 (.load none) (.t 66), none⟩,
            ⟨(some 68), .mov (.t 0), none⟩,
            ⟨(some 69), .mov (.t 1), none⟩,
            ⟨(some 70), .call (.c (.fn 7 [] [])) [(.t 67), (.t 68), (.t 69)], none⟩,
            ⟨(some 63), .mov (.t 70), none⟩,
            ⟨(some 71), .u1 (.extract 0) (.t 63), none⟩,
            ⟨(some 72), .u1 (.extract 1) (.t 63), none⟩,
            ⟨(some 73), .u1 (.extract 2) (.t 63), none⟩,
            ⟨(some 15), .mov (.t 71), none⟩,
            ⟨(some 16), .mov (.t 72), none⟩,
            ⟨(some 17), .mov (.t 73), none⟩] (some [0, 1, 2, 7, 8, 10, 12, 14, 17]))
        (.seq (.reg [⟨(some 75), .mov (.t 7), none⟩,
            ⟨(some 76), .mov (.t 8), none⟩,
            ⟨(some 77), .b2 (.iaddr 1) (.t 75) (.t 76), none⟩,
            ⟨(some 78), .u1 (.load none) (.t 77), none⟩,
            ⟨(some 79), .mov (.t 0), none⟩,
            ⟨(some 80), .mov (.t 1), none⟩,
            ⟨(some 81), .call (.c (.fn 8 [] [])) [(.t 78), (.t 79), (.t 80)], none⟩,
            ⟨(some 74), .mov (.t 81), none⟩,
            ⟨(some 82), .u1 (.extract 0) (.t 74), none⟩,
            ⟨(some 83), .u1 (.extract 1) (.t 74), none⟩,
            ⟨(some 18), .o3 (.alloc [(.str []), (.int .i64 0), (.int .i64 0), (.int .i64 0), (.int .i64 0)]), none⟩,
            ⟨none, .b2 (.store 5) (.t 18) (.t 82), none⟩,
            ⟨(some 19), .mov (.t 83), none⟩] (some [0, 1, 2, 7, 8, 10, 12, 14, 17, 19]))
        (.seq (.reg [⟨(some 85), .mov (.t 7), none⟩,
            ⟨(some 86), .mov (.t 8), none⟩,
            ⟨(some 87), .b2 (.iaddr 1) (.t 85) (.t 86), none⟩,
            ⟨(some 88), .u1 (.load none) (.t 87), none⟩,
            ⟨(some 89), .mov (.t 0), none⟩,
            ⟨(some 90), .mov (.t 2), none⟩,
            ⟨(some 91), .call (.c (.fn 9 [] [])) [(.t 88), (.t 89), (.t 90)], none⟩,
            ⟨(some 84), .mov (.t 91), none⟩,
            ⟨(some 92), .u1 (.extract 0) (.t 84), none⟩,
            ⟨(some 93), .u1 (.extract 1) (.t 84), none⟩,
            ⟨(some 20), .mov (.t 92), none⟩,
            ⟨(some 21), .mov (.t 93), none⟩] (some [0, 1, 2, 7, 8, 10, 12, 14, 17, 19, 21]))
        (.seq (.reg [⟨(some 95), .mov (.t 7), none⟩,
            ⟨(some 96), .mov (.t 8), none⟩,
            ⟨(some 97), .b2 (.iaddr 1) (.t 95) (.t 96), none⟩,
            ⟨(some 98), .u1 (.load none) (.t 97), none⟩,
            ⟨(some 99), .mov (.t 0), none⟩,
            ⟨(some 100), .mov (.t 2), none⟩,
            ⟨(some 101), .mov (.t 2), none⟩,
            ⟨(some 102), .call (.c (.fn 10 [] [])) [(.t 98), (.t 99), (.t 100), (.t 101)], none⟩,
            ⟨(some 94), .mov (.t 102), none⟩,
            ⟨(some 103), .u1 (.extract 0) (.t 94), none⟩,
            ⟨(some 104), .u1 (.extract 1) (.t 94), none⟩,
            ⟨(some 22), .mov (.t 103), none⟩,
            ⟨(some 23), .mov (.t 104), none⟩] (some [0, 1, 2, 7, 8, 10, 12, 14, 17, 19, 21, 23]))
        (.seq (.reg [⟨(some 105), .mov (.t 7), none⟩,
            ⟨(some 106), .mov (.t 8), none⟩,
            ⟨(some 107), .b2 (.iaddr 1) (.t 105) (.t 106), none⟩,
            ⟨(some 108), .u1 (.load none) (.t 107), none⟩,
            ⟨(some 109), .call (.c (.fn 11 [] [])) [(.t 108)], none⟩,
            ⟨(some 110), .u1 (.len .sl) (.t 109), none⟩,
            ⟨(some 111), .b2 (.bin .gtr) (.t 110) (.c (.int .i64 0)), none⟩,
            ⟨(some 112), .mov (.t 111), none⟩,
            ⟨(some 113), .mov (.t 10), (some (112, false))⟩,
            ⟨(some 114), .b2 (.eq true (.simple .int)) (.t 113) (.c (.int .i64 1)), (some (112, false))⟩,
            ⟨(some 115), .o3 (.pick (.t 112) (.c (.bool true)) (.t 114)), none⟩,
            ⟨(some 116), .mov (.t 115), none⟩,
            ⟨(some 117), .mov (.t 12), (some (116, false))⟩,
            ⟨(some 118), .b2 (.eq true (.simple .int)) (.t 117) (.c (.int .i64 1)), (some (116, false))⟩,
            ⟨(some 119), .o3 (.pick (.t 116) (.c (.bool true)) (.t 118)), none⟩,
            ⟨(some 120), .mov (.t 119), none⟩,
            ⟨(some 121), .mov (.t 14), (some (120, false))⟩,
            ⟨(some 122), .b2 (.eq true (.simple .int)) (.t 121) (.c (.int .i64 1)), (some (120, false))⟩,
            ⟨(some 123), .o3 (.pick (.t 120) (.c (.bool true)) (.t 122)), none⟩,
            ⟨(some 124), .mov (.t 123), none⟩,
            ⟨(some 125), .mov (.t 17), (some (124, false))⟩,
            ⟨(some 126), .b2 (.eq true (.simple .int)) (.t 125) (.c (.int .i64 1)), (some (124, false))⟩,
            ⟨(some 127), .o3 (.pick (.t 124) (.c (.bool true)) (.t 126)), none⟩,
            ⟨(some 128), .mov (.t 127), none⟩,
            ⟨(some 129), .mov (.t 19), (some (128, false))⟩,
            ⟨(some 130), .b2 (.eq true (.simple .int)) (.t 129) (.c (.int .i64 1)), (some (128, false))⟩,
            ⟨(some 131), .o3 (.pick (.t 128) (.c (.bool true)) (.t 130)), none⟩,
            ⟨(some 132), .mov (.t 131), none⟩,
            ⟨(some 133), .mov (.t 21), (some (132, false))⟩,
            ⟨(some 134), .b2 (.eq true (.simple .int)) (.t 133) (.c (.int .i64 1)), (some (132, false))⟩,
            ⟨(some 135), .o3 (.pick (.t 132) (.c (.bool true)) (.t 134)), none⟩,
            ⟨(some 136), .mov (.t 135), none⟩,
            ⟨(some 137), .mov (.t 23), (some (136, false))⟩,
            ⟨(some 138), .b2 (.eq true (.simple .int)) (.t 137) (.c (.int .i64 1)), (some (136, false))⟩,
            ⟨(some 139), .o3 (.pick (.t 136) (.c (.bool true)) (.t 138)), none⟩] (some [0, 1, 2, 7, 8, 139]))
        (.cond (.t 139)
          (.seq (.reg [⟨(some 6), .mov (.c (.bool false)), none⟩] (some [6]))
          .ret)
          .skip))))))))))
      (.reg [⟨(some 31), .mov (.t 8), none⟩,
          ⟨(some 32), .b2 (.bin .add) (.t 31) (.c (.int .i64 1)), none⟩,
          ⟨(some 8), .mov (.t 32), none⟩] (some [0, 1, 2, 7, 8])))))))
  (.seq (.reg [⟨(some 140), .call (.c (.fn 12 [] [])) [], none⟩,
      ⟨(some 6), .mov (.t 140), none⟩] (some [6]))
  .ret)))) }
noncomputable def a4 : AFn := { ntmps := 21, results := [.cell 6 (some 6), .tmp 7], body :=
  (.seq (.reg [⟨(some 6), .o3 (.alloc [(.int .i64 0), (.int .i64 0), (.int .i64 0), (.int .i64 0), (.int .i64 0), (.int .i64 0)]), none⟩,
      ⟨(some 7), .mov (.c (.int .i64 0)), none⟩] (some [0, 1, 2, 6]))
  (.seq (.seq (.reg [⟨(some 8), .mov (.t 0), none⟩,
      ⟨(some 9), .b2 (.eq false (.simple .ptr)) (.t 8) (.c .nilptr), none⟩] (some [0, 1, 2, 6, 9]))
  (.cond (.t 9)
    (.seq (.reg [⟨(some 10), .o3 (.build [(.int .i64 0), (.int .i64 0), (.int .i64 0), (.int .i64 0), (.int .i64 0), (.int .i64 0)] []), none⟩,
        ⟨none, .b2 (.store 6) (.t 6) (.t 10), none⟩,
        ⟨(some 7), .mov (.c (.int .i64 1)), none⟩] (some [6, 7]))
    .ret)
    .skip))
  (.seq (.reg [⟨(some 11), .mov (.t 0), none⟩,
      ⟨(some 12), .mov (.t 1), none⟩,
      ⟨(some 13), .mov (.t 2), none⟩,
      ⟨(some 14), .mov (.t 0), none⟩,
      ⟨(some 15), .u1 .nilchk (.t 14), none⟩,
      ⟨(some 16), .u1 (.faddr 0) (.t 15), none⟩,
      ⟨(some 17), .o3 (.mkFn 14 [(.t 16)] []), none⟩,
      ⟨(some 18), .call (.c (.fn 13 [] [])) [(.t 11), (.t 12), (.t 13), (.t 17)], none⟩,
      ⟨(some 19), .u1 (.extract 0) (.t 18), none⟩,
      ⟨(some 20), .u1 (.extract 1) (.t 18), none⟩,
      ⟨none, .b2 (.store 6) (.t 6) (.t 19), none⟩,
      ⟨(some 7), .mov (.t 20), none⟩] (some [6, 7]))
  .ret))) }
noncomputable def a5 : AFn := { ntmps := 21, results := [.cell 6 (some 6), .tmp 7], body :=
  (.seq (.reg [⟨(some 6), .o3 (.alloc [(.int .i64 0), (.int .i64 0), (.int .i64 0), (.int .i64 0), (.int .i64 0), (.int .i64 0)]), none⟩,
      ⟨(some 7), .mov (.c (.int .i64 0)), none⟩] (some [0, 1, 2, 6]))
  (.seq (.seq (.reg [⟨(some 8), .mov (.t 0), none⟩,
      ⟨(some 9), .b2 (.eq false (.simple .ptr)) (.t 8) (.c .nilptr), none⟩] (some [0, 1, 2, 6, 9]))
  (.cond (.t 9)
    (.seq (.reg [⟨(some 10), .o3 (.build [(.int .i64 0), (.int .i64 0), (.int .i64 0), (.int .i64 0), (.int .i64 0), (.int .i64 0)] []), none⟩,
        ⟨none, .b2 (.store 6) (.t 6) (.t 10), none⟩,
        ⟨(some 7), .mov (.c (.int .i64 1)), none⟩] (some [6, 7]))
    .ret)
    .skip))
  (.seq (.reg [⟨(some 11), .mov (.t 0), none⟩,
      ⟨(some 12), .mov (.t 1), none⟩,
      ⟨(some 13), .mov (.t 2), none⟩,
      ⟨(some 14), .mov (.t 0), none⟩,
      ⟨(some 15), .u1 .nilchk (.t 14), none⟩,
      ⟨(some 16), .u1 (.faddr 0) (.t 15), none⟩,
      ⟨(some 17), .o3 (.mkFn 15 [(.t 16)] []), none⟩,
      ⟨(some 18), .call (.c (.fn 13 [] [])) [(.t 11), (.t 12), (.t 13), (.t 17)], none⟩,
      ⟨(some 19), .u1 (.extract 0) (.t 18), none⟩,
      ⟨(some 20), .u1 (.extract 1) (.t 18), none⟩,
      ⟨none, .b2 (.store 6) (.t 6) (.t 19), none⟩,
      ⟨(some 7), .mov (.t 20), none⟩] (some [6, 7]))
  .ret))) }
noncomputable def a6 : AFn := { ntmps := 72, results := [.tmp 6, .tmp 7], body :=
  (.seq (.reg [⟨(some 6), .mov (.c (.int .i64 0)), none⟩,
      ⟨(some 7), .mov (.c (.int .i64 0)), none⟩] (some [0, 1, 2]))
  (.scope (.seq (.reg [⟨(some 16), .mov (.t 0), none⟩,
      ⟨(some 17), .mov (.t 1), none⟩,
      ⟨(some 18), .mov (.t 2), none⟩,
      ⟨(some 19), .call (.c (.fn 4 [] [])) [(.t 16), (.t 17), (.t 18)], none⟩,
      ⟨(some 15), .mov (.t 19), none⟩,
      ⟨(some 20), .u1 (.extract 0) (.t 15), none⟩,
      ⟨(some 21), .u1 (.extract 1) (.t 15), none⟩,
      ⟨(some 8), .o3 (.alloc [(.int .i64 0), (.int .i64 0), (.int .i64 0), (.int .i64 0), (.int .i64 0), (.int .i64 0)]), none⟩,
      ⟨none, .b2 (.store 6) (.t 8) (.t 20), none⟩,
      ⟨(some 9), .mov (.t 21), none⟩] (some [0, 1, 8, 9]))
  (.seq (.seq (.reg [⟨(some 22), .mov (.t 9), none⟩,
      ⟨(some 23), .b2 (.eq true (.simple .int)) (.t 22) (.c (.int .i64 0)), none⟩] (some [0, 1, 8, 9, 23]))
  (.cond (.t 23)
    (.seq (.reg [⟨(some 24), .mov (.t 9), none⟩,
        ⟨(some 6), .mov (.c (.int .i64 0)), none⟩,
        ⟨(some 7), .mov (.t 24), none⟩] (some [6, 7]))
    .ret)
    .skip))
  (.seq (.reg [⟨(some 25), .mov (.t 0), none⟩,
      ⟨(some 26), .u1 (.load (some 6)) (.t 8), none⟩,
      ⟨(some 27), .call (.c (.fn 16 [] [])) [(.t 25), (.t 26)], none⟩,
      ⟨(some 10), .mov (.t 27), none⟩] (some [0, 1, 10]))
  (.seq (.reg [⟨(some 11), .mov (.c (.int .i64 0)), none⟩] (some [0, 1, 10, 11]))
  (.seq .skip
  (.seq (.seq (.reg [⟨(some 28), .mov (.t 1), none⟩,
      ⟨(some 12), .mov (.t 28), none⟩] (some [0, 1, 10, 11, 12]))
  (.block 0
    (.loop
      (.seq (.seq (.reg [⟨(some 29), .mov (.t 12), none⟩,
          ⟨(some 30), .b2 (.bin .geq) (.t 29) (.c (.int .i64 0)), none⟩] (some [0, 1, 10, 11, 12, 30]))
      (.cond (.t 30)
        .skip
        (.exit 0)))
      (.seq (.block 1
        (.seq (.seq (.reg [⟨(some 42), .mov (.t 0), none⟩,
            ⟨(some 43), .u1 .nilchk (.t 42), none⟩,
            ⟨(some 44), .u1 (.faddr 0) (.t 43), none⟩,
            ⟨(some 45), .u1 (.faddr 0) (.t 44), none⟩,
            ⟨(some 46), .u1 (.load none) (.t 45), none⟩,
            ⟨(some 47), .mov (.t 12), none⟩,
            ⟨(some 48), .b2 (.iaddr 1) (.t 46) (.t 47), none⟩,
            ⟨(some 49), .u1 (.load none) (.t 48), none⟩,
            ⟨(some 50), .u1 .nilchk (.t 49), none⟩,
            ⟨(some 51), .u1 (.faddr 15) (.t 50), none⟩,
            ⟨(some 52), .u1 (.load none) (.t 51), none⟩,
            ⟨(some 53), .u1 (.len .sl) (.t 52), none⟩,
            ⟨(some 54), .mov (.c (.int .i64 0)), none⟩] (some [0, 1, 10, 11, 12, 52, 53, 54]))
        (.block 2
          (.loop
            (.seq (.reg [⟨(some 55), .b2 (.bin .lss) (.t 54) (.t 53), none⟩] (some [0, 1, 10, 11, 12, 52, 53, 54, 55]))
            (.seq (.cond (.t 55)
              .skip
              (.exit 2))
            (.seq (.block 3
              (.seq (.reg [⟨(some 56), .b2 (.iaddr 1) (.t 52) (.t 54), none⟩,
                  ⟨(some 57), .u1 (.load none) (.t 56), none⟩,
                  ⟨(some 14), .mov (.t 57), none⟩] (some [0, 1, 10, 11, 12, 14, 52, 53, 54]))
              (.seq (.reg [⟨(some 58), .mov (.t 14), none⟩,
                  ⟨(some 59), .mov (.t 10), none⟩,
                  ⟨(some 60), .b2 (.eq false (.simple .int)) (.t 58) (.t 59), none⟩] (some [0, 1, 10, 11, 12, 52, 53, 54, 60]))
              (.cond (.t 60)
                (.exit 0)
                .skip))))
            (.reg [⟨(some 61), .b2 (.bin .add) (.t 54) (.c (.int .i64 1)), none⟩,
                ⟨(some 54), .mov (.t 61), none⟩] (some [0, 1, 10, 11, 12, 52, 53, 54]))))))))
        (.reg [⟨(some 62), .mov (.t 11), none⟩,
            ⟨(some 63), .b2 (.bin .add) (.t 62) (.c (.int .i64 1)), none⟩,
            ⟨(some 11), .mov (.t 63), none⟩] (some [0, 1, 10, 11, 12]))))
      (.reg [⟨(some 31), .mov (.t 0), none⟩,
          ⟨(some 32), .u1 .nilchk (.t 31), none⟩,
          ⟨(some 33), .u1 (.faddr 0) (.t 32), none⟩,
          ⟨(some 34), .u1 (.faddr 0) (.t 33), none⟩,
          ⟨(some 35), .u1 (.load none) (.t 34), none⟩,
          ⟨(some 36), .mov (.t 12), none⟩,
          ⟨(some 37), .b2 (.iaddr 1) (.t 35) (.t 36), none⟩,
          ⟨(some 38), .u1 (.load none) (.t 37), none⟩,
          ⟨(some 39), .u1 .nilchk (.t 38), none⟩,
          ⟨(some 40), .u1 (.faddr 8) (.t 39), none⟩,
          ⟨(some 41), .u1 (.load none) (.t 40), none⟩,
          ⟨(some 12), .mov (.t 41), none⟩] (some [0, 1, 10, 11, 12])))))))
  (.seq (.seq (.reg [⟨(some 64), .mov (.t 0), none⟩,
      ⟨(some 65), .u1 .nilchk (.t 64), none⟩,
      ⟨(some 66), .u1 (.faddr 0) (.t 65), none⟩,
      ⟨(some 67), .mov (.t 1), none⟩,
      ⟨(some 68), .mov (.t 11), none⟩,
      ⟨(some 69), .call (.c (.fn 17 [] [])) [(.t 66), (.t 67), (.t 68)], none⟩,
      ⟨(some 70), .b2 (.bin .lss) (.t 69) (.c (.int .i64 0)), none⟩] (some [11, 70]))
  (.cond (.t 70)
    (.seq (.reg [⟨(some 6), .mov (.c (.int .i64 0)), none⟩,
        ⟨(some 7), .mov (.c (.int .i64 5)), none⟩] (some [6, 7]))
    .ret)
    .skip))
  (.seq (.reg [⟨(some 71), .mov (.t 11), none⟩,
      ⟨(some 6), .mov (.t 71), none⟩,
      ⟨(some 7), .mov (.c (.int .i64 0)), none⟩] (some [6, 7]))
  .ret)))))))))) }
noncomputable def a7 : AFn := { ntmps := 35, results := [.tmp 6, .tmp 7, .tmp 8], body :=
  (.seq (.reg [⟨(some 6), .mov (.c (.int .i64 0)), none⟩,
      ⟨(some 7), .mov (.c (.int .i64 0)), none⟩,
      ⟨(some 8), .mov (.c (.int .i64 0)), none⟩] (some [0, 1, 2]))
  (.seq (.reg [⟨(some 12), .mov (.t 0), none⟩,
      ⟨(some 13), .mov (.t 1), none⟩,
      ⟨(some 14), .mov (.t 2), none⟩,
      ⟨(some 15), .call (.c (.fn 4 [] [])) [(.t 12), (.t 13), (.t 14)], none⟩,
      ⟨(some 11), .mov (.t 15), none⟩,
      ⟨(some 16), .u1 (.extract 0) (.t 11), none⟩,
      ⟨(some 17), .u1 (.extract 1) (.t 11), none⟩,
      ⟨(some 9), .o3 (.alloc [(.int .i64 0), (.int .i64 0), (.int .i64 0), (.int .i64 0), (.int .i64 0), (.int .i64 0)]), none⟩,
      ⟨none, .b2 (.store 6) (.t 9) (.t 16), none⟩,
      ⟨(some 8), .mov (.t 17), none⟩] (some [0, 2, 8, 9]))
  (.seq (.seq (.reg [⟨(some 18), .mov (.t 8), none⟩,
      ⟨(some 19), .b2 (.eq false (.simple .int)) (.t 18) (.c (.int .i64 5)), none⟩,
      ⟨(some 20), .mov (.t 19), none⟩,
      ⟨(some 21), .mov (.t 2), (some (20, true))⟩,
      ⟨(some 22), .b2 (.eq false (.simple .str)) (.t 21) (.c (.str [111, 98, 106, 101, 99, 116])), (some (20, true))⟩,
      ⟨(some 23), .o3 (.pick (.t 20) (.t 22) (.c (.bool false))), none⟩] (some [0, 8, 9, 23]))
  (.cond (.t 23)
    (.seq (.reg [⟨(some 6), .mov (.c (.int .i64 (-1))), none⟩,
        ⟨(some 7), .mov (.c (.int .i64 0)), none⟩,
        ⟨(some 8), .mov (.c (.int .i64 0)), none⟩] (some [6, 7, 8]))
    .ret)
    .skip))
  (.seq (.seq (.reg [⟨(some 24), .mov (.t 8), none⟩,
      ⟨(some 25), .b2 (.eq true (.simple .int)) (.t 24) (.c (.int .i64 0)), none⟩] (some [0, 8, 9, 25]))
  (.cond (.t 25)
    (.seq (.reg [⟨(some 26), .mov (.t 8), none⟩,
        ⟨(some 6), .mov (.c (.int .i64 0)), none⟩,
        ⟨(some 7), .mov (.c (.int .i64 0)), none⟩,
        ⟨(some 8), .mov (.t 26), none⟩] (some [6, 7, 8]))
    .ret)
    .skip))
  (.seq (.reg [⟨(some 27), .mov (.t 0), none⟩,
      ⟨(some 28), .u1 (.load (some 6)) (.t 9), none⟩,
      ⟨(some 29), .call (.c (.fn 16 [] [])) [(.t 27), (.t 28)], none⟩,
      ⟨(some 10), .mov (.t 29), none⟩] (some [9, 10]))
  (.seq (.seq (.reg [⟨(some 30), .mov (.t 10), none⟩,
      ⟨(some 31), .b2 (.bin .lss) (.t 30) (.c (.int .i64 0)), none⟩] (some [9, 10, 31]))
  (.cond (.t 31)
    (.seq (.reg [⟨(some 6), .mov (.c (.int .i64 0)), none⟩,
        ⟨(some 7), .mov (.c (.int .i64 0)), none⟩,
        ⟨(some 8), .mov (.c (.int .i64 5)), none⟩] (some [6, 7, 8]))
    .ret)
    .skip))
  (.seq (.dreg [⟨⟨(some 32), .mov (.t 10), none⟩, .soft⟩,
      ⟨⟨(some 33), .u1 (.faddr 0) (.t 9), none⟩, .soft⟩,
      ⟨⟨(some 34), .u1 (.load none) (.t 33), none⟩, .look [0]⟩,
      ⟨⟨(some 6), .mov (.t 32), none⟩, .soft⟩,
      ⟨⟨(some 7), .mov (.t 34), none⟩, .soft⟩,
      ⟨⟨(some 8), .mov (.c (.int .i64 0)), none⟩, .soft⟩] (some [6, 7, 8]))
  .ret))))))) }
noncomputable def a8 : AFn := { ntmps := 36, results := [.cell 6 (some 5), .tmp 7], body :=
  (.seq (.reg [⟨(some 5), .u2 .box (.t 2), none⟩,
      ⟨(some 6), .o3 (.alloc [(.str []), (.int .i64 0), (.int .i64 0), (.int .i64 0), (.int .i64 0)]), none⟩,
      ⟨(some 7), .mov (.c (.int .i64 0)), none⟩] (some [0, 1, 5, 6]))
  (.seq (.seq (.reg [⟨(some 9), .mov (.t 0), none⟩,
      ⟨(some 10), .mov (.t 1), none⟩,
      ⟨(some 11), .call (.c (.fn 18 [] [])) [(.t 9), (.t 10)], none⟩,
      ⟨(some 12), .u2 (.un .not) (.t 11), none⟩] (some [0, 1, 5, 6, 12]))
  (.cond (.t 12)
    (.seq (.reg [⟨(some 13), .o3 (.build [(.str []), (.int .i64 0), (.int .i64 0), (.int .i64 0), (.int .i64 0)] []), none⟩,
        ⟨none, .b2 (.store 5) (.t 6) (.t 13), none⟩,
        ⟨(some 7), .mov (.c (.int .i64 1)), none⟩] (some [6, 7]))
    .ret)
    .skip))
  (.seq (.reg [⟨(some 14), .mov (.t 0), none⟩,
      ⟨(some 15), .u1 .nilchk (.t 14), none⟩,
      ⟨(some 16), .u1 (.faddr 2) (.t 15), none⟩,
      ⟨(some 17), .u1 (.load none) (.t 16), none⟩,
      ⟨(some 18), .mov (.t 1), none⟩,
      ⟨(some 19), .b2 (.iaddr 1) (.t 17) (.t 18), none⟩,
      ⟨(some 20), .u1 (.load none) (.t 19), none⟩,
      ⟨(some 21), .o3 (.mkFn 20 [] [(.t 5)]), none⟩,
      ⟨(some 22), .call (.c (.fn 19 [] [])) [(.t 20), (.t 21)], none⟩,
      ⟨(some 8), .mov (.t 22), none⟩] (some [0, 1, 6, 8]))
  (.seq (.seq (.reg [⟨(some 23), .mov (.t 8), none⟩,
      ⟨(some 24), .b2 (.bin .lss) (.t 23) (.c (.int .i64 0)), none⟩] (some [0, 1, 6, 8, 24]))
  (.cond (.t 24)
    (.seq (.reg [⟨(some 25), .o3 (.build [(.str []), (.int .i64 0), (.int .i64 0), (.int .i64 0), (.int .i64 0)] []), none⟩,
        ⟨none, .b2 (.store 5) (.t 6) (.t 25), none⟩,
        ⟨(some 7), .mov (.c (.int .i64 5)), none⟩] (some [6, 7]))
    .ret)
    .skip))
  (.seq (.reg [⟨(some 26), .mov (.t 0), none⟩,
      ⟨(some 27), .u1 .nilchk (.t 26), none⟩,
      ⟨(some 28), .u1 (.faddr 2) (.t 27), none⟩,
      ⟨(some 29), .u1 (.load none) (.t 28), none⟩,
      ⟨(some 30), .mov (.t 1), none⟩,
      ⟨(some 31), .b2 (.iaddr 1) (.t 29) (.t 30), none⟩,
      ⟨(some 32), .u1 (.load none) (.t 31), none⟩,
      ⟨(some 33), .mov (.t 8), none⟩,
      ⟨(some 34), .b2 (.iaddr 5) (.t 32) (.t 33), none⟩,
      ⟨(some 35), .u1 (.load (some 5)) (.t 34), none⟩,
      ⟨none, .b2 (.store 5) (.t 6) (.t 35), none⟩,
      ⟨(some 7), .mov (.c (.int .i64 0)), none⟩] (some [6, 7]))
  .ret))))) }
noncomputable def a9 : AFn := { ntmps := 24, results := [.tmp 6, .tmp 7], body :=
  (.seq (.reg [⟨(some 6), .mov (.c (.bool false)), none⟩,
      ⟨(some 7), .mov (.c (.int .i64 0)), none⟩] (some [0, 1, 2]))
  (.seq (.seq (.reg [⟨(some 8), .mov (.t 0), none⟩,
      ⟨(some 9), .mov (.t 1), none⟩,
      ⟨(some 10), .call (.c (.fn 18 [] [])) [(.t 8), (.t 9)], none⟩,
      ⟨(some 11), .u2 (.un .not) (.t 10), none⟩,
      ⟨(some 12), .mov (.t 11), none⟩,
      ⟨(some 13), .mov (.t 0), (some (12, false))⟩,
      ⟨(some 14), .mov (.t 2), (some (12, false))⟩,
      ⟨(some 15), .call (.c (.fn 18 [] [])) [(.t 13), (.t 14)], (some (12, false))⟩,
      ⟨(some 16), .u2 (.un .not) (.t 15), (some (12, false))⟩,
      ⟨(some 17), .o3 (.pick (.t 12) (.c (.bool true)) (.t 16)), none⟩] (some [0, 1, 2, 17]))
  (.cond (.t 17)
    (.seq (.reg [⟨(some 6), .mov (.c (.bool false)), none⟩,
        ⟨(some 7), .mov (.c (.int .i64 1)), none⟩] (some [6, 7]))
    .ret)
    .skip))
  (.seq (.reg [⟨(some 18), .mov (.t 0), none⟩,
      ⟨(some 19), .u1 .nilchk (.t 18), none⟩,
      ⟨(some 20), .u1 (.faddr 0) (.t 19), none⟩,
      ⟨(some 21), .mov (.t 1), none⟩,
      ⟨(some 22), .mov (.t 2), none⟩,
      ⟨(some 23), .call (.c (.fn 21 [] [])) [(.t 20), (.t 21), (.t 22)], none⟩,
      ⟨(some 6), .mov (.t 23), none⟩,
      ⟨(some 7), .mov (.c (.int .i64 0)), none⟩] (some [6, 7]))
  .ret))) }
noncomputable def a10 : AFn := { ntmps := 85, results := [.tmp 8, .tmp 9], body :=
  (.seq (.reg [⟨(some 8), .mov (.c (.int .i64 0)), none⟩,
      ⟨(some 9), .mov (.c (.int .i64 0)), none⟩] (some [0, 1, 2, 3]))
  (.seq (.seq (.reg [⟨(some 11), .mov (.t 0), none⟩,
      ⟨(some 12), .mov (.t 1), none⟩,
      ⟨(some 13), .call (.c (.fn 18 [] [])) [(.t 11), (.t 12)], none⟩,
      ⟨(some 14), .u2 (.un .not) (.t 13), none⟩,
      ⟨(some 15), .mov (.t 14), none⟩,
      ⟨(some 16), .mov (.t 2), (some (15, false))⟩,
      ⟨(some 17), .b2 (.bin .lss) (.t 16) (.c (.int .i64 0)), (some (15, false))⟩,
      ⟨(some 18), .o3 (.pick (.t 15) (.c (.bool true)) (.t 17)), none⟩,
      ⟨(some 19), .mov (.t 18), none⟩,
      ⟨(some 20), .mov (.t 2), (some (19, false))⟩,
      ⟨(some 21), .mov (.t 0), (some (19, false))⟩,
      ⟨(some 22), .u1 .nilchk (.t 21), (some (19, false))⟩,
      ⟨(some 23), .u1 (.faddr 0) (.t 22), (some (19, false))⟩,
      ⟨(some 24), .u1 (.faddr 0) (.t 23), (some (19, false))⟩,
      ⟨(some 25), .u1 (.load none) (.t 24), (some (19, false))⟩,
      ⟨(some 26), .mov (.t 1), (some (19, false))⟩,
      ⟨(some 27), .b2 (.iaddr 1) (.t 25) (.t 26), (some (19, false))⟩,
      ⟨(some 28), .u1 (.load none) (.t 27), (some (19, false))⟩,
      ⟨(some 29), .u1 .nilchk (.t 28), (some (19, false))⟩,
      ⟨(some 30), .u1 (.faddr 15) (.t 29), (some (19, false))⟩,
      ⟨(some 31), .u1 (.load none) (.t 30), (some (19, false))⟩,
      ⟨(some 32), .u1 (.len .sl) (.t 31), (some (19, false))⟩,
      ⟨(some 33), .b2 (.bin .geq) (.t 20) (.t 32), (some (19, false))⟩,
      ⟨(some 34), .o3 (.pick (.t 19) (.c (.bool true)) (.t 33)), none⟩,
      ⟨(some 35), .mov (.t 34), none⟩,
      ⟨(some 36), .mov (.t 3), (some (35, false))⟩,
      ⟨(some 37), .b2 (.bin .lss) (.t 36) (.c (.int .i64 0)), (some (35, false))⟩,
      ⟨(some 38), .o3 (.pick (.t 35) (.c (.bool true)) (.t 37)), none⟩] (some [0, 1, 2, 3, 38]))
  (.cond (.t 38)
    (.seq (.reg [⟨(some 8), .mov (.c (.int .i64 0)), none⟩,
        ⟨(some 9), .mov (.c (.int .i64 1)), none⟩] (some [8, 9]))
    .ret)
    .skip))
  (.seq (.reg [⟨(some 39), .mov (.t 2), none⟩,
      ⟨(some 40), .o3 (.build [(.int .i64 0), (.int .i64 0)] [(0, 1, (.c (.int .i64 0))), (1, 1, (.t 39))]), none⟩,
      ⟨(some 10), .o3 (.alloc [(.int .i64 0), (.int .i64 0)]), none⟩,
      ⟨none, .b2 (.store 2) (.t 10) (.t 40), none⟩] (some [0, 1, 3, 10]))
  (.seq (.seq (.reg [⟨(some 41), .mov (.t 3), none⟩,
      ⟨(some 42), .mov (.c (.int .i64 0)), none⟩] (some [0, 1, 10, 41, 42]))
  (.block 0
    (.loop
      (.seq (.reg [⟨(some 43), .b2 (.bin .lss) (.t 42) (.t 41), none⟩] (some [0, 1, 10, 41, 42, 43]))
      (.seq (.cond (.t 43)
        .skip
        (.exit 0))
      (.seq (.block 1
        (.seq (.seq (.dreg [⟨⟨(some 44), .mov (.t 0), none⟩, .soft⟩,
            ⟨⟨(some 45), .u1 .nilchk (.t 44), none⟩, .soft⟩,
            ⟨⟨(some 46), .u1 (.faddr 0) (.t 45), none⟩, .soft⟩,
            ⟨⟨(some 47), .u1 (.faddr 0) (.t 46), none⟩, .soft⟩,
            ⟨⟨(some 48), .u1 (.load none) (.t 47), none⟩, .look [0, 1]⟩,
            ⟨⟨(some 49), .mov (.t 0), none⟩, .soft⟩,
            ⟨⟨(some 50), .u1 .nilchk (.t 49), none⟩, .soft⟩,
            ⟨⟨(some 51), .u1 (.faddr 0) (.t 50), none⟩, .soft⟩,
            ⟨⟨(some 52), .u1 (.faddr 0) (.t 51), none⟩, .soft⟩,
            ⟨⟨(some 53), .u1 (.load none) (.t 52), none⟩, .look [0, 1]⟩,
            ⟨⟨(some 54), .mov (.t 0), none⟩, .soft⟩,
            ⟨⟨(some 55), .u1 .nilchk (.t 54), none⟩, .soft⟩,
            ⟨⟨(some 56), .u1 (.faddr 0) (.t 55), none⟩, .soft⟩,
            ⟨⟨(some 57), .mov (.t 1), none⟩, .soft⟩,
            ⟨⟨(some 58), .u1 (.faddr 0) (.t 10), none⟩, .soft⟩,
            ⟨⟨(some 59), .u1 (.load none) (.t 58), none⟩, .look [0]⟩,
            ⟨⟨(some 60), .call (.c (.fn 17 [] [])) [(.t 56), (.t 57), (.t 59)], none⟩, .hard false⟩,
            ⟨⟨(some 61), .b2 (.iaddr 1) (.t 53) (.t 60), none⟩, .soft⟩,
            ⟨⟨(some 62), .u1 (.load none) (.t 61), none⟩, .look [1]⟩,
            ⟨⟨(some 63), .u1 .nilchk (.t 62), none⟩, .soft⟩,
            ⟨⟨(some 64), .u1 (.faddr 15) (.t 63), none⟩, .soft⟩,
            ⟨⟨(some 65), .u1 (.load none) (.t 64), none⟩, .look [1]⟩,
            ⟨⟨(some 66), .u1 (.faddr 1) (.t 10), none⟩, .soft⟩,
            ⟨⟨(some 67), .u1 (.load none) (.t 66), none⟩, .look [0, 1]⟩,
            ⟨⟨(some 68), .b2 (.iaddr 1) (.t 65) (.t 67), none⟩, .soft⟩,
            ⟨⟨(some 69), .u1 (.load none) (.t 68), none⟩, .look [1]⟩,
            ⟨⟨(some 70), .b2 (.iaddr 1) (.t 48) (.t 69), none⟩, .soft⟩,
            ⟨⟨(some 71), .u1 (.load none) (.t 70), none⟩, .look [1]⟩,
            ⟨⟨(some 72), .u1 .nilchk (.t 71), none⟩, .soft⟩,
            ⟨⟨(some 73), .u1 (.faddr 8) (.t 72), none⟩, .soft⟩,
            ⟨⟨(some 74), .u1 (.load none) (.t 73), none⟩, .look [1]⟩,
            ⟨⟨(some 75), .b2 (.bin .lss) (.t 74) (.c (.int .i64 0)), none⟩, .soft⟩] (some [0, 1, 10, 41, 42, 75]))
        (.cond (.t 75)
          (.seq (.reg [⟨(some 8), .mov (.c (.int .i64 0)), none⟩,
              ⟨(some 9), .mov (.c (.int .i64 5)), none⟩] (some [8, 9]))
          .ret)
          .skip))
        (.dreg [⟨⟨(some 76), .mov (.t 0), none⟩, .soft⟩,
            ⟨⟨(some 77), .u1 .nilchk (.t 76), none⟩, .soft⟩,
            ⟨⟨(some 78), .u1 (.faddr 0) (.t 77), none⟩, .soft⟩,
            ⟨⟨(some 79), .mov (.t 1), none⟩, .soft⟩,
            ⟨⟨(some 80), .u1 (.load (some 2)) (.t 10), none⟩, .look [0]⟩,
            ⟨⟨(some 81), .call (.c (.fn 22 [] [])) [(.t 78), (.t 79), (.t 80)], none⟩, .hard true⟩,
            ⟨⟨none, .b2 (.store 2) (.t 10) (.t 81), none⟩, .hard true⟩] (some [0, 1, 10, 41, 42]))))
      (.reg [⟨(some 82), .b2 (.bin .add) (.t 42) (.c (.int .i64 1)), none⟩,
          ⟨(some 42), .mov (.t 82), none⟩] (some [0, 1, 10, 41, 42]))))))))
  (.seq (.reg [⟨(some 83), .u1 (.faddr 0) (.t 10), none⟩,
      ⟨(some 84), .u1 (.load none) (.t 83), none⟩,
      ⟨(some 8), .mov (.t 84), none⟩,
      ⟨(some 9), .mov (.c (.int .i64 0)), none⟩] (some [8, 9]))
  .ret))))) }
noncomputable def a11 : AFn := { ntmps := 59, results := [.tmp 2], body :=
  (.seq (.reg [⟨(some 2), .mov (.c .nilsl), none⟩] (some [0]))
  (.seq (.seq (.reg [⟨(some 6), .mov (.t 0), none⟩,
      ⟨(some 7), .b2 (.eq false (.simple .ptr)) (.t 6) (.c .nilptr), none⟩] (some [0, 7]))
  (.cond (.t 7)
    (.seq (.reg [⟨(some 2), .mov (.c .nilsl), none⟩] (some [2]))
    .ret)
    .skip))
  (.seq (.reg [⟨(some 3), .mov (.c .nilsl), none⟩] (some [0, 3]))
  (.seq (.seq (.reg [⟨(some 8), .mov (.t 0), none⟩,
      ⟨(some 9), .u1 .nilchk (.t 8), none⟩,
      ⟨(some 10), .u1 (.faddr 0) (.t 9), none⟩,
      ⟨(some 11), .u1 (.faddr 0) (.t 10), none⟩,
      ⟨(some 12), .u1 (.load none) (.t 11), none⟩,
      ⟨(some 13), .u1 (.len .sl) (.t 12), none⟩,
      ⟨(some 14), .mov (.c (.int .i64 0)), none⟩] (some [0, 3, 12, 13, 14]))
  (.block 0
    (.loop
      (.seq (.reg [⟨(some 15), .b2 (.bin .lss) (.t 14) (.t 13), none⟩] (some [0, 3, 12, 13, 14, 15]))
      (.seq (.cond (.t 15)
        .skip
        (.exit 0))
      (.seq (.block 1
        (.seq (.reg [⟨(some 16), .mov (.t 14), none⟩,
            ⟨(some 17), .b2 (.iaddr 1) (.t 12) (.t 14), none⟩,
            ⟨(some 18), .u1 (.load none) (.t 17), none⟩,
            ⟨(some 4), .mov (.t 16), none⟩,
            ⟨(some 5), .mov (.t 18), none⟩] (some [0, 3, 4, 5, 12, 13, 14]))
        (.dreg [⟨⟨(some 19), .mov (.t 3), none⟩, .soft⟩,
            ⟨⟨(some 20), .mov (.t 5), none⟩, .soft⟩,
            ⟨⟨(some 21), .u1 .nilchk (.t 20), none⟩, .soft⟩,
            ⟨⟨(some 22), .u1 (.faddr 7) (.t 21), none⟩, .soft⟩,
            ⟨⟨(some 23), .u1 (.load none) (.t 22), none⟩, .look [0, 1, 2, 3]⟩,
            ⟨⟨(some 24), .mov (.t 5), none⟩, .soft⟩,
            ⟨⟨(some 25), .u1 .nilchk (.t 24), none⟩, .soft⟩,
            ⟨⟨(some 26), .u1 (.faddr 8) (.t 25), none⟩, .soft⟩,
            ⟨⟨(some 27), .u1 (.load none) (.t 26), none⟩, .look [0, 1, 2, 3]⟩,
            ⟨⟨(some 28), .mov (.t 5), none⟩, .soft⟩,
            ⟨⟨(some 29), .u1 .nilchk (.t 28), none⟩, .soft⟩,
            ⟨⟨(some 30), .u1 (.faddr 15) (.t 29), none⟩, .soft⟩,
            ⟨⟨(some 31), .u1 (.load none) (.t 30), none⟩, .look [0]⟩,
            ⟨⟨(some 32), .call (.c (.fn 23 [] [])) [(.t 31)], none⟩, .hard false⟩,
            ⟨⟨(some 33), .mov (.t 5), none⟩, .soft⟩,
            ⟨⟨(some 34), .u1 .nilchk (.t 33), none⟩, .soft⟩,
            ⟨⟨(some 35), .u1 (.faddr 16) (.t 34), none⟩, .soft⟩,
            ⟨⟨(some 36), .u1 (.load none) (.t 35), none⟩, .look [0, 1]⟩,
            ⟨⟨(some 37), .call (.c (.fn 23 [] [])) [(.t 36)], none⟩, .hard false⟩,
            ⟨⟨(some 38), .mov (.t 5), none⟩, .soft⟩,
            ⟨⟨(some 39), .u1 .nilchk (.t 38), none⟩, .soft⟩,
            ⟨⟨(some 40), .u1 (.faddr 17) (.t 39), none⟩, .soft⟩,
            ⟨⟨(some 41), .u1 (.load none) (.t 40), none⟩, .look [0, 1, 2, 3]⟩,
            ⟨⟨(some 42), .mov (.t 5), none⟩, .soft⟩,
            ⟨⟨(some 43), .u1 .nilchk (.t 42), none⟩, .soft⟩,
            ⟨⟨(some 44), .u1 (.faddr 18) (.t 43), none⟩, .soft⟩,
            ⟨⟨(some 45), .u1 (.load none) (.t 44), none⟩, .look [0, 1, 2, 3]⟩,
            ⟨⟨(some 46), .mov (.t 0), none⟩, .soft⟩,
            ⟨⟨(some 47), .u1 .nilchk (.t 46), none⟩, .soft⟩,
            ⟨⟨(some 48), .u1 (.faddr 2) (.t 47), none⟩, .soft⟩,
            ⟨⟨(some 49), .u1 (.load none) (.t 48), none⟩, .look [0, 1, 2]⟩,
            ⟨⟨(some 50), .mov (.t 4), none⟩, .soft⟩,
            ⟨⟨(some 51), .b2 (.iaddr 1) (.t 49) (.t 50), none⟩, .soft⟩,
            ⟨⟨(some 52), .u1 (.load none) (.t 51), none⟩, .look [0, 1, 2]⟩,
            ⟨⟨(some 53), .call (.c (.fn 24 [] [])) [(.t 52)], none⟩, .hard true⟩,
            ⟨⟨(some 54), .o3 (.build [(.int .i64 0), (.int .i64 0), .nilsl, .nilsl, (.int .i64 0), (.int .i64 0), .nilsl] [(0, 1, (.t 23)), (1, 1, (.t 27)), (2, 1, (.t 32)), (3, 1, (.t 37)), (4, 1, (.t 41)), (5, 1, (.t 45)), (6, 1, (.t 53))]), none⟩, .soft⟩,
            ⟨⟨(some 55), .o3 (.bslice 7 [(.t 54)]), none⟩, .soft⟩,
            ⟨⟨(some 56), .b2 (.append 7) (.t 19) (.t 55), none⟩, .hard true⟩,
            ⟨⟨(some 3), .mov (.t 56), none⟩, .soft⟩] (some [0, 3, 12, 13, 14]))))
      (.reg [⟨(some 57), .b2 (.bin .add) (.t 14) (.c (.int .i64 1)), none⟩,
          ⟨(some 14), .mov (.t 57), none⟩] (some [0, 3, 12, 13, 14]))))))))
  (.seq (.reg [⟨(some 58), .mov (.t 3), none⟩,
      ⟨(some 2), .mov (.t 58), none⟩] (some [2]))
  .ret))))) }
noncomputable def a12 : AFn := { ntmps := 178, results := [.tmp 0], body :=
  (.seq (.reg [⟨(some 0), .mov (.c (.bool false)), none⟩] (some []))
  (.seq (.reg [⟨(some 13), .call (.c (.fn 26 [] [])) [], none⟩,
      ⟨(some 14), .call (.c (.fn 25 [] [])) [(.t 13)], none⟩,
      ⟨(some 12), .mov (.t 14), none⟩,
      ⟨(some 15), .u1 (.extract 0) (.t 12), none⟩,
      ⟨(some 16), .u1 (.extract 1) (.t 12), none⟩,
      ⟨(some 1), .mov (.t 15), none⟩,
      ⟨(some 2), .mov (.t 16), none⟩] (some [1, 2]))
  (.seq (.seq (.reg [⟨(some 17), .mov (.t 2), none⟩,
      ⟨(some 18), .b2 (.eq true (.simple .int)) (.t 17) (.c (.int .i64 0)), none⟩,
      ⟨(some 19), .mov (.t 18), none⟩,
      ⟨(some 20), .mov (.t 1), (some (19, false))⟩,
      ⟨(some 21), .b2 (.eq false (.simple .ptr)) (.t 20) (.c .nilptr), (some (19, false))⟩,
      ⟨(some 22), .o3 (.pick (.t 19) (.c (.bool true)) (.t 21)), none⟩] (some [1, 22]))
  (.cond (.t 22)
    (.seq (.reg [⟨(some 0), .mov (.c (.bool false)), none⟩] (some [0]))
    .ret)
    .skip))
  (.seq (.reg [⟨(some 23), .mov (.t 1), none⟩,
      ⟨(some 24), .call (.c (.fn 11 [] [])) [(.t 23)], none⟩,
      ⟨(some 3), .mov (.t 24), none⟩] (some [1, 3]))
  (.seq (.seq (.reg [⟨(some 25), .mov (.t 3), none⟩,
      ⟨(some 26), .u1 (.len .sl) (.t 25), none⟩,
      ⟨(some 27), .b2 (.eq true (.simple .int)) (.t 26) (.c (.int .i64 5)), none⟩,
      ⟨(some 28), .mov (.t 27), none⟩,
      ⟨(some 29), .mov (.t 3), (some (28, false))⟩,
      ⟨(some 30), .b2 (.iaddr 7) (.t 29) (.c (.int .i64 4)), (some (28, false))⟩,
      ⟨(some 31), .u1 (.faddr 2) (.t 30), (some (28, false))⟩,
      ⟨(some 32), .u1 (.load none) (.t 31), (some (28, false))⟩,
      ⟨(some 33), .o3 (.bslice 1 [(.c (.int .i64 2)), (.c (.int .i64 4))]), (some (28, false))⟩,
      ⟨(some 34), .call (.c (.fn 27 [] [])) [(.t 32), (.t 33)], (some (28, false))⟩,
      ⟨(some 35), .u2 (.un .not) (.t 34), (some (28, false))⟩,
      ⟨(some 36), .o3 (.pick (.t 28) (.c (.bool true)) (.t 35)), none⟩,
      ⟨(some 37), .mov (.t 36), none⟩,
      ⟨(some 38), .mov (.t 3), (some (37, false))⟩,
      ⟨(some 39), .b2 (.iaddr 7) (.t 38) (.c (.int .i64 3)), (some (37, false))⟩,
      ⟨(some 40), .u1 (.faddr 2) (.t 39), (some (37, false))⟩,
      ⟨(some 41), .u1 (.load none) (.t 40), (some (37, false))⟩,
      ⟨(some 42), .o3 (.bslice 1 [(.c (.int .i64 1)), (.c (.int .i64 3))]), (some (37, false))⟩,
      ⟨(some 43), .call (.c (.fn 27 [] [])) [(.t 41), (.t 42)], (some (37, false))⟩,
      ⟨(some 44), .u2 (.un .not) (.t 43), (some (37, false))⟩,
      ⟨(some 45), .o3 (.pick (.t 37) (.c (.bool true)) (.t 44)), none⟩,
      ⟨(some 46), .mov (.t 45), none⟩,
      ⟨(some 47), .mov (.t 3), (some (46, false))⟩,
      ⟨(some 48), .b2 (.iaddr 7) (.t 47) (.c (.int .i64 3)), (some (46, false))⟩,
      ⟨(some 49), .u1 (.faddr 4) (.t 48), (some (46, false))⟩,
      ⟨(some 50), .u1 (.load none) (.t 49), (some (46, false))⟩,
      ⟨(some 51), .b2 (.eq true (.simple .int)) (.t 50) (.c (.int .i64 1)), (some (46, false))⟩,
      ⟨(some 52), .o3 (.pick (.t 46) (.c (.bool true)) (.t 51)), none⟩,
      ⟨(some 53), .mov (.t 52), none⟩,
      ⟨(some 54), .mov (.t 3), (some (53, false))⟩,
      ⟨(some 55), .b2 (.iaddr 7) (.t 54) (.c (.int .i64 4)), (some (53, false))⟩,
      ⟨(some 56), .u1 (.faddr 1) (.t 55), (some (53, false))⟩,
      ⟨(some 57), .u1 (.load none) (.t 56), (some (53, false))⟩,
      ⟨(some 58), .b2 (.eq true (.simple .int)) (.t 57) (.c (.int .i64 3)), (some (53, false))⟩,
      ⟨(some 59), .o3 (.pick (.t 53) (.c (.bool true)) (.t 58)), none⟩,
      ⟨(some 60), .mov (.t 59), none⟩,
      ⟨(some 61), .mov (.t 3), (some (60, false))⟩,
      ⟨(some 62), .b2 (.iaddr 7) (.t 61) (.c (.int .i64 3)), (some (60, false))⟩,
      ⟨(some 63), .u1 (.faddr 6) (.t 62), (some (60, false))⟩,
      ⟨(some 64), .u1 (.load none) (.t 63), (some (60, false))⟩,
      ⟨(some 65), .u1 (.len .sl) (.t 64), (some (60, false))⟩,
      ⟨(some 66), .b2 (.eq true (.simple .int)) (.t 65) (.c (.int .i64 1)), (some (60, false))⟩,
      ⟨(some 67), .o3 (.pick (.t 60) (.c (.bool true)) (.t 66)), none⟩,
      ⟨(some 68), .mov (.t 67), none⟩,
      ⟨(some 69), .mov (.t 3), (some (68, false))⟩,
      ⟨(some 70), .b2 (.iaddr 7) (.t 69) (.c (.int .i64 3)), (some (68, false))⟩,
      ⟨(some 71), .u1 (.faddr 6) (.t 70), (some (68, false))⟩,
      ⟨(some 72), .u1 (.load none) (.t 71), (some (68, false))⟩,
      ⟨(some 73), .b2 (.iaddr 5) (.t 72) (.c (.int .i64 0)), (some (68, false))⟩,
      ⟨(some 74), .u1 (.load (some 5)) (.t 73), (some (68, false))⟩,
      ⟨(some 75), .o3 (.build [(.str []), (.int .i64 0), (.int .i64 0), (.int .i64 0), (.int .i64 0)] [(0, 1, (.c (.str [86]))), (2, 1, (.c (.int .i64 1))), (4, 1, (.c (.int .i64 4)))]), (some (68, false))⟩,
      ⟨(some 76), .b2 (.eq true (.cells [.str, .int, .int, .int, .int])) (.t 74) (.t 75), (some (68, false))⟩,
      ⟨(some 77), .o3 (.pick (.t 68) (.c (.bool true)) (.t 76)), none⟩] (some [1, 77]))
  (.cond (.t 77)
    (.seq (.reg [⟨(some 0), .mov (.c (.bool false)), none⟩] (some [0]))
    .ret)
    .skip))
  (.seq (.reg [⟨(some 79), .mov (.t 1), none⟩,
      ⟨(some 80), .call (.c (.fn 4 [] [])) [(.t 79), (.c (.int .i64 4)), (.c (.str [122]))], none⟩,
      ⟨(some 78), .mov (.t 80), none⟩,
      ⟨(some 81), .u1 (.extract 0) (.t 78), none⟩,
      ⟨(some 82), .u1 (.extract 1) (.t 78), none⟩,
      ⟨(some 4), .o3 (.alloc [(.int .i64 0), (.int .i64 0), (.int .i64 0), (.int .i64 0), (.int .i64 0), (.int .i64 0)]), none⟩,
      ⟨none, .b2 (.store 6) (.t 4) (.t 81), none⟩,
      ⟨(some 2), .mov (.t 82), none⟩] (some [1, 2, 4]))
  (.seq (.reg [⟨(some 84), .mov (.t 1), none⟩,
      ⟨(some 85), .call (.c (.fn 4 [] [])) [(.t 84), (.c (.int .i64 4)), (.c (.str [113]))], none⟩,
      ⟨(some 83), .mov (.t 85), none⟩,
      ⟨(some 86), .u1 (.extract 0) (.t 83), none⟩,
      ⟨(some 87), .u1 (.extract 1) (.t 83), none⟩,
      ⟨(some 5), .o3 (.alloc [(.int .i64 0), (.int .i64 0), (.int .i64 0), (.int .i64 0), (.int .i64 0), (.int .i64 0)]), none⟩,
      ⟨none, .b2 (.store 6) (.t 5) (.t 86), none⟩,
      ⟨(some 6), .mov (.t 87), none⟩] (some [1, 2, 4, 5, 6]))
  (.seq (.reg [⟨(some 89), .mov (.t 1), none⟩,
      ⟨(some 90), .call (.c (.fn 4 [] [])) [(.t 89), (.c (.int .i64 4)), (.c (.str [86]))], none⟩,
      ⟨(some 88), .mov (.t 90), none⟩,
      ⟨(some 91), .u1 (.extract 0) (.t 88), none⟩,
      ⟨(some 92), .u1 (.extract 1) (.t 88), none⟩,
      ⟨(some 7), .o3 (.alloc [(.int .i64 0), (.int .i64 0), (.int .i64 0), (.int .i64 0), (.int .i64 0), (.int .i64 0)]), none⟩,
      ⟨none, .b2 (.store 6) (.t 7) (.t 91), none⟩,
      ⟨(some 8), .mov (.t 92), none⟩] (some [1, 2, 4, 5, 6, 7, 8]))
  (.seq (.reg [⟨(some 94), .mov (.t 1), none⟩,
      ⟨(some 95), .call (.c (.fn 6 [] [])) [(.t 94), (.c (.int .i64 4)), (.c (.str [80]))], none⟩,
      ⟨(some 93), .mov (.t 95), none⟩,
      ⟨(some 96), .u1 (.extract 0) (.t 93), none⟩,
      ⟨(some 97), .u1 (.extract 1) (.t 93), none⟩,
      ⟨(some 9), .mov (.t 96), none⟩,
      ⟨(some 10), .mov (.t 97), none⟩] (some [2, 4, 5, 6, 7, 8, 9, 10]))
  (.seq (.seq (.reg [⟨(some 98), .mov (.t 2), none⟩,
      ⟨(some 99), .b2 (.eq true (.simple .int)) (.t 98) (.c (.int .i64 0)), none⟩,
      ⟨(some 100), .mov (.t 99), none⟩,
      ⟨(some 101), .mov (.t 6), (some (100, false))⟩,
      ⟨(some 102), .b2 (.eq true (.simple .int)) (.t 101) (.c (.int .i64 0)), (some (100, false))⟩,
      ⟨(some 103), .o3 (.pick (.t 100) (.c (.bool true)) (.t 102)), none⟩,
      ⟨(some 104), .mov (.t 103), none⟩,
      ⟨(some 105), .mov (.t 8), (some (104, false))⟩,
      ⟨(some 106), .b2 (.eq true (.simple .int)) (.t 105) (.c (.int .i64 0)), (some (104, false))⟩,
      ⟨(some 107), .o3 (.pick (.t 104) (.c (.bool true)) (.t 106)), none⟩,
      ⟨(some 108), .mov (.t 107), none⟩,
      ⟨(some 109), .mov (.t 10), (some (108, false))⟩,
      ⟨(some 110), .b2 (.eq true (.simple .int)) (.t 109) (.c (.int .i64 0)), (some (108, false))⟩,
      ⟨(some 111), .o3 (.pick (.t 108) (.c (.bool true)) (.t 110)), none⟩,
      ⟨(some 112), .mov (.t 111), none⟩,
      ⟨(some 113), .u1 (.faddr 0) (.t 4), (some (112, false))⟩,
      ⟨(some 114), .u1 (.load none) (.t 113), (some (112, false))⟩,
      ⟨(some 115), .b2 (.eq true (.simple .int)) (.t 114) (.c (.int .i64 1)), (some (112, false))⟩,
      ⟨(some 116), .o3 (.pick (.t 112) (.c (.bool true)) (.t 115)), none⟩,
      ⟨(some 117), .mov (.t 116), none⟩,
      ⟨(some 118), .u1 (.faddr 1) (.t 4), (some (117, false))⟩,
      ⟨(some 119), .u1 (.load none) (.t 118), (some (117, false))⟩,
      ⟨(some 120), .b2 (.eq true (.simple .int)) (.t 119) (.c (.int .i64 1)), (some (117, false))⟩,
      ⟨(some 121), .o3 (.pick (.t 117) (.c (.bool true)) (.t 120)), none⟩,
      ⟨(some 122), .mov (.t 121), none⟩,
      ⟨(some 123), .u1 (.faddr 5) (.t 4), (some (122, false))⟩,
      ⟨(some 124), .u1 (.load none) (.t 123), (some (122, false))⟩,
      ⟨(some 125), .b2 (.eq true (.simple .int)) (.t 124) (.c (.int .i64 1)), (some (122, false))⟩,
      ⟨(some 126), .o3 (.pick (.t 122) (.c (.bool true)) (.t 125)), none⟩,
      ⟨(some 127), .mov (.t 126), none⟩,
      ⟨(some 128), .u1 (.faddr 0) (.t 5), (some (127, false))⟩,
      ⟨(some 129), .u1 (.load none) (.t 128), (some (127, false))⟩,
      ⟨(some 130), .b2 (.eq true (.simple .int)) (.t 129) (.c (.int .i64 2)), (some (127, false))⟩,
      ⟨(some 131), .o3 (.pick (.t 127) (.c (.bool true)) (.t 130)), none⟩,
      ⟨(some 132), .mov (.t 131), none⟩,
      ⟨(some 133), .u1 (.faddr 5) (.t 5), (some (132, false))⟩,
      ⟨(some 134), .u1 (.load none) (.t 133), (some (132, false))⟩,
      ⟨(some 135), .b2 (.eq true (.simple .int)) (.t 134) (.c (.int .i64 0)), (some (132, false))⟩,
      ⟨(some 136), .o3 (.pick (.t 132) (.c (.bool true)) (.t 135)), none⟩,
      ⟨(some 137), .mov (.t 136), none⟩,
      ⟨(some 138), .u1 (.faddr 2) (.t 7), (some (137, false))⟩,
      ⟨(some 139), .u1 (.load none) (.t 138), (some (137, false))⟩,
      ⟨(some 140), .b2 (.eq true (.simple .int)) (.t 139) (.c (.int .i64 3)), (some (137, false))⟩,
      ⟨(some 141), .o3 (.pick (.t 137) (.c (.bool true)) (.t 140)), none⟩,
      ⟨(some 142), .mov (.t 141), none⟩,
      ⟨(some 143), .u1 (.faddr 5) (.t 7), (some (142, false))⟩,
      ⟨(some 144), .u1 (.load none) (.t 143), (some (142, false))⟩,
      ⟨(some 145), .b2 (.eq true (.simple .int)) (.t 144) (.c (.int .i64 (-1))), (some (142, false))⟩,
      ⟨(some 146), .o3 (.pick (.t 142) (.c (.bool true)) (.t 145)), none⟩,
      ⟨(some 147), .mov (.t 146), none⟩,
      ⟨(some 148), .mov (.t 9), (some (147, false))⟩,
      ⟨(some 149), .b2 (.eq true (.simple .int)) (.t 148) (.c (.int .i64 1)), (some (147, false))⟩,
      ⟨(some 150), .o3 (.pick (.t 147) (.c (.bool true)) (.t 149)), none⟩] (some [150]))
  (.cond (.t 150)
    (.seq (.reg [⟨(some 0), .mov (.c (.bool false)), none⟩] (some [0]))
    .ret)
    .skip))
  (.seq (.reg [⟨(some 151), .o3 (.bslice 1 [(.c (.str [80]))]), none⟩,
      ⟨(some 152), .call (.c (.fn 28 [] [])) [(.c (.str [80]))], none⟩,
      ⟨(some 153), .o3 (.bslice 8 [(.t 152)]), none⟩,
      ⟨(some 154), .o3 (.build [(.str []), .nilsl, .nilsl, .nilsl, (.bool false), .nilsl, .nilsl] [(1, 1, (.t 153))]), none⟩,
      ⟨(some 155), .o3 (.bslice 7 [(.t 154)]), none⟩,
      ⟨(some 156), .o3 (.build [(.int .i64 0), .nilsl, .nilsl, .nilsl, .nilsl] [(0, 1, (.c (.int .i64 1))), (1, 1, (.t 151)), (4, 1, (.t 155))]), none⟩,
      ⟨(some 11), .o3 (.alloc [(.int .i64 0), .nilsl, .nilsl, .nilsl, .nilsl]), none⟩,
      ⟨none, .b2 (.store 5) (.t 11) (.t 156), none⟩] (some [11]))
  (.seq (.reg [⟨(some 158), .u1 (.load (some 5)) (.t 11), none⟩,
      ⟨(some 159), .o3 (.bslice 5 [(.t 158)]), none⟩,
      ⟨(some 160), .o3 (.build [(.str []), .nilsl, .nilsl, .nilsl, (.bool false), .nilsl, .nilsl] [(2, 1, (.t 159))]), none⟩,
      ⟨(some 161), .call (.c (.fn 25 [] [])) [(.t 160)], none⟩,
      ⟨(some 157), .mov (.t 161), none⟩,
      ⟨(some 162), .u1 (.extract 0) (.t 157), none⟩,
      ⟨(some 163), .u1 (.extract 1) (.t 157), none⟩,
      ⟨(some 2), .mov (.t 163), none⟩] (some [2]))
  (.seq (.reg [⟨(some 165), .call (.c (.fn 29 [] [])) [(.c (.str [120]))], none⟩,
      ⟨(some 166), .call (.c (.fn 29 [] [])) [(.c (.str [120]))], none⟩,
      ⟨(some 167), .o3 (.bslice 5 [(.t 165), (.t 166)]), none⟩,
      ⟨(some 168), .o3 (.build [(.str []), .nilsl, .nilsl, .nilsl, (.bool false), .nilsl, .nilsl] [(2, 1, (.t 167))]), none⟩,
      ⟨(some 169), .call (.c (.fn 25 [] [])) [(.t 168)], none⟩,
      ⟨(some 164), .mov (.t 169), none⟩,
      ⟨(some 170), .u1 (.extract 0) (.t 164), none⟩,
      ⟨(some 171), .u1 (.extract 1) (.t 164), none⟩,
      ⟨(some 6), .mov (.t 171), none⟩] (some [2, 6]))
  (.seq (.reg [⟨(some 172), .mov (.t 2), none⟩,
      ⟨(some 173), .b2 (.eq false (.simple .int)) (.t 172) (.c (.int .i64 12)), none⟩,
      ⟨(some 174), .mov (.t 173), none⟩,
      ⟨(some 175), .mov (.t 6), (some (174, true))⟩,
      ⟨(some 176), .b2 (.eq false (.simple .int)) (.t 175) (.c (.int .i64 11)), (some (174, true))⟩,
      ⟨(some 177), .o3 (.pick (.t 174) (.t 176) (.c (.bool false))), none⟩,
      ⟨(some 0), .mov (.t 177), none⟩] (some [0]))
  .ret)))))))))))))) }
noncomputable def a13 : AFn := { ntmps := 31, results := [.cell 8 (some 6), .tmp 9], body :=
  (.seq (.reg [⟨(some 8), .o3 (.alloc [(.int .i64 0), (.int .i64 0), (.int .i64 0), (.int .i64 0), (.int .i64 0), (.int .i64 0)]), none⟩,
      ⟨(some 9), .mov (.c (.int .i64 0)), none⟩] (some [0, 1, 2, 3, 8]))
  (.seq (.seq (.reg [⟨(some 12), .mov (.t 0), none⟩,
      ⟨(some 13), .mov (.t 1), none⟩,
      ⟨(some 14), .call (.c (.fn 18 [] [])) [(.t 12), (.t 13)], none⟩,
      ⟨(some 15), .u2 (.un .not) (.t 14), none⟩] (some [0, 1, 2, 3, 8, 15]))
  (.cond (.t 15)
    (.seq (.reg [⟨(some 16), .o3 (.build [(.int .i64 0), (.int .i64 0), (.int .i64 0), (.int .i64 0), (.int .i64 0), (.int .i64 0)] []), none⟩,
        ⟨none, .b2 (.store 6) (.t 8) (.t 16), none⟩,
        ⟨(some 9), .mov (.c (.int .i64 1)), none⟩] (some [8, 9]))
    .ret)
    .skip))
  (.seq (.reg [⟨(some 18), .mov (.t 3), none⟩,
      ⟨(some 19), .mov (.t 1), none⟩,
      ⟨(some 20), .mov (.t 2), none⟩,
      ⟨(some 21), .call (.t 18) [(.t 19), (.t 20)], none⟩,
      ⟨(some 17), .mov (.t 21), none⟩,
      ⟨(some 22), .u1 (.extract 0) (.t 17), none⟩,
      ⟨(some 23), .u1 (.extract 1) (.t 17), none⟩,
      ⟨(some 10), .o3 (.alloc [(.int .i64 0), (.int .i64 0), (.int .i64 0), (.int .i64 0)]), none⟩,
      ⟨none, .b2 (.store 4) (.t 10) (.t 22), none⟩,
      ⟨(some 11), .mov (.t 23), none⟩] (some [0, 1, 8, 10, 11]))
  (.seq (.seq (.reg [⟨(some 24), .mov (.t 11), none⟩,
      ⟨(some 25), .u2 (.un .not) (.t 24), none⟩] (some [0, 1, 8, 10, 25]))
  (.cond (.t 25)
    (.seq (.reg [⟨(some 26), .o3 (.build [(.int .i64 0), (.int .i64 0), (.int .i64 0), (.int .i64 0), (.int .i64 0), (.int .i64 0)] []), none⟩,
        ⟨none, .b2 (.store 6) (.t 8) (.t 26), none⟩,
        ⟨(some 9), .mov (.c (.int .i64 5)), none⟩] (some [8, 9]))
    .ret)
    .skip))
  (.seq (.reg [⟨(some 27), .mov (.t 0), none⟩,
      ⟨(some 28), .mov (.t 1), none⟩,
      ⟨(some 29), .u1 (.load (some 4)) (.t 10), none⟩,
      ⟨(some 30), .call (.c (.fn 30 [] [])) [(.t 27), (.t 28), (.t 29)], none⟩,
      ⟨none, .b2 (.store 6) (.t 8) (.t 30), none⟩,
      ⟨(some 9), .mov (.c (.int .i64 0)), none⟩] (some [8, 9]))
  .ret))))) }
noncomputable def a14 : AFn := { ntmps := 37, results := [.cell 6 (some 4), .tmp 7], body :=
  (.seq (.reg [⟨(some 6), .o3 (.alloc [(.int .i64 0), (.int .i64 0), (.int .i64 0), (.int .i64 0)]), none⟩,
      ⟨(some 7), .mov (.c (.bool false)), none⟩] (some [0, 1, 2, 6]))
  (.seq (.seq (.reg [⟨(some 8), .mov (.c (.int .i64 0)), none⟩] (some [0, 1, 2, 6, 8]))
  (.block 0
    (.loop
      (.seq (.seq (.reg [⟨(some 11), .mov (.t 1), none⟩,
          ⟨(some 12), .b2 (.bin .geq) (.t 11) (.c (.int .i64 0)), none⟩] (some [0, 1, 2, 6, 8, 12]))
      (.cond (.t 12)
        .skip
        (.exit 0)))
      (.seq (.block 1
        (.seq (.seq (.reg [⟨(some 16), .mov (.t 0), none⟩,
            ⟨(some 17), .mov (.t 1), none⟩,
            ⟨(some 18), .mov (.t 2), none⟩,
            ⟨(some 19), .call (.c (.fn 15 [] [])) [(.t 16), (.t 17), (.t 18)], none⟩,
            ⟨(some 15), .mov (.t 19), none⟩,
            ⟨(some 20), .u1 (.extract 0) (.t 15), none⟩,
            ⟨(some 21), .u1 (.extract 1) (.t 15), none⟩,
            ⟨(some 9), .o3 (.alloc [(.int .i64 0), (.int .i64 0), (.int .i64 0), (.int .i64 0)]), none⟩,
            ⟨none, .b2 (.store 4) (.t 9) (.t 20), none⟩,
            ⟨(some 10), .mov (.t 21), none⟩] (some [0, 1, 2, 6, 8, 9, 10]))
        (.seq (.reg [⟨(some 22), .mov (.t 10), none⟩] (some [0, 1, 2, 6, 8, 9, 22]))
        (.cond (.t 22)
          (.seq (.reg [⟨(some 23), .mov (.t 8), none⟩,
              ⟨(some 24), .u1 (.faddr 0) (.t 9), none⟩,
              ⟨none, .b2 (.store 1) (.t 24) (.t 23), none⟩] (some [6, 9]))
          (.seq (.reg [⟨(some 25), .u1 (.load (some 4)) (.t 9), none⟩,
              ⟨none, .b2 (.store 4) (.t 6) (.t 25), none⟩,
              ⟨(some 7), .mov (.c (.bool true)), none⟩] (some [6, 7]))
          .ret))
          .skip)))
        (.reg [⟨(some 26), .mov (.t 0), none⟩,
            ⟨(some 27), .u1 .nilchk (.t 26), none⟩,
            ⟨(some 28), .u1 (.faddr 0) (.t 27), none⟩,
            ⟨(some 29), .u1 (.load none) (.t 28), none⟩,
            ⟨(some 30), .mov (.t 1), none⟩,
            ⟨(some 31), .b2 (.iaddr 1) (.t 29) (.t 30), none⟩,
            ⟨(some 32), .u1 (.load none) (.t 31), none⟩,
            ⟨(some 33), .u1 .nilchk (.t 32), none⟩,
            ⟨(some 34), .u1 (.faddr 8) (.t 33), none⟩,
            ⟨(some 35), .u1 (.load none) (.t 34), none⟩,
            ⟨(some 1), .mov (.t 35), none⟩] (some [0, 1, 2, 6, 8]))))
      (.reg [⟨(some 13), .mov (.t 8), none⟩,
          ⟨(some 14), .b2 (.bin .add) (.t 13) (.c (.int .i64 1)), none⟩,
          ⟨(some 8), .mov (.t 14), none⟩] (some [0, 1, 2, 6, 8])))))))
  (.seq (.reg [⟨(some 36), .o3 (.build [(.int .i64 0), (.int .i64 0), (.int .i64 0), (.int .i64 0)] []), none⟩,
      ⟨none, .b2 (.store 4) (.t 6) (.t 36), none⟩,
      ⟨(some 7), .mov (.c (.bool false)), none⟩] (some [6, 7]))
  .ret))) }
noncomputable def a15 : AFn := { ntmps := 38, results := [.cell 6 (some 4), .cell 7 none], body :=
  (.seq (.reg [⟨(some 3), .u2 .box (.t 0), none⟩,
      ⟨(some 5), .u2 .box (.t 2), none⟩,
      ⟨(some 6), .o3 (.alloc [(.int .i64 0), (.int .i64 0), (.int .i64 0), (.int .i64 0)]), none⟩,
      ⟨(some 7), .o3 (.alloc [(.bool false)]), none⟩] (some [1, 3, 5, 6, 7, 19, 20]))
  (.seq (.seq (.reg [⟨(some 12), .u1 (.load none) (.t 3), none⟩,
      ⟨(some 13), .mov (.t 1), none⟩,
      ⟨(some 14), .call (.c (.fn 32 [] [])) [(.t 12), (.t 13)], none⟩,
      ⟨(some 15), .u1 .nilchk (.t 14), none⟩,
      ⟨(some 16), .u1 (.faddr 15) (.t 15), none⟩,
      ⟨(some 17), .u1 (.load none) (.t 16), none⟩,
      ⟨(some 18), .call (.c (.fn 31 [] [])) [(.t 17)], none⟩] (some [3, 5, 6, 7, 18, 19, 20]))
  (.block 0
    (.rf (.t 18) [19, 20]
      (.seq (.reg [⟨(some 8), .mov (.t 19), none⟩] (some [3, 5, 6, 7, 8, 20]))
      (.reg [⟨(some 9), .mov (.t 20), none⟩] (some [3, 5, 6, 7, 8, 9])))
      (.block 1
        (.seq (.dreg [⟨⟨(some 22), .u1 (.load none) (.t 3), none⟩, .look [0]⟩,
            ⟨⟨(some 23), .u1 .nilchk (.t 22), none⟩, .soft⟩,
            ⟨⟨(some 24), .u1 (.faddr 0) (.t 23), none⟩, .soft⟩,
            ⟨⟨(some 25), .u1 (.load none) (.t 24), none⟩, .look [0]⟩,
            ⟨⟨(some 26), .mov (.t 9), none⟩, .soft⟩,
            ⟨⟨(some 27), .b2 (.iaddr 1) (.t 25) (.t 26), none⟩, .soft⟩,
            ⟨⟨(some 28), .u1 (.load none) (.t 27), none⟩, .look [0]⟩,
            ⟨⟨(some 29), .u1 (.load none) (.t 5), none⟩, .look [0]⟩,
            ⟨⟨(some 30), .call (.c (.fn 33 [] [])) [(.t 28), (.t 29)], none⟩, .hard false⟩,
            ⟨⟨(some 21), .mov (.t 30), none⟩, .soft⟩,
            ⟨⟨(some 31), .u1 (.extract 0) (.t 21), none⟩, .soft⟩,
            ⟨⟨(some 32), .u1 (.extract 1) (.t 21), none⟩, .soft⟩,
            ⟨⟨(some 10), .o3 (.alloc [(.int .i64 0), (.int .i64 0), (.int .i64 0), (.int .i64 0)]), none⟩, .pre [(.int .i64 0), (.int .i64 0), (.int .i64 0), (.int .i64 0)] [0, 1]⟩,
            ⟨⟨none, .b2 (.store 4) (.t 10) (.t 31), none⟩, .hard true⟩,
            ⟨⟨(some 11), .mov (.t 32), none⟩, .soft⟩] (some [6, 7, 8, 10, 11]))
        (.seq (.reg [⟨(some 33), .mov (.t 11), none⟩] (some [6, 7, 8, 10, 33]))
        (.cond (.t 33)
          (.seq (.reg [⟨(some 34), .mov (.t 8), none⟩,
              ⟨(some 35), .u1 (.faddr 1) (.t 10), none⟩,
              ⟨none, .b2 (.store 1) (.t 35) (.t 34), none⟩] (some [6, 7, 10]))
          (.seq (.reg [⟨(some 36), .u1 (.load (some 4)) (.t 10), none⟩,
              ⟨none, .b2 (.store 4) (.t 6) (.t 36), none⟩,
              ⟨none, .b2 (.store 1) (.t 7) (.c (.bool true)), none⟩] (some [6, 7]))
          .ret))
          .skip)))))))
  (.seq (.reg [⟨(some 37), .o3 (.build [(.int .i64 0), (.int .i64 0), (.int .i64 0), (.int .i64 0)] []), none⟩,
      ⟨none, .b2 (.store 4) (.t 6) (.t 37), none⟩,
      ⟨none, .b2 (.store 1) (.t 7) (.c (.bool false)), none⟩] (some [6, 7]))
  .ret))) }
noncomputable def a16 : AFn := { ntmps := 35, results := [.tmp 4], body :=
  (.seq (.reg [⟨(some 3), .u2 .box (.t 1), none⟩,
      ⟨(some 4), .mov (.c (.int .i64 0)), none⟩] (some [0, 3]))
  (.seq (.seq (.dreg [⟨⟨(some 5), .mov (.t 0), none⟩, .soft⟩,
      ⟨⟨(some 6), .u1 .nilchk (.t 5), none⟩, .soft⟩,
      ⟨⟨(some 7), .u1 (.faddr 0) (.t 6), none⟩, .soft⟩,
      ⟨⟨(some 8), .u1 (.faddr 0) (.t 7), none⟩, .soft⟩,
      ⟨⟨(some 9), .u1 (.load none) (.t 8), none⟩, .look [0]⟩,
      ⟨⟨(some 10), .u1 (.faddr 2) (.t 3), none⟩, .soft⟩,
      ⟨⟨(some 11), .u1 (.load none) (.t 10), none⟩, .look [0]⟩,
      ⟨⟨(some 12), .b2 (.iaddr 1) (.t 9) (.t 11), none⟩, .soft⟩,
      ⟨⟨(some 13), .u1 (.load none) (.t 12), none⟩, .look [0]⟩,
      ⟨⟨(some 14), .u1 .nilchk (.t 13), none⟩, .soft⟩,
      ⟨⟨(some 15), .u1 (.faddr 0) (.t 14), none⟩, .soft⟩,
      ⟨⟨(some 16), .u1 (.faddr 2) (.t 15), none⟩, .soft⟩,
      ⟨⟨(some 17), .u1 (.load none) (.t 16), none⟩, .look [0]⟩,
      ⟨⟨(some 18), .u1 (.faddr 3) (.t 3), none⟩, .soft⟩,
      ⟨⟨(some 19), .u1 (.load none) (.t 18), none⟩, .look [0]⟩,
      ⟨⟨(some 20), .b2 (.iaddr 5) (.t 17) (.t 19), none⟩, .soft⟩,
      ⟨⟨(some 21), .u1 (.faddr 0) (.t 20), none⟩, .soft⟩,
      ⟨⟨(some 22), .u1 (.load none) (.t 21), none⟩, .look [0]⟩,
      ⟨⟨(some 23), .b2 (.eq true (.simple .int)) (.t 22) (.c (.int .i64 1)), none⟩, .soft⟩] (some [0, 3, 23]))
  (.cond (.t 23)
    (.seq (.reg [⟨(some 4), .mov (.c (.int .i64 (-1))), none⟩] (some [4]))
    .ret)
    .skip))
  (.seq (.dreg [⟨⟨(some 24), .mov (.t 0), none⟩, .soft⟩,
      ⟨⟨(some 25), .u1 .nilchk (.t 24), none⟩, .soft⟩,
      ⟨⟨(some 26), .u1 (.faddr 0) (.t 25), none⟩, .soft⟩,
      ⟨⟨(some 27), .u1 (.faddr 1) (.t 26), none⟩, .soft⟩,
      ⟨⟨(some 28), .u1 (.load none) (.t 27), none⟩, .look [0]⟩,
      ⟨⟨(some 29), .u1 (.faddr 2) (.t 3), none⟩, .soft⟩,
      ⟨⟨(some 30), .u1 (.load none) (.t 29), none⟩, .look [0]⟩,
      ⟨⟨(some 31), .u1 (.faddr 3) (.t 3), none⟩, .soft⟩,
      ⟨⟨(some 32), .u1 (.load none) (.t 31), none⟩, .look [0]⟩,
      ⟨⟨(some 33), .o3 (.build [(.int .i64 0), (.int .i64 0)] [(0, 1, (.t 30)), (1, 1, (.t 32))]), none⟩, .soft⟩,
      ⟨⟨(some 34), .b2 (.lookup (.cells [.int, .int]) (.int .i64 0) false) (.t 28) (.t 33), none⟩, .look [0]⟩,
      ⟨⟨(some 4), .mov (.t 34), none⟩, .soft⟩] (some [4]))
  .ret))) }
noncomputable def a17 : AFn := { ntmps := 24, results := [.tmp 6], body :=
  (.seq (.reg [⟨(some 6), .mov (.c (.int .i64 0)), none⟩] (some [0, 1, 2]))
  (.seq (.seq (.reg [⟨(some 7), .mov (.t 2), none⟩,
      ⟨(some 8), .mov (.c (.int .i64 0)), none⟩] (some [0, 1, 7, 8]))
  (.block 0
    (.loop
      (.seq (.reg [⟨(some 9), .b2 (.bin .lss) (.t 8) (.t 7), none⟩] (some [0, 1, 7, 8, 9]))
      (.seq (.cond (.t 9)
        .skip
        (.exit 0))
      (.seq (.block 1
        (.seq (.seq (.reg [⟨(some 10), .mov (.t 1), none⟩,
            ⟨(some 11), .b2 (.bin .lss) (.t 10) (.c (.int .i64 0)), none⟩] (some [0, 1, 7, 8, 11]))
        (.cond (.t 11)
          (.exit 0)
          .skip))
        (.reg [⟨(some 12), .mov (.t 0), none⟩,
            ⟨(some 13), .u1 .nilchk (.t 12), none⟩,
            ⟨(some 14), .u1 (.faddr 0) (.t 13), none⟩,
            ⟨(some 15), .u1 (.load none) (.t 14), none⟩,
            ⟨(some 16), .mov (.t 1), none⟩,
            ⟨(some 17), .b2 (.iaddr 1) (.t 15) (.t 16), none⟩,
            ⟨(some 18), .u1 (.load none) (.t 17), none⟩,
            ⟨(some 19), .u1 .nilchk (.t 18), none⟩,
            ⟨(some 20), .u1 (.faddr 8) (.t 19), none⟩,
            ⟨(some 21), .u1 (.load none) (.t 20), none⟩,
            ⟨(some 1), .mov (.t 21), none⟩] (some [0, 1, 7, 8]))))
      (.reg [⟨(some 22), .b2 (.bin .add) (.t 8) (.c (.int .i64 1)), none⟩,
          ⟨(some 8), .mov (.t 22), none⟩] (some [0, 1, 7, 8]))))))))
  (.seq (.reg [⟨(some 23), .mov (.t 1), none⟩,
      ⟨(some 6), .mov (.t 23), none⟩] (some [6]))
  .ret))) }
noncomputable def a18 : AFn := { ntmps := 21, results := [.tmp 4], body :=
  (.seq (.reg [⟨(some 4), .mov (.c (.bool false)), none⟩] (some [0, 1]))
  (.seq (.reg [⟨(some 5), .mov (.t 0), none⟩,
      ⟨(some 6), .b2 (.eq true (.simple .ptr)) (.t 5) (.c .nilptr), none⟩,
      ⟨(some 7), .mov (.t 6), none⟩,
      ⟨(some 8), .mov (.t 1), (some (7, true))⟩,
      ⟨(some 9), .b2 (.bin .geq) (.t 8) (.c (.int .i64 0)), (some (7, true))⟩,
      ⟨(some 10), .o3 (.pick (.t 7) (.t 9) (.c (.bool false))), none⟩,
      ⟨(some 11), .mov (.t 10), none⟩,
      ⟨(some 12), .mov (.t 1), (some (11, true))⟩,
      ⟨(some 13), .mov (.t 0), (some (11, true))⟩,
      ⟨(some 14), .u1 .nilchk (.t 13), (some (11, true))⟩,
      ⟨(some 15), .u1 (.faddr 0) (.t 14), (some (11, true))⟩,
      ⟨(some 16), .u1 (.faddr 0) (.t 15), (some (11, true))⟩,
      ⟨(some 17), .u1 (.load none) (.t 16), (some (11, true))⟩,
      ⟨(some 18), .u1 (.len .sl) (.t 17), (some (11, true))⟩,
      ⟨(some 19), .b2 (.bin .lss) (.t 12) (.t 18), (some (11, true))⟩,
      ⟨(some 20), .o3 (.pick (.t 11) (.t 19) (.c (.bool false))), none⟩,
      ⟨(some 4), .mov (.t 20), none⟩] (some [4]))
  .ret)) }
end Go.Proofs.YtobfakjhhpbdmaaGreatDoor

/-
  FUNCTIONS IN THE ABSTRACT MACHINE's CODE: printed by wip/am/PrintAm.lean.
-/
import Derived.Test.YtobfakjhhpbdmaaGreatDoorAmBase
namespace Go.Proofs.YtobfakjhhpbdmaaGreatDoor
open Go Go.Am
noncomputable def a61 : AFn := { ntmps := 4, results := [.tmp 2], body :=
  (.seq (.reg [⟨(some 1), .u2 .box (.t 0), none⟩,
      ⟨(some 2), .mov (.c .nilfn), none⟩] (some [1]))
  (.seq (.reg [⟨(some 3), .o3 (.mkFn 65 [] [(.t 1)]), none⟩,
      ⟨(some 2), .mov (.t 3), none⟩] (some [2]))
  .ret)) }
noncomputable def a62 : AFn := { ntmps := 11, results := [.tmp 2], body :=
  (.seq (.reg [⟨(some 1), .u2 .box (.t 0), none⟩,
      ⟨(some 2), .mov (.c (.int .i64 0)), none⟩] (some [1]))
  (.seq (.block 0
    (.seq (.reg [⟨(some 4), .u1 (.load (some 29)) (.t 1), none⟩,
        ⟨(some 5), .call (.c (.fn 69 [] [])) [(.t 4)], none⟩,
        ⟨(some 6), .u2 (.un .not) (.t 5), none⟩,
        ⟨(some 3), .mov (.t 6), none⟩] (some [1, 3]))
    (.cond (.t 3)
      (.seq (.reg [⟨(some 2), .mov (.c (.int .i64 2)), none⟩] (some [2]))
      .ret)
      (.seq (.reg [⟨(some 8), .u1 (.load (some 29)) (.t 1), none⟩,
          ⟨(some 9), .call (.c (.fn 70 [] [])) [(.t 8)], none⟩,
          ⟨(some 10), .u2 (.un .not) (.t 9), none⟩,
          ⟨(some 7), .mov (.t 10), none⟩] (some [7]))
      (.cond (.t 7)
        (.seq (.reg [⟨(some 2), .mov (.c (.int .i64 1)), none⟩] (some [2]))
        .ret)
        .skip)))))
  (.seq (.reg [⟨(some 2), .mov (.c (.int .i64 0)), none⟩] (some [2]))
  .ret))) }
noncomputable def a63 : AFn := { ntmps := 168, results := [.cell 4 (some 29)], body :=
  (.seq (.reg [⟨(some 2), .u2 .box (.t 0), none⟩,
      ⟨(some 3), .u2 .box (.t 1), none⟩,
      ⟨(some 4), .o3 (.alloc [(.int .i64 0), (.int .i64 0), (.int .i64 0), (.int .i64 0), (.int .i64 0), (.int .i64 0), (.str []), .nilsl, .nilsl, (.str []), .nilsl, .nilsl, .nilsl, (.bool false), .nilsl, .nilsl, (.int .i64 0), .nilsl, .nilsl, .nilsl, .nilsl, (.int .i64 0), (.str []), .nilsl, .nilsl, (.bool false), .nilsl, .nilsl, .nilsl]), none⟩] (some [2, 3, 4]))
  (.seq (.reg [⟨(some 5), .o3 (.alloc [(.int .i64 0)]), none⟩,
      ⟨none, .b2 (.store 1) (.t 5) (.c (.int .i64 0)), none⟩] (some [2, 3, 4, 5]))
  (.seq (.reg [⟨(some 13), .o3 (.mkFn 71 [] [(.t 5), (.t 3)]), none⟩,
      ⟨(some 6), .o3 (.alloc [.nilfn]), none⟩,
      ⟨none, .b2 (.store 1) (.t 6) (.t 13), none⟩] (some [2, 4, 6]))
  (.seq (.reg [⟨(some 14), .o3 (.mkFn 72 [] [(.t 6)]), none⟩,
      ⟨(some 7), .mov (.t 14), none⟩] (some [2, 4, 6, 7]))
  (.seq (.reg [⟨(some 15), .o3 (.mkFn 76 [] [(.t 6)]), none⟩,
      ⟨(some 8), .mov (.t 15), none⟩] (some [2, 4, 6, 7, 8]))
  (.seq (.reg [⟨(some 16), .o3 (.mkFn 80 [] [(.t 6)]), none⟩,
      ⟨(some 9), .mov (.t 16), none⟩] (some [2, 4, 6, 7, 8, 9]))
  (.seq (.seq (.reg [⟨(some 17), .u1 (.faddr 0) (.t 2), none⟩,
      ⟨(some 18), .u1 (.load none) (.t 17), none⟩] (some [2, 4, 6, 7, 8, 9, 18]))
  (.block 0
    (.seq (.reg [⟨(some 20), .b2 (.eq false (.simple .int)) (.t 18) (.c (.int .i64 2)), none⟩,
        ⟨(some 19), .mov (.t 20), none⟩] (some [2, 4, 6, 7, 8, 9, 18, 19]))
    (.cond (.t 19)
      (.seq (.reg [⟨(some 21), .u1 (.faddr 9) (.t 2), none⟩,
          ⟨(some 10), .mov (.t 21), none⟩] (some [2, 4, 6, 7, 8, 10]))
      (.seq (.reg [⟨(some 22), .mov (.t 10), none⟩,
          ⟨(some 23), .mov (.t 7), none⟩,
          ⟨(some 24), .mov (.t 10), none⟩,
          ⟨(some 25), .u1 .nilchk (.t 24), none⟩,
          ⟨(some 26), .u1 (.faddr 1) (.t 25), none⟩,
          ⟨(some 27), .u1 (.load none) (.t 26), none⟩,
          ⟨(some 28), .call (.t 23) [(.t 27)], none⟩,
          ⟨(some 29), .u1 .nilchk (.t 22), none⟩,
          ⟨(some 30), .u1 (.faddr 1) (.t 29), none⟩,
          ⟨none, .b2 (.store 1) (.t 30) (.t 28), none⟩] (some [2, 4, 6, 7, 8, 10]))
      (.seq (.reg [⟨(some 31), .mov (.t 10), none⟩,
          ⟨(some 32), .mov (.t 10), none⟩,
          ⟨(some 33), .u1 .nilchk (.t 32), none⟩,
          ⟨(some 34), .u1 (.faddr 2) (.t 33), none⟩,
          ⟨(some 35), .u1 (.load none) (.t 34), none⟩,
          ⟨(some 36), .o3 (.mkFn 84 [] [(.t 6)]), none⟩,
          ⟨(some 37), .call (.c (.fn 83 [] [])) [(.t 35), (.t 36)], none⟩,
          ⟨(some 38), .u1 .nilchk (.t 31), none⟩,
          ⟨(some 39), .u1 (.faddr 2) (.t 38), none⟩,
          ⟨none, .b2 (.store 1) (.t 39) (.t 37), none⟩] (some [2, 4, 7, 8, 10]))
      (.seq (.reg [⟨(some 40), .mov (.t 10), none⟩,
          ⟨(some 41), .mov (.t 7), none⟩,
          ⟨(some 42), .mov (.t 10), none⟩,
          ⟨(some 43), .u1 .nilchk (.t 42), none⟩,
          ⟨(some 44), .u1 (.faddr 3) (.t 43), none⟩,
          ⟨(some 45), .u1 (.load none) (.t 44), none⟩,
          ⟨(some 46), .call (.t 41) [(.t 45)], none⟩,
          ⟨(some 47), .u1 .nilchk (.t 40), none⟩,
          ⟨(some 48), .u1 (.faddr 3) (.t 47), none⟩,
          ⟨none, .b2 (.store 1) (.t 48) (.t 46), none⟩] (some [2, 4, 7, 8, 10]))
      (.seq (.reg [⟨(some 49), .mov (.t 10), none⟩,
          ⟨(some 50), .mov (.t 8), none⟩,
          ⟨(some 51), .mov (.t 10), none⟩,
          ⟨(some 52), .u1 .nilchk (.t 51), none⟩,
          ⟨(some 53), .u1 (.faddr 5) (.t 52), none⟩,
          ⟨(some 54), .u1 (.load none) (.t 53), none⟩,
          ⟨(some 55), .call (.t 50) [(.t 54)], none⟩,
          ⟨(some 56), .u1 .nilchk (.t 49), none⟩,
          ⟨(some 57), .u1 (.faddr 5) (.t 56), none⟩,
          ⟨none, .b2 (.store 1) (.t 57) (.t 55), none⟩] (some [2, 4, 7, 10]))
      (.reg [⟨(some 58), .mov (.t 10), none⟩,
          ⟨(some 59), .mov (.t 7), none⟩,
          ⟨(some 60), .mov (.t 10), none⟩,
          ⟨(some 61), .u1 .nilchk (.t 60), none⟩,
          ⟨(some 62), .u1 (.faddr 6) (.t 61), none⟩,
          ⟨(some 63), .u1 (.load none) (.t 62), none⟩,
          ⟨(some 64), .call (.t 59) [(.t 63)], none⟩,
          ⟨(some 65), .u1 .nilchk (.t 58), none⟩,
          ⟨(some 66), .u1 (.faddr 6) (.t 65), none⟩,
          ⟨none, .b2 (.store 1) (.t 66) (.t 64), none⟩] (some [2, 4])))))))
      (.seq (.reg [⟨(some 68), .b2 (.eq false (.simple .int)) (.t 18) (.c (.int .i64 3)), none⟩,
          ⟨(some 67), .mov (.t 68), none⟩] (some [2, 4, 6, 7, 8, 9, 18, 67]))
      (.cond (.t 67)
        (.seq (.reg [⟨(some 69), .u1 (.faddr 16) (.t 2), none⟩,
            ⟨(some 11), .mov (.t 69), none⟩] (some [2, 4, 7, 9, 11]))
        (.seq (.reg [⟨(some 70), .mov (.t 11), none⟩,
            ⟨(some 71), .mov (.t 11), none⟩,
            ⟨(some 72), .u1 .nilchk (.t 71), none⟩,
            ⟨(some 73), .u1 (.faddr 1) (.t 72), none⟩,
            ⟨(some 74), .u1 (.load none) (.t 73), none⟩,
            ⟨(some 75), .call (.c (.fn 86 [] [])) [(.t 74)], none⟩,
            ⟨(some 76), .u1 .nilchk (.t 70), none⟩,
            ⟨(some 77), .u1 (.faddr 1) (.t 76), none⟩,
            ⟨none, .b2 (.store 1) (.t 77) (.t 75), none⟩] (some [2, 4, 7, 9, 11]))
        (.seq (.reg [⟨(some 78), .mov (.t 11), none⟩,
            ⟨(some 79), .mov (.t 7), none⟩,
            ⟨(some 80), .mov (.t 11), none⟩,
            ⟨(some 81), .u1 .nilchk (.t 80), none⟩,
            ⟨(some 82), .u1 (.faddr 2) (.t 81), none⟩,
            ⟨(some 83), .u1 (.load none) (.t 82), none⟩,
            ⟨(some 84), .call (.t 79) [(.t 83)], none⟩,
            ⟨(some 85), .u1 .nilchk (.t 78), none⟩,
            ⟨(some 86), .u1 (.faddr 2) (.t 85), none⟩,
            ⟨none, .b2 (.store 1) (.t 86) (.t 84), none⟩] (some [2, 4, 7, 9, 11]))
        (.seq (.reg [⟨(some 87), .mov (.t 11), none⟩,
            ⟨(some 88), .mov (.t 7), none⟩,
            ⟨(some 89), .mov (.t 11), none⟩,
            ⟨(some 90), .u1 .nilchk (.t 89), none⟩,
            ⟨(some 91), .u1 (.faddr 3) (.t 90), none⟩,
            ⟨(some 92), .u1 (.load none) (.t 91), none⟩,
            ⟨(some 93), .call (.t 88) [(.t 92)], none⟩,
            ⟨(some 94), .u1 .nilchk (.t 87), none⟩,
            ⟨(some 95), .u1 (.faddr 3) (.t 94), none⟩,
            ⟨none, .b2 (.store 1) (.t 95) (.t 93), none⟩] (some [2, 4, 9, 11]))
        (.reg [⟨(some 96), .mov (.t 11), none⟩,
            ⟨(some 97), .mov (.t 9), none⟩,
            ⟨(some 98), .mov (.t 11), none⟩,
            ⟨(some 99), .u1 .nilchk (.t 98), none⟩,
            ⟨(some 100), .u1 (.faddr 4) (.t 99), none⟩,
            ⟨(some 101), .u1 (.load none) (.t 100), none⟩,
            ⟨(some 102), .call (.t 97) [(.t 101)], none⟩,
            ⟨(some 103), .u1 .nilchk (.t 96), none⟩,
            ⟨(some 104), .u1 (.faddr 4) (.t 103), none⟩,
            ⟨none, .b2 (.store 1) (.t 104) (.t 102), none⟩] (some [2, 4]))))))
        (.seq (.reg [⟨(some 106), .b2 (.eq false (.simple .int)) (.t 18) (.c (.int .i64 4)), none⟩,
            ⟨(some 105), .mov (.t 106), none⟩] (some [2, 4, 6, 7, 8, 9, 18, 105]))
        (.cond (.t 105)
          (.seq (.reg [⟨(some 107), .u1 (.faddr 21) (.t 2), none⟩,
              ⟨(some 12), .mov (.t 107), none⟩] (some [2, 4, 6, 7, 8, 12]))
          (.seq (.reg [⟨(some 108), .mov (.t 12), none⟩,
              ⟨(some 109), .mov (.t 7), none⟩,
              ⟨(some 110), .mov (.t 12), none⟩,
              ⟨(some 111), .u1 .nilchk (.t 110), none⟩,
              ⟨(some 112), .u1 (.faddr 2) (.t 111), none⟩,
              ⟨(some 113), .u1 (.load none) (.t 112), none⟩,
              ⟨(some 114), .call (.t 109) [(.t 113)], none⟩,
              ⟨(some 115), .u1 .nilchk (.t 108), none⟩,
              ⟨(some 116), .u1 (.faddr 2) (.t 115), none⟩,
              ⟨none, .b2 (.store 1) (.t 116) (.t 114), none⟩] (some [2, 4, 6, 8, 12]))
          (.seq (.reg [⟨(some 117), .mov (.t 12), none⟩,
              ⟨(some 118), .mov (.t 12), none⟩,
              ⟨(some 119), .u1 .nilchk (.t 118), none⟩,
              ⟨(some 120), .u1 (.faddr 3) (.t 119), none⟩,
              ⟨(some 121), .u1 (.load none) (.t 120), none⟩,
              ⟨(some 122), .o3 (.mkFn 88 [] [(.t 6)]), none⟩,
              ⟨(some 123), .call (.c (.fn 87 [] [])) [(.t 121), (.t 122)], none⟩,
              ⟨(some 124), .u1 .nilchk (.t 117), none⟩,
              ⟨(some 125), .u1 (.faddr 3) (.t 124), none⟩,
              ⟨none, .b2 (.store 1) (.t 125) (.t 123), none⟩] (some [2, 4, 8, 12]))
          (.reg [⟨(some 126), .mov (.t 12), none⟩,
              ⟨(some 127), .mov (.t 8), none⟩,
              ⟨(some 128), .mov (.t 12), none⟩,
              ⟨(some 129), .u1 .nilchk (.t 128), none⟩,
              ⟨(some 130), .u1 (.faddr 5) (.t 129), none⟩,
              ⟨(some 131), .u1 (.load none) (.t 130), none⟩,
              ⟨(some 132), .call (.t 127) [(.t 131)], none⟩,
              ⟨(some 133), .u1 .nilchk (.t 126), none⟩,
              ⟨(some 134), .u1 (.faddr 5) (.t 133), none⟩,
              ⟨none, .b2 (.store 1) (.t 134) (.t 132), none⟩] (some [2, 4])))))
          (.seq (.reg [⟨(some 136), .b2 (.eq false (.simple .int)) (.t 18) (.c (.int .i64 5)), none⟩,
              ⟨(some 135), .mov (.t 136), none⟩] (some [2, 4, 7, 8, 9, 18, 135]))
          (.cond (.t 135)
            (.seq (.reg [⟨(some 137), .mov (.t 7), none⟩,
                ⟨(some 138), .u1 (.faddr 27) (.t 2), none⟩,
                ⟨(some 139), .u1 (.faddr 0) (.t 138), none⟩,
                ⟨(some 140), .u1 (.load none) (.t 139), none⟩,
                ⟨(some 141), .call (.t 137) [(.t 140)], none⟩,
                ⟨(some 142), .u1 (.faddr 27) (.t 2), none⟩,
                ⟨(some 143), .u1 (.faddr 0) (.t 142), none⟩,
                ⟨none, .b2 (.store 1) (.t 143) (.t 141), none⟩] (some [2, 4, 8]))
            (.reg [⟨(some 144), .mov (.t 8), none⟩,
                ⟨(some 145), .u1 (.faddr 27) (.t 2), none⟩,
                ⟨(some 146), .u1 (.faddr 1) (.t 145), none⟩,
                ⟨(some 147), .u1 (.load none) (.t 146), none⟩,
                ⟨(some 148), .call (.t 144) [(.t 147)], none⟩,
                ⟨(some 149), .u1 (.faddr 27) (.t 2), none⟩,
                ⟨(some 150), .u1 (.faddr 1) (.t 149), none⟩,
                ⟨none, .b2 (.store 1) (.t 150) (.t 148), none⟩] (some [2, 4])))
            (.seq (.reg [⟨(some 152), .b2 (.eq false (.simple .int)) (.t 18) (.c (.int .i64 1)), none⟩,
                ⟨(some 151), .mov (.t 152), none⟩] (some [2, 4, 7, 9, 151]))
            (.cond (.t 151)
              (.seq (.reg [⟨(some 153), .mov (.t 7), none⟩,
                  ⟨(some 154), .u1 (.faddr 1) (.t 2), none⟩,
                  ⟨(some 155), .u1 (.faddr 6) (.t 154), none⟩,
                  ⟨(some 156), .u1 (.load none) (.t 155), none⟩,
                  ⟨(some 157), .call (.t 153) [(.t 156)], none⟩,
                  ⟨(some 158), .u1 (.faddr 1) (.t 2), none⟩,
                  ⟨(some 159), .u1 (.faddr 6) (.t 158), none⟩,
                  ⟨none, .b2 (.store 1) (.t 159) (.t 157), none⟩] (some [2, 4, 9]))
              (.reg [⟨(some 160), .mov (.t 9), none⟩,
                  ⟨(some 161), .u1 (.faddr 1) (.t 2), none⟩,
                  ⟨(some 162), .u1 (.faddr 7) (.t 161), none⟩,
                  ⟨(some 163), .u1 (.load none) (.t 162), none⟩,
                  ⟨(some 164), .call (.t 160) [(.t 163)], none⟩,
                  ⟨(some 165), .u1 (.faddr 1) (.t 2), none⟩,
                  ⟨(some 166), .u1 (.faddr 7) (.t 165), none⟩,
                  ⟨none, .b2 (.store 1) (.t 166) (.t 164), none⟩] (some [2, 4])))
              .skip))))))))))))
  (.seq (.reg [⟨(some 167), .u1 (.load (some 29)) (.t 2), none⟩,
      ⟨none, .b2 (.store 29) (.t 4) (.t 167), none⟩] (some [4]))
  .ret)))))))) }
noncomputable def a64 : AFn := { ntmps := 7, results := [.cell 4 (some 29)], body :=
  (.seq (.reg [⟨(some 3), .u2 .box (.t 1), none⟩,
      ⟨(some 4), .o3 (.alloc [(.int .i64 0), (.int .i64 0), (.int .i64 0), (.int .i64 0), (.int .i64 0), (.int .i64 0), (.str []), .nilsl, .nilsl, (.str []), .nilsl, .nilsl, .nilsl, (.bool false), .nilsl, .nilsl, (.int .i64 0), .nilsl, .nilsl, .nilsl, .nilsl, (.int .i64 0), (.str []), .nilsl, .nilsl, (.bool false), .nilsl, .nilsl, .nilsl]), none⟩] (some [3, 4]))
  (.seq (.reg [⟨(some 5), .u1 (.load (some 29)) (.t 3), none⟩,
      ⟨(some 6), .call (.c (.fn 52 [] [])) [(.t 5)], none⟩,
      ⟨none, .b2 (.store 29) (.t 4) (.t 6), none⟩] (some [4]))
  .ret)) }
noncomputable def a65 : AFn := { ntmps := 8, results := [], body :=
  (.seq (.reg [⟨(some 2), .u2 .box (.t 0), none⟩] (some [1, 2]))
  (.seq (.reg [⟨(some 3), .o3 (.alloc [.nilfn]), none⟩] (some [1, 2, 3]))
  (.seq (.reg [⟨(some 4), .o3 (.mkFn 66 [] [(.t 2), (.t 3)]), none⟩,
      ⟨none, .b2 (.store 1) (.t 3) (.t 4), none⟩] (some [1, 3]))
  (.reg [⟨(some 5), .u1 (.load none) (.t 3), none⟩,
      ⟨(some 6), .u1 (.load (some 29)) (.t 1), none⟩,
      ⟨(some 7), .call (.t 5) [(.c .nilsl), (.t 6)], none⟩] (some []))))) }
noncomputable def a66 : AFn := { ntmps := 29, results := [.cell 6 none], body :=
  (.seq (.reg [⟨(some 4), .u2 .box (.t 0), none⟩,
      ⟨(some 5), .u2 .box (.t 1), none⟩,
      ⟨(some 6), .o3 (.alloc [(.bool false)]), none⟩] (some [2, 3, 4, 5, 6, 17]))
  (.seq (.seq (.dreg [⟨⟨(some 9), .u1 (.load none) (.t 2), none⟩, .look [0, 1]⟩,
      ⟨⟨(some 10), .u1 (.load none) (.t 4), none⟩, .look [0]⟩,
      ⟨⟨(some 11), .call (.c (.fn 23 [] [])) [(.t 10)], none⟩, .hard false⟩,
      ⟨⟨(some 12), .u1 (.load (some 29)) (.t 5), none⟩, .look [0, 1]⟩,
      ⟨⟨(some 13), .call (.t 9) [(.t 11), (.t 12)], none⟩, .hard true⟩,
      ⟨⟨(some 14), .u2 (.un .not) (.t 13), none⟩, .soft⟩] (some [3, 4, 5, 6, 14, 17]))
  (.cond (.t 14)
    (.seq (.reg [⟨none, .b2 (.store 1) (.t 6) (.c (.bool false)), none⟩] (some [6]))
    .ret)
    .skip))
  (.seq (.reg [⟨(some 7), .o3 (.alloc [(.int .i64 0)]), none⟩,
      ⟨none, .b2 (.store 1) (.t 7) (.c (.int .i64 0)), none⟩] (some [3, 4, 5, 6, 7, 17]))
  (.seq (.seq (.reg [⟨(some 15), .u1 (.load (some 29)) (.t 5), none⟩,
      ⟨(some 16), .call (.c (.fn 67 [] [])) [(.t 15)], none⟩] (some [3, 4, 6, 7, 16, 17]))
  (.block 0
    (.rf (.t 16) [17]
      (.reg [⟨(some 8), .o3 (.alloc [(.int .i64 0), (.int .i64 0), (.int .i64 0), (.int .i64 0), (.int .i64 0), (.int .i64 0), (.str []), .nilsl, .nilsl, (.str []), .nilsl, .nilsl, .nilsl, (.bool false), .nilsl, .nilsl, (.int .i64 0), .nilsl, .nilsl, .nilsl, .nilsl, (.int .i64 0), (.str []), .nilsl, .nilsl, (.bool false), .nilsl, .nilsl, .nilsl]), none⟩,
          ⟨none, .b2 (.store 29) (.t 8) (.t 17), none⟩] (some [3, 4, 6, 7, 8]))
      (.block 1
        (.seq (.seq (.dreg [⟨⟨(some 18), .u1 (.load none) (.t 3), none⟩, .look [0, 1, 2]⟩,
            ⟨⟨(some 19), .u1 (.load none) (.t 4), none⟩, .look [0]⟩,
            ⟨⟨(some 20), .call (.c (.fn 68 [] [])) [(.t 19)], none⟩, .hard false⟩,
            ⟨⟨(some 21), .u1 (.load none) (.t 7), none⟩, .look [0, 1]⟩,
            ⟨⟨(some 22), .o3 (.bslice 1 [(.t 21)]), none⟩, .soft⟩,
            ⟨⟨(some 23), .b2 (.append 1) (.t 20) (.t 22), none⟩, .hard false⟩,
            ⟨⟨(some 24), .u1 (.load (some 29)) (.t 8), none⟩, .look [0, 1, 2]⟩,
            ⟨⟨(some 25), .call (.t 18) [(.t 23), (.t 24)], none⟩, .hard true⟩,
            ⟨⟨(some 26), .u2 (.un .not) (.t 25), none⟩, .soft⟩] (some [6, 7, 26]))
        (.cond (.t 26)
          (.seq (.reg [⟨none, .b2 (.store 1) (.t 6) (.c (.bool false)), none⟩] (some [6]))
          .ret)
          .skip))
        (.reg [⟨(some 27), .u1 (.load none) (.t 7), none⟩,
            ⟨(some 28), .b2 (.bin .add) (.t 27) (.c (.int .i64 1)), none⟩,
            ⟨none, .b2 (.store 1) (.t 7) (.t 28), none⟩] (some [])))))))
  (.seq (.reg [⟨none, .b2 (.store 1) (.t 6) (.c (.bool true)), none⟩] (some [6]))
  .ret))))) }
noncomputable def a67 : AFn := { ntmps := 80, results := [.tmp 2], body :=
  (.seq (.reg [⟨(some 1), .u2 .box (.t 0), none⟩,
      ⟨(some 2), .mov (.c .nilfn), none⟩] (some [1]))
  (.seq (.reg [⟨(some 3), .o3 (.alloc [.nilsl]), none⟩] (some [1, 3]))
  (.seq (.seq (.reg [⟨(some 5), .u1 (.faddr 0) (.t 1), none⟩,
      ⟨(some 6), .u1 (.load none) (.t 5), none⟩] (some [1, 3, 6]))
  (.block 0
    (.seq (.reg [⟨(some 8), .b2 (.eq false (.simple .int)) (.t 6) (.c (.int .i64 2)), none⟩,
        ⟨(some 7), .mov (.t 8), none⟩] (some [1, 3, 6, 7]))
    (.cond (.t 7)
      (.seq (.reg [⟨(some 9), .u1 (.faddr 9) (.t 1), none⟩,
          ⟨(some 10), .u1 (.load (some 7)) (.t 9), none⟩,
          ⟨(some 4), .o3 (.alloc [(.str []), .nilsl, .nilsl, .nilsl, (.bool false), .nilsl, .nilsl]), none⟩,
          ⟨none, .b2 (.store 7) (.t 4) (.t 10), none⟩] (some [3, 4]))
      (.dreg [⟨⟨(some 11), .u1 (.faddr 1) (.t 4), none⟩, .soft⟩,
          ⟨⟨(some 12), .u1 (.load none) (.t 11), none⟩, .look [0]⟩,
          ⟨⟨(some 13), .call (.c (.fn 90 [] [])) [(.t 12), (.c (.fn 75 [] []))], none⟩, .hard false⟩,
          ⟨⟨(some 14), .u1 (.faddr 2) (.t 4), none⟩, .soft⟩,
          ⟨⟨(some 15), .u1 (.load none) (.t 14), none⟩, .look [0, 1]⟩,
          ⟨⟨(some 16), .call (.c (.fn 91 [] [])) [(.t 15), (.c (.fn 85 [] []))], none⟩, .hard false⟩,
          ⟨⟨(some 17), .u1 (.faddr 3) (.t 4), none⟩, .soft⟩,
          ⟨⟨(some 18), .u1 (.load none) (.t 17), none⟩, .look [0, 1, 2]⟩,
          ⟨⟨(some 19), .call (.c (.fn 90 [] [])) [(.t 18), (.c (.fn 75 [] []))], none⟩, .hard false⟩,
          ⟨⟨(some 20), .u1 (.faddr 5) (.t 4), none⟩, .soft⟩,
          ⟨⟨(some 21), .u1 (.load none) (.t 20), none⟩, .look [0, 1, 2, 3]⟩,
          ⟨⟨(some 22), .call (.c (.fn 92 [] [])) [(.t 21), (.c (.fn 79 [] []))], none⟩, .hard false⟩,
          ⟨⟨(some 23), .u1 (.faddr 6) (.t 4), none⟩, .soft⟩,
          ⟨⟨(some 24), .u1 (.load none) (.t 23), none⟩, .look [0, 1, 2, 3, 4]⟩,
          ⟨⟨(some 25), .call (.c (.fn 90 [] [])) [(.t 24), (.c (.fn 75 [] []))], none⟩, .hard true⟩,
          ⟨⟨(some 26), .o3 (.bslice 1 [(.t 13), (.t 16), (.t 19), (.t 22), (.t 25)]), none⟩, .soft⟩,
          ⟨⟨none, .b2 (.store 1) (.t 3) (.t 26), none⟩, .hard true⟩] (some [3])))
      (.seq (.reg [⟨(some 28), .b2 (.eq false (.simple .int)) (.t 6) (.c (.int .i64 3)), none⟩,
          ⟨(some 27), .mov (.t 28), none⟩] (some [1, 3, 6, 27]))
      (.cond (.t 27)
        (.dreg [⟨⟨(some 29), .u1 (.faddr 16) (.t 1), none⟩, .soft⟩,
            ⟨⟨(some 30), .u1 (.faddr 2) (.t 29), none⟩, .soft⟩,
            ⟨⟨(some 31), .u1 (.load none) (.t 30), none⟩, .look [0]⟩,
            ⟨⟨(some 32), .call (.c (.fn 90 [] [])) [(.t 31), (.c (.fn 75 [] []))], none⟩, .hard false⟩,
            ⟨⟨(some 33), .u1 (.faddr 16) (.t 1), none⟩, .soft⟩,
            ⟨⟨(some 34), .u1 (.faddr 3) (.t 33), none⟩, .soft⟩,
            ⟨⟨(some 35), .u1 (.load none) (.t 34), none⟩, .look [0, 1]⟩,
            ⟨⟨(some 36), .call (.c (.fn 90 [] [])) [(.t 35), (.c (.fn 75 [] []))], none⟩, .hard false⟩,
            ⟨⟨(some 37), .u1 (.faddr 16) (.t 1), none⟩, .soft⟩,
            ⟨⟨(some 38), .u1 (.faddr 4) (.t 37), none⟩, .soft⟩,
            ⟨⟨(some 39), .u1 (.load none) (.t 38), none⟩, .look [0, 1, 2]⟩,
            ⟨⟨(some 40), .call (.c (.fn 93 [] [])) [(.t 39), (.c (.fn 53 [] []))], none⟩, .hard true⟩,
            ⟨⟨(some 41), .o3 (.bslice 1 [(.t 32), (.t 36), (.t 40)]), none⟩, .soft⟩,
            ⟨⟨none, .b2 (.store 1) (.t 3) (.t 41), none⟩, .hard true⟩] (some [3]))
        (.seq (.reg [⟨(some 43), .b2 (.eq false (.simple .int)) (.t 6) (.c (.int .i64 4)), none⟩,
            ⟨(some 42), .mov (.t 43), none⟩] (some [1, 3, 6, 42]))
        (.cond (.t 42)
          (.dreg [⟨⟨(some 44), .u1 (.faddr 21) (.t 1), none⟩, .soft⟩,
              ⟨⟨(some 45), .u1 (.faddr 2) (.t 44), none⟩, .soft⟩,
              ⟨⟨(some 46), .u1 (.load none) (.t 45), none⟩, .look [0]⟩,
              ⟨⟨(some 47), .call (.c (.fn 90 [] [])) [(.t 46), (.c (.fn 75 [] []))], none⟩, .hard false⟩,
              ⟨⟨(some 48), .u1 (.faddr 21) (.t 1), none⟩, .soft⟩,
              ⟨⟨(some 49), .u1 (.faddr 3) (.t 48), none⟩, .soft⟩,
              ⟨⟨(some 50), .u1 (.load none) (.t 49), none⟩, .look [0, 1]⟩,
              ⟨⟨(some 51), .call (.c (.fn 94 [] [])) [(.t 50), (.c (.fn 89 [] []))], none⟩, .hard false⟩,
              ⟨⟨(some 52), .u1 (.faddr 21) (.t 1), none⟩, .soft⟩,
              ⟨⟨(some 53), .u1 (.faddr 5) (.t 52), none⟩, .soft⟩,
              ⟨⟨(some 54), .u1 (.load none) (.t 53), none⟩, .look [0, 1, 2]⟩,
              ⟨⟨(some 55), .call (.c (.fn 92 [] [])) [(.t 54), (.c (.fn 79 [] []))], none⟩, .hard true⟩,
              ⟨⟨(some 56), .o3 (.bslice 1 [(.t 47), (.t 51), (.t 55)]), none⟩, .soft⟩,
              ⟨⟨none, .b2 (.store 1) (.t 3) (.t 56), none⟩, .hard true⟩] (some [3]))
          (.seq (.reg [⟨(some 58), .b2 (.eq false (.simple .int)) (.t 6) (.c (.int .i64 5)), none⟩,
              ⟨(some 57), .mov (.t 58), none⟩] (some [1, 3, 6, 57]))
          (.cond (.t 57)
            (.dreg [⟨⟨(some 59), .u1 (.faddr 27) (.t 1), none⟩, .soft⟩,
                ⟨⟨(some 60), .u1 (.faddr 0) (.t 59), none⟩, .soft⟩,
                ⟨⟨(some 61), .u1 (.load none) (.t 60), none⟩, .look [0]⟩,
                ⟨⟨(some 62), .call (.c (.fn 90 [] [])) [(.t 61), (.c (.fn 75 [] []))], none⟩, .hard false⟩,
                ⟨⟨(some 63), .u1 (.faddr 27) (.t 1), none⟩, .soft⟩,
                ⟨⟨(some 64), .u1 (.faddr 1) (.t 63), none⟩, .soft⟩,
                ⟨⟨(some 65), .u1 (.load none) (.t 64), none⟩, .look [0, 1]⟩,
                ⟨⟨(some 66), .call (.c (.fn 92 [] [])) [(.t 65), (.c (.fn 79 [] []))], none⟩, .hard true⟩,
                ⟨⟨(some 67), .o3 (.bslice 1 [(.t 62), (.t 66)]), none⟩, .soft⟩,
                ⟨⟨none, .b2 (.store 1) (.t 3) (.t 67), none⟩, .hard true⟩] (some [3]))
            (.seq (.reg [⟨(some 69), .b2 (.eq false (.simple .int)) (.t 6) (.c (.int .i64 1)), none⟩,
                ⟨(some 68), .mov (.t 69), none⟩] (some [1, 3, 68]))
            (.cond (.t 68)
              (.dreg [⟨⟨(some 70), .u1 (.faddr 1) (.t 1), none⟩, .soft⟩,
                  ⟨⟨(some 71), .u1 (.faddr 6) (.t 70), none⟩, .soft⟩,
                  ⟨⟨(some 72), .u1 (.load none) (.t 71), none⟩, .look [0]⟩,
                  ⟨⟨(some 73), .call (.c (.fn 90 [] [])) [(.t 72), (.c (.fn 75 [] []))], none⟩, .hard false⟩,
                  ⟨⟨(some 74), .u1 (.faddr 1) (.t 1), none⟩, .soft⟩,
                  ⟨⟨(some 75), .u1 (.faddr 7) (.t 74), none⟩, .soft⟩,
                  ⟨⟨(some 76), .u1 (.load none) (.t 75), none⟩, .look [0, 1]⟩,
                  ⟨⟨(some 77), .call (.c (.fn 93 [] [])) [(.t 76), (.c (.fn 53 [] []))], none⟩, .hard true⟩,
                  ⟨⟨(some 78), .o3 (.bslice 1 [(.t 73), (.t 77)]), none⟩, .soft⟩,
                  ⟨⟨none, .b2 (.store 1) (.t 3) (.t 78), none⟩, .hard true⟩] (some [3]))
              .skip))))))))))))
  (.seq (.reg [⟨(some 79), .o3 (.mkFn 95 [] [(.t 3)]), none⟩,
      ⟨(some 2), .mov (.t 79), none⟩] (some [2]))
  .ret)))) }
noncomputable def a68 : AFn := { ntmps := 9, results := [.tmp 2], body :=
  (.seq (.reg [⟨(some 2), .mov (.c .nilsl), none⟩] (some [0]))
  (.seq (.reg [⟨(some 3), .mov (.t 0), none⟩,
      ⟨(some 4), .mov (.t 0), none⟩,
      ⟨(some 5), .u1 (.len .sl) (.t 4), none⟩,
      ⟨(some 6), .mov (.t 0), none⟩,
      ⟨(some 7), .u1 (.len .sl) (.t 6), none⟩,
      ⟨(some 8), .o3 (.slc false 1 (.t 3) none (some (.t 5)) (some (.t 7))), none⟩,
      ⟨(some 2), .mov (.t 8), none⟩] (some [2]))
  .ret)) }
noncomputable def a69 : AFn := { ntmps := 13, results := [.tmp 2], body :=
  (.seq (.reg [⟨(some 1), .u2 .box (.t 0), none⟩,
      ⟨(some 2), .mov (.c (.bool false)), none⟩] (some [1]))
  (.seq (.reg [⟨(some 7), .u1 (.load (some 29)) (.t 1), none⟩,
      ⟨(some 8), .call (.c (.fn 96 [] [])) [(.t 7)], none⟩,
      ⟨(some 6), .mov (.t 8), none⟩,
      ⟨(some 9), .u1 (.extract 0) (.t 6), none⟩,
      ⟨(some 10), .u1 (.extract 1) (.t 6), none⟩,
      ⟨(some 11), .u1 (.extract 2) (.t 6), none⟩,
      ⟨(some 3), .mov (.t 9), none⟩,
      ⟨(some 4), .mov (.t 10), none⟩,
      ⟨(some 5), .mov (.t 11), none⟩] (some [5]))
  (.seq (.reg [⟨(some 12), .mov (.t 5), none⟩,
      ⟨(some 2), .mov (.t 12), none⟩] (some [2]))
  .ret))) }
noncomputable def a70 : AFn := { ntmps := 24, results := [.cell 2 none], body :=
  (.seq (.reg [⟨(some 1), .u2 .box (.t 0), none⟩,
      ⟨(some 2), .o3 (.alloc [(.bool false)]), none⟩] (some [1, 2, 20]))
  (.seq (.reg [⟨(some 5), .o3 .mkMap, none⟩,
      ⟨(some 6), .o3 (.mkFn 97 [] [(.t 1)]), none⟩,
      ⟨none, .o3 (.mapUpd (.simple .int) (.t 5) (.c (.int .i64 1)) (.t 6)), none⟩,
      ⟨(some 7), .o3 (.mkFn 100 [] [(.t 1)]), none⟩,
      ⟨none, .o3 (.mapUpd (.simple .int) (.t 5) (.c (.int .i64 2)) (.t 7)), none⟩,
      ⟨(some 8), .o3 (.mkFn 102 [] [(.t 1)]), none⟩,
      ⟨none, .o3 (.mapUpd (.simple .int) (.t 5) (.c (.int .i64 3)) (.t 8)), none⟩,
      ⟨(some 9), .o3 (.mkFn 104 [] [(.t 1)]), none⟩,
      ⟨none, .o3 (.mapUpd (.simple .int) (.t 5) (.c (.int .i64 4)) (.t 9)), none⟩,
      ⟨(some 10), .o3 (.mkFn 106 [] [(.t 1)]), none⟩,
      ⟨none, .o3 (.mapUpd (.simple .int) (.t 5) (.c (.int .i64 5)) (.t 10)), none⟩,
      ⟨(some 11), .mov (.t 5), none⟩,
      ⟨(some 3), .mov (.t 11), none⟩] (some [1, 2, 3, 20]))
  (.seq (.seq (.reg [⟨(some 12), .mov (.t 3), none⟩,
      ⟨(some 13), .u1 (.faddr 0) (.t 1), none⟩,
      ⟨(some 14), .u1 (.load none) (.t 13), none⟩,
      ⟨(some 15), .b2 (.lookup (.simple .int) .nilfn false) (.t 12) (.t 14), none⟩,
      ⟨(some 16), .call (.t 15) [], none⟩,
      ⟨(some 17), .u2 (.un .not) (.t 16), none⟩] (some [1, 2, 17, 20]))
  (.cond (.t 17)
    (.seq (.reg [⟨none, .b2 (.store 1) (.t 2) (.c (.bool false)), none⟩] (some [2]))
    .ret)
    .skip))
  (.seq (.seq (.reg [⟨(some 18), .u1 (.load (some 29)) (.t 1), none⟩,
      ⟨(some 19), .call (.c (.fn 67 [] [])) [(.t 18)], none⟩] (some [2, 19, 20]))
  (.block 0
    (.rf (.t 19) [20]
      (.reg [⟨(some 4), .o3 (.alloc [(.int .i64 0), (.int .i64 0), (.int .i64 0), (.int .i64 0), (.int .i64 0), (.int .i64 0), (.str []), .nilsl, .nilsl, (.str []), .nilsl, .nilsl, .nilsl, (.bool false), .nilsl, .nilsl, (.int .i64 0), .nilsl, .nilsl, .nilsl, .nilsl, (.int .i64 0), (.str []), .nilsl, .nilsl, (.bool false), .nilsl, .nilsl, .nilsl]), none⟩,
          ⟨none, .b2 (.store 29) (.t 4) (.t 20), none⟩] (some [2, 4]))
      (.block 1
        (.seq (.reg [⟨(some 21), .u1 (.load (some 29)) (.t 4), none⟩,
            ⟨(some 22), .call (.c (.fn 70 [] [])) [(.t 21)], none⟩,
            ⟨(some 23), .u2 (.un .not) (.t 22), none⟩] (some [2, 23]))
        (.cond (.t 23)
          (.seq (.reg [⟨none, .b2 (.store 1) (.t 2) (.c (.bool false)), none⟩] (some [2]))
          .ret)
          .skip))))))
  (.seq (.reg [⟨none, .b2 (.store 1) (.t 2) (.c (.bool true)), none⟩] (some [2]))
  .ret))))) }
noncomputable def a71 : AFn := { ntmps := 12, results := [.cell 4 (some 29)], body :=
  (.seq (.reg [⟨(some 3), .u2 .box (.t 0), none⟩,
      ⟨(some 4), .o3 (.alloc [(.int .i64 0), (.int .i64 0), (.int .i64 0), (.int .i64 0), (.int .i64 0), (.int .i64 0), (.str []), .nilsl, .nilsl, (.str []), .nilsl, .nilsl, .nilsl, (.bool false), .nilsl, .nilsl, (.int .i64 0), .nilsl, .nilsl, .nilsl, .nilsl, (.int .i64 0), (.str []), .nilsl, .nilsl, (.bool false), .nilsl, .nilsl, .nilsl]), none⟩] (some [1, 2, 3, 4]))
  (.seq (.reg [⟨(some 5), .u1 (.load none) (.t 1), none⟩,
      ⟨(some 6), .b2 (.bin .add) (.t 5) (.c (.int .i64 1)), none⟩,
      ⟨none, .b2 (.store 1) (.t 1) (.t 6), none⟩] (some [1, 2, 3, 4]))
  (.seq (.reg [⟨(some 7), .u1 (.load none) (.t 2), none⟩,
      ⟨(some 8), .u1 (.load none) (.t 1), none⟩,
      ⟨(some 9), .b2 (.bin .sub) (.t 8) (.c (.int .i64 1)), none⟩,
      ⟨(some 10), .u1 (.load (some 29)) (.t 3), none⟩,
      ⟨(some 11), .call (.t 7) [(.t 9), (.t 10)], none⟩,
      ⟨none, .b2 (.store 29) (.t 4) (.t 11), none⟩] (some [4]))
  .ret))) }
noncomputable def a72 : AFn := { ntmps := 7, results := [.tmp 3], body :=
  (.seq (.reg [⟨(some 3), .mov (.c .nilsl), none⟩] (some [0, 1]))
  (.seq (.reg [⟨(some 4), .mov (.t 0), none⟩,
      ⟨(some 5), .o3 (.mkFn 74 [] [(.t 1)]), none⟩,
      ⟨(some 6), .call (.c (.fn 73 [] [])) [(.t 4), (.t 5)], none⟩,
      ⟨(some 3), .mov (.t 6), none⟩] (some [3]))
  .ret)) }
noncomputable def a73 : AFn := { ntmps := 22, results := [.tmp 4], body :=
  (.seq (.reg [⟨(some 4), .mov (.c .nilsl), none⟩] (some [0, 1]))
  (.seq (.reg [⟨(some 5), .mov (.c .nilsl), none⟩] (some [0, 1, 5]))
  (.seq (.seq (.reg [⟨(some 8), .mov (.t 0), none⟩,
      ⟨(some 9), .u1 (.len .sl) (.t 8), none⟩,
      ⟨(some 10), .mov (.c (.int .i64 0)), none⟩] (some [1, 5, 8, 9, 10]))
  (.block 0
    (.loop
      (.seq (.reg [⟨(some 11), .b2 (.bin .lss) (.t 10) (.t 9), none⟩] (some [1, 5, 8, 9, 10, 11]))
      (.seq (.cond (.t 11)
        .skip
        (.exit 0))
      (.seq (.block 1
        (.seq (.reg [⟨(some 12), .b2 (.iaddr 8) (.t 8) (.t 10), none⟩,
            ⟨(some 13), .u1 (.load (some 8)) (.t 12), none⟩,
            ⟨(some 7), .o3 (.alloc [(.int .i64 0), (.int .i64 0), (.int .i64 0), (.int .i64 0), (.int .i64 0), (.str []), .nilsl, .nilsl]), none⟩,
            ⟨none, .b2 (.store 8) (.t 7) (.t 13), none⟩] (some [1, 5, 7, 8, 9, 10]))
        (.reg [⟨(some 14), .mov (.t 5), none⟩,
            ⟨(some 15), .mov (.t 1), none⟩,
            ⟨(some 16), .u1 (.load (some 8)) (.t 7), none⟩,
            ⟨(some 17), .call (.t 15) [(.t 16)], none⟩,
            ⟨(some 18), .o3 (.bslice 8 [(.t 17)]), none⟩,
            ⟨(some 19), .b2 (.append 8) (.t 14) (.t 18), none⟩,
            ⟨(some 5), .mov (.t 19), none⟩] (some [1, 5, 8, 9, 10]))))
      (.reg [⟨(some 20), .b2 (.bin .add) (.t 10) (.c (.int .i64 1)), none⟩,
          ⟨(some 10), .mov (.t 20), none⟩] (some [1, 5, 8, 9, 10]))))))))
  (.seq (.reg [⟨(some 21), .mov (.t 5), none⟩,
      ⟨(some 4), .mov (.t 21), none⟩] (some [4]))
  .ret)))) }
noncomputable def a74 : AFn := { ntmps := 9, results := [.cell 3 (some 8)], body :=
  (.seq (.reg [⟨(some 2), .u2 .box (.t 0), none⟩,
      ⟨(some 3), .o3 (.alloc [(.int .i64 0), (.int .i64 0), (.int .i64 0), (.int .i64 0), (.int .i64 0), (.str []), .nilsl, .nilsl]), none⟩] (some [1, 2, 3]))
  (.seq (.dreg [⟨⟨(some 4), .u1 (.load none) (.t 1), none⟩, .look [0, 1]⟩,
      ⟨⟨(some 5), .u1 (.load (some 8)) (.t 2), none⟩, .look [0]⟩,
      ⟨⟨(some 6), .call (.c (.fn 75 [] [])) [(.t 5)], none⟩, .hard true⟩,
      ⟨⟨(some 7), .call (.t 4) [(.t 6)], none⟩, .hard true⟩,
      ⟨⟨(some 8), .u1 (.fld 1 (some 8)) (.t 7), none⟩, .soft⟩,
      ⟨⟨none, .b2 (.store 8) (.t 3) (.t 8), none⟩, .hard true⟩] (some [3]))
  .ret)) }
noncomputable def a75 : AFn := { ntmps := 5, results := [.cell 2 (some 29)], body :=
  (.seq (.reg [⟨(some 1), .u2 .box (.t 0), none⟩,
      ⟨(some 2), .o3 (.alloc [(.int .i64 0), (.int .i64 0), (.int .i64 0), (.int .i64 0), (.int .i64 0), (.int .i64 0), (.str []), .nilsl, .nilsl, (.str []), .nilsl, .nilsl, .nilsl, (.bool false), .nilsl, .nilsl, (.int .i64 0), .nilsl, .nilsl, .nilsl, .nilsl, (.int .i64 0), (.str []), .nilsl, .nilsl, (.bool false), .nilsl, .nilsl, .nilsl]), none⟩] (some [1, 2]))
  (.seq (.reg [⟨(some 3), .u1 (.load (some 8)) (.t 1), none⟩,
      ⟨(some 4), .o3 (.build [(.int .i64 0), (.int .i64 0), (.int .i64 0), (.int .i64 0), (.int .i64 0), (.int .i64 0), (.str []), .nilsl, .nilsl, (.str []), .nilsl, .nilsl, .nilsl, (.bool false), .nilsl, .nilsl, (.int .i64 0), .nilsl, .nilsl, .nilsl, .nilsl, (.int .i64 0), (.str []), .nilsl, .nilsl, (.bool false), .nilsl, .nilsl, .nilsl] [(0, 1, (.c (.int .i64 1))), (1, 8, (.t 3))]), none⟩,
      ⟨none, .b2 (.store 29) (.t 2) (.t 4), none⟩] (some [2]))
  .ret)) }
noncomputable def a76 : AFn := { ntmps := 7, results := [.tmp 3], body :=
  (.seq (.reg [⟨(some 3), .mov (.c .nilsl), none⟩] (some [0, 1]))
  (.seq (.reg [⟨(some 4), .mov (.t 0), none⟩,
      ⟨(some 5), .o3 (.mkFn 78 [] [(.t 1)]), none⟩,
      ⟨(some 6), .call (.c (.fn 77 [] [])) [(.t 4), (.t 5)], none⟩,
      ⟨(some 3), .mov (.t 6), none⟩] (some [3]))
  .ret)) }
noncomputable def a77 : AFn := { ntmps := 22, results := [.tmp 4], body :=
  (.seq (.reg [⟨(some 4), .mov (.c .nilsl), none⟩] (some [0, 1]))
  (.seq (.reg [⟨(some 5), .mov (.c .nilsl), none⟩] (some [0, 1, 5]))
  (.seq (.seq (.reg [⟨(some 8), .mov (.t 0), none⟩,
      ⟨(some 9), .u1 (.len .sl) (.t 8), none⟩,
      ⟨(some 10), .mov (.c (.int .i64 0)), none⟩] (some [1, 5, 8, 9, 10]))
  (.block 0
    (.loop
      (.seq (.reg [⟨(some 11), .b2 (.bin .lss) (.t 10) (.t 9), none⟩] (some [1, 5, 8, 9, 10, 11]))
      (.seq (.cond (.t 11)
        .skip
        (.exit 0))
      (.seq (.block 1
        (.seq (.reg [⟨(some 12), .b2 (.iaddr 6) (.t 8) (.t 10), none⟩,
            ⟨(some 13), .u1 (.load (some 6)) (.t 12), none⟩,
            ⟨(some 7), .o3 (.alloc [(.int .i64 0), (.str []), .nilsl, .nilsl, (.bool false), .nilsl]), none⟩,
            ⟨none, .b2 (.store 6) (.t 7) (.t 13), none⟩] (some [1, 5, 7, 8, 9, 10]))
        (.reg [⟨(some 14), .mov (.t 5), none⟩,
            ⟨(some 15), .mov (.t 1), none⟩,
            ⟨(some 16), .u1 (.load (some 6)) (.t 7), none⟩,
            ⟨(some 17), .call (.t 15) [(.t 16)], none⟩,
            ⟨(some 18), .o3 (.bslice 6 [(.t 17)]), none⟩,
            ⟨(some 19), .b2 (.append 6) (.t 14) (.t 18), none⟩,
            ⟨(some 5), .mov (.t 19), none⟩] (some [1, 5, 8, 9, 10]))))
      (.reg [⟨(some 20), .b2 (.bin .add) (.t 10) (.c (.int .i64 1)), none⟩,
          ⟨(some 10), .mov (.t 20), none⟩] (some [1, 5, 8, 9, 10]))))))))
  (.seq (.reg [⟨(some 21), .mov (.t 5), none⟩,
      ⟨(some 4), .mov (.t 21), none⟩] (some [4]))
  .ret)))) }
noncomputable def a80 : AFn := { ntmps := 7, results := [.tmp 3], body :=
  (.seq (.reg [⟨(some 3), .mov (.c .nilsl), none⟩] (some [0, 1]))
  (.seq (.reg [⟨(some 4), .mov (.t 0), none⟩,
      ⟨(some 5), .o3 (.mkFn 82 [] [(.t 1)]), none⟩,
      ⟨(some 6), .call (.c (.fn 81 [] [])) [(.t 4), (.t 5)], none⟩,
      ⟨(some 3), .mov (.t 6), none⟩] (some [3]))
  .ret)) }
noncomputable def a81 : AFn := { ntmps := 22, results := [.tmp 4], body :=
  (.seq (.reg [⟨(some 4), .mov (.c .nilsl), none⟩] (some [0, 1]))
  (.seq (.reg [⟨(some 5), .mov (.c .nilsl), none⟩] (some [0, 1, 5]))
  (.seq (.seq (.reg [⟨(some 8), .mov (.t 0), none⟩,
      ⟨(some 9), .u1 (.len .sl) (.t 8), none⟩,
      ⟨(some 10), .mov (.c (.int .i64 0)), none⟩] (some [1, 5, 8, 9, 10]))
  (.block 0
    (.loop
      (.seq (.reg [⟨(some 11), .b2 (.bin .lss) (.t 10) (.t 9), none⟩] (some [1, 5, 8, 9, 10, 11]))
      (.seq (.cond (.t 11)
        .skip
        (.exit 0))
      (.seq (.block 1
        (.seq (.reg [⟨(some 12), .b2 (.iaddr 7) (.t 8) (.t 10), none⟩,
            ⟨(some 13), .u1 (.load (some 7)) (.t 12), none⟩,
            ⟨(some 7), .o3 (.alloc [(.str []), .nilsl, .nilsl, .nilsl, (.bool false), .nilsl, .nilsl]), none⟩,
            ⟨none, .b2 (.store 7) (.t 7) (.t 13), none⟩] (some [1, 5, 7, 8, 9, 10]))
        (.reg [⟨(some 14), .mov (.t 5), none⟩,
            ⟨(some 15), .mov (.t 1), none⟩,
            ⟨(some 16), .u1 (.load (some 7)) (.t 7), none⟩,
            ⟨(some 17), .call (.t 15) [(.t 16)], none⟩,
            ⟨(some 18), .o3 (.bslice 7 [(.t 17)]), none⟩,
            ⟨(some 19), .b2 (.append 7) (.t 14) (.t 18), none⟩,
            ⟨(some 5), .mov (.t 19), none⟩] (some [1, 5, 8, 9, 10]))))
      (.reg [⟨(some 20), .b2 (.bin .add) (.t 10) (.c (.int .i64 1)), none⟩,
          ⟨(some 10), .mov (.t 20), none⟩] (some [1, 5, 8, 9, 10]))))))))
  (.seq (.reg [⟨(some 21), .mov (.t 5), none⟩,
      ⟨(some 4), .mov (.t 21), none⟩] (some [4]))
  .ret)))) }
noncomputable def a82 : AFn := { ntmps := 9, results := [.cell 3 (some 7)], body :=
  (.seq (.reg [⟨(some 2), .u2 .box (.t 0), none⟩,
      ⟨(some 3), .o3 (.alloc [(.str []), .nilsl, .nilsl, .nilsl, (.bool false), .nilsl, .nilsl]), none⟩] (some [1, 2, 3]))
  (.seq (.dreg [⟨⟨(some 4), .u1 (.load none) (.t 1), none⟩, .look [0, 1]⟩,
      ⟨⟨(some 5), .u1 (.load (some 7)) (.t 2), none⟩, .look [0]⟩,
      ⟨⟨(some 6), .call (.c (.fn 53 [] [])) [(.t 5)], none⟩, .hard true⟩,
      ⟨⟨(some 7), .call (.t 4) [(.t 6)], none⟩, .hard true⟩,
      ⟨⟨(some 8), .u1 (.fld 9 (some 7)) (.t 7), none⟩, .soft⟩,
      ⟨⟨none, .b2 (.store 7) (.t 3) (.t 8), none⟩, .hard true⟩] (some [3]))
  .ret)) }
noncomputable def a83 : AFn := { ntmps := 22, results := [.tmp 4], body :=
  (.seq (.reg [⟨(some 4), .mov (.c .nilsl), none⟩] (some [0, 1]))
  (.seq (.reg [⟨(some 5), .mov (.c .nilsl), none⟩] (some [0, 1, 5]))
  (.seq (.seq (.reg [⟨(some 8), .mov (.t 0), none⟩,
      ⟨(some 9), .u1 (.len .sl) (.t 8), none⟩,
      ⟨(some 10), .mov (.c (.int .i64 0)), none⟩] (some [1, 5, 8, 9, 10]))
  (.block 0
    (.loop
      (.seq (.reg [⟨(some 11), .b2 (.bin .lss) (.t 10) (.t 9), none⟩] (some [1, 5, 8, 9, 10, 11]))
      (.seq (.cond (.t 11)
        .skip
        (.exit 0))
      (.seq (.block 1
        (.seq (.reg [⟨(some 12), .b2 (.iaddr 5) (.t 8) (.t 10), none⟩,
            ⟨(some 13), .u1 (.load (some 5)) (.t 12), none⟩,
            ⟨(some 7), .o3 (.alloc [(.int .i64 0), .nilsl, .nilsl, .nilsl, .nilsl]), none⟩,
            ⟨none, .b2 (.store 5) (.t 7) (.t 13), none⟩] (some [1, 5, 7, 8, 9, 10]))
        (.reg [⟨(some 14), .mov (.t 5), none⟩,
            ⟨(some 15), .mov (.t 1), none⟩,
            ⟨(some 16), .u1 (.load (some 5)) (.t 7), none⟩,
            ⟨(some 17), .call (.t 15) [(.t 16)], none⟩,
            ⟨(some 18), .o3 (.bslice 5 [(.t 17)]), none⟩,
            ⟨(some 19), .b2 (.append 5) (.t 14) (.t 18), none⟩,
            ⟨(some 5), .mov (.t 19), none⟩] (some [1, 5, 8, 9, 10]))))
      (.reg [⟨(some 20), .b2 (.bin .add) (.t 10) (.c (.int .i64 1)), none⟩,
          ⟨(some 10), .mov (.t 20), none⟩] (some [1, 5, 8, 9, 10]))))))))
  (.seq (.reg [⟨(some 21), .mov (.t 5), none⟩,
      ⟨(some 4), .mov (.t 21), none⟩] (some [4]))
  .ret)))) }
noncomputable def a84 : AFn := { ntmps := 9, results := [.cell 3 (some 5)], body :=
  (.seq (.reg [⟨(some 2), .u2 .box (.t 0), none⟩,
      ⟨(some 3), .o3 (.alloc [(.int .i64 0), .nilsl, .nilsl, .nilsl, .nilsl]), none⟩] (some [1, 2, 3]))
  (.seq (.dreg [⟨⟨(some 4), .u1 (.load none) (.t 1), none⟩, .look [0, 1]⟩,
      ⟨⟨(some 5), .u1 (.load (some 5)) (.t 2), none⟩, .look [0]⟩,
      ⟨⟨(some 6), .call (.c (.fn 85 [] [])) [(.t 5)], none⟩, .hard true⟩,
      ⟨⟨(some 7), .call (.t 4) [(.t 6)], none⟩, .hard true⟩,
      ⟨⟨(some 8), .u1 (.fld 16 (some 5)) (.t 7), none⟩, .soft⟩,
      ⟨⟨none, .b2 (.store 5) (.t 3) (.t 8), none⟩, .hard true⟩] (some [3]))
  .ret)) }
noncomputable def a85 : AFn := { ntmps := 5, results := [.cell 2 (some 29)], body :=
  (.seq (.reg [⟨(some 1), .u2 .box (.t 0), none⟩,
      ⟨(some 2), .o3 (.alloc [(.int .i64 0), (.int .i64 0), (.int .i64 0), (.int .i64 0), (.int .i64 0), (.int .i64 0), (.str []), .nilsl, .nilsl, (.str []), .nilsl, .nilsl, .nilsl, (.bool false), .nilsl, .nilsl, (.int .i64 0), .nilsl, .nilsl, .nilsl, .nilsl, (.int .i64 0), (.str []), .nilsl, .nilsl, (.bool false), .nilsl, .nilsl, .nilsl]), none⟩] (some [1, 2]))
  (.seq (.reg [⟨(some 3), .u1 (.load (some 5)) (.t 1), none⟩,
      ⟨(some 4), .o3 (.build [(.int .i64 0), (.int .i64 0), (.int .i64 0), (.int .i64 0), (.int .i64 0), (.int .i64 0), (.str []), .nilsl, .nilsl, (.str []), .nilsl, .nilsl, .nilsl, (.bool false), .nilsl, .nilsl, (.int .i64 0), .nilsl, .nilsl, .nilsl, .nilsl, (.int .i64 0), (.str []), .nilsl, .nilsl, (.bool false), .nilsl, .nilsl, .nilsl] [(0, 1, (.c (.int .i64 3))), (16, 5, (.t 3))]), none⟩,
      ⟨none, .b2 (.store 29) (.t 2) (.t 4), none⟩] (some [2]))
  .ret)) }
noncomputable def a86 : AFn := { ntmps := 8, results := [.tmp 2], body :=
  (.seq (.reg [⟨(some 2), .mov (.c .nilsl), none⟩] (some [0]))
  (.seq (.seq (.reg [⟨(some 3), .mov (.t 0), none⟩,
      ⟨(some 4), .b2 (.eq false (.simple .sl)) (.t 3) (.c .nilsl), none⟩] (some [0, 4]))
  (.cond (.t 4)
    (.seq (.reg [⟨(some 2), .mov (.c .nilsl), none⟩] (some [2]))
    .ret)
    .skip))
  (.seq (.reg [⟨(some 5), .o3 (.bslice 1 []), none⟩,
      ⟨(some 6), .mov (.t 0), none⟩,
      ⟨(some 7), .b2 (.append 1) (.t 5) (.t 6), none⟩,
      ⟨(some 2), .mov (.t 7), none⟩] (some [2]))
  .ret))) }
noncomputable def a90 : AFn := { ntmps := 6, results := [.tmp 4], body :=
  (.seq (.reg [⟨(some 2), .u2 .box (.t 0), none⟩,
      ⟨(some 3), .u2 .box (.t 1), none⟩,
      ⟨(some 4), .mov (.c .nilfn), none⟩] (some [2, 3]))
  (.seq (.reg [⟨(some 5), .o3 (.mkFn 107 [] [(.t 2), (.t 3)]), none⟩,
      ⟨(some 4), .mov (.t 5), none⟩] (some [4]))
  .ret)) }
noncomputable def a91 : AFn := { ntmps := 6, results := [.tmp 4], body :=
  (.seq (.reg [⟨(some 2), .u2 .box (.t 0), none⟩,
      ⟨(some 3), .u2 .box (.t 1), none⟩,
      ⟨(some 4), .mov (.c .nilfn), none⟩] (some [2, 3]))
  (.seq (.reg [⟨(some 5), .o3 (.mkFn 108 [] [(.t 2), (.t 3)]), none⟩,
      ⟨(some 4), .mov (.t 5), none⟩] (some [4]))
  .ret)) }
noncomputable def a92 : AFn := { ntmps := 6, results := [.tmp 4], body :=
  (.seq (.reg [⟨(some 2), .u2 .box (.t 0), none⟩,
      ⟨(some 3), .u2 .box (.t 1), none⟩,
      ⟨(some 4), .mov (.c .nilfn), none⟩] (some [2, 3]))
  (.seq (.reg [⟨(some 5), .o3 (.mkFn 109 [] [(.t 2), (.t 3)]), none⟩,
      ⟨(some 4), .mov (.t 5), none⟩] (some [4]))
  .ret)) }
noncomputable def a93 : AFn := { ntmps := 6, results := [.tmp 4], body :=
  (.seq (.reg [⟨(some 2), .u2 .box (.t 0), none⟩,
      ⟨(some 3), .u2 .box (.t 1), none⟩,
      ⟨(some 4), .mov (.c .nilfn), none⟩] (some [2, 3]))
  (.seq (.reg [⟨(some 5), .o3 (.mkFn 110 [] [(.t 2), (.t 3)]), none⟩,
      ⟨(some 4), .mov (.t 5), none⟩] (some [4]))
  .ret)) }
noncomputable def a95 : AFn := { ntmps := 19, results := [], body :=
  (.seq (.reg [⟨(some 2), .u2 .box (.t 0), none⟩] (some [1, 2, 13]))
  (.seq (.reg [⟨(some 6), .u1 (.load none) (.t 1), none⟩,
      ⟨(some 7), .u1 (.len .sl) (.t 6), none⟩,
      ⟨(some 8), .mov (.c (.int .i64 0)), none⟩] (some [2, 6, 7, 8, 13]))
  (.block 0
    (.loop
      (.seq (.reg [⟨(some 9), .b2 (.bin .lss) (.t 8) (.t 7), none⟩] (some [2, 6, 7, 8, 9, 13]))
      (.seq (.cond (.t 9)
        .skip
        (.exit 0))
      (.seq (.block 1
        (.seq (.reg [⟨(some 10), .b2 (.iaddr 1) (.t 6) (.t 8), none⟩,
            ⟨(some 11), .u1 (.load none) (.t 10), none⟩,
            ⟨(some 4), .mov (.t 11), none⟩] (some [2, 4, 6, 7, 8, 13]))
        (.seq (.reg [⟨(some 12), .mov (.t 4), none⟩] (some [2, 6, 7, 8, 12, 13]))
        (.block 2
          (.rf (.t 12) [13]
            (.reg [⟨(some 5), .o3 (.alloc [(.int .i64 0), (.int .i64 0), (.int .i64 0), (.int .i64 0), (.int .i64 0), (.int .i64 0), (.str []), .nilsl, .nilsl, (.str []), .nilsl, .nilsl, .nilsl, (.bool false), .nilsl, .nilsl, (.int .i64 0), .nilsl, .nilsl, .nilsl, .nilsl, (.int .i64 0), (.str []), .nilsl, .nilsl, (.bool false), .nilsl, .nilsl, .nilsl]), none⟩,
                ⟨none, .b2 (.store 29) (.t 5) (.t 13), none⟩] (some [2, 5]))
            (.block 3
              (.seq (.reg [⟨(some 14), .u1 (.load none) (.t 2), none⟩,
                  ⟨(some 15), .u1 (.load (some 29)) (.t 5), none⟩,
                  ⟨(some 16), .call (.t 14) [(.t 15)], none⟩,
                  ⟨(some 17), .u2 (.un .not) (.t 16), none⟩] (some [17]))
              (.cond (.t 17)
                .ret
                .skip))))))))
      (.reg [⟨(some 18), .b2 (.bin .add) (.t 8) (.c (.int .i64 1)), none⟩,
          ⟨(some 8), .mov (.t 18), none⟩] (some [2, 6, 7, 8, 13]))))))))) }
noncomputable def a96 : AFn := { ntmps := 13, results := [.cell 2 none, .cell 3 none, .tmp 4], body :=
  (.seq (.reg [⟨(some 1), .u2 .box (.t 0), none⟩,
      ⟨(some 2), .o3 (.alloc [(.int .i64 0)]), none⟩,
      ⟨(some 3), .o3 (.alloc [(.int .i64 0)]), none⟩,
      ⟨(some 4), .mov (.c (.bool false)), none⟩] (some [1, 2, 3]))
  (.seq (.reg [⟨(some 5), .o3 (.alloc [.nilfn]), none⟩] (some [1, 2, 3, 5]))
  (.seq (.reg [⟨(some 6), .o3 (.mkFn 112 [] [(.t 2), (.t 3), (.t 5)]), none⟩,
      ⟨none, .b2 (.store 1) (.t 5) (.t 6), none⟩] (some [1, 2, 3, 5]))
  (.seq (.reg [⟨(some 7), .u1 (.load none) (.t 5), none⟩,
      ⟨(some 8), .u1 (.load (some 29)) (.t 1), none⟩,
      ⟨(some 9), .call (.t 7) [(.t 8), (.c (.int .i64 1))], none⟩,
      ⟨(some 4), .mov (.t 9), none⟩] (some [2, 3, 4]))
  (.seq (.dreg [⟨⟨(some 10), .u1 (.load none) (.t 2), none⟩, .look [0]⟩,
      ⟨⟨(some 11), .u1 (.load none) (.t 3), none⟩, .look [0, 1]⟩,
      ⟨⟨(some 12), .mov (.t 4), none⟩, .soft⟩,
      ⟨⟨none, .b2 (.store 1) (.t 2) (.t 10), none⟩, .hard true⟩,
      ⟨⟨none, .b2 (.store 1) (.t 3) (.t 11), none⟩, .hard true⟩,
      ⟨⟨(some 4), .mov (.t 12), none⟩, .soft⟩] (some [2, 3, 4]))
  .ret))))) }
noncomputable def a97 : AFn := { ntmps := 8, results := [.tmp 1], body :=
  (.seq (.reg [⟨(some 1), .mov (.c (.bool false)), none⟩] (some [0]))
  (.seq (.dreg [⟨⟨(some 2), .u1 (.faddr 1) (.t 0), none⟩, .soft⟩,
      ⟨⟨(some 3), .u1 (.load (some 8)) (.t 2), none⟩, .look [0]⟩,
      ⟨⟨(some 4), .call (.c (.fn 98 [] [])) [(.t 3)], none⟩, .hard false⟩,
      ⟨⟨(some 5), .u1 (.faddr 1) (.t 0), none⟩, .soft⟩,
      ⟨⟨(some 6), .u1 (.load (some 8)) (.t 5), none⟩, .look [0, 1]⟩,
      ⟨⟨(some 7), .call (.c (.fn 99 [] [])) [(.t 4), (.t 6)], none⟩, .hard true⟩,
      ⟨⟨(some 1), .mov (.t 7), none⟩, .soft⟩] (some [1]))
  .ret)) }
noncomputable def a98 : AFn := { ntmps := 217, results := [.cell 2 (some 9)], body :=
  (.seq (.reg [⟨(some 1), .u2 .box (.t 0), none⟩,
      ⟨(some 2), .o3 (.alloc [(.int .i64 0), (.int .i64 0), (.int .i64 0), (.int .i64 0), (.int .i64 0), (.str []), .nilsl, .nilsl, (.bool false)]), none⟩] (some [1, 2]))
  (.seq (.reg [⟨(some 3), .o3 (.alloc [(.int .i64 0), (.int .i64 0), (.int .i64 0), (.int .i64 0), (.int .i64 0), (.str []), .nilsl, .nilsl, (.bool false)]), none⟩] (some [1, 2, 3]))
  (.seq (.reg [⟨(some 6), .o3 (.mkFn 114 [] [(.t 1), (.t 3)]), none⟩,
      ⟨(some 4), .mov (.t 6), none⟩] (some [1, 2, 3, 4]))
  (.seq (.reg [⟨(some 7), .o3 (.mkFn 115 [] [(.t 1)]), none⟩,
      ⟨(some 5), .mov (.t 7), none⟩] (some [1, 2, 3, 4, 5]))
  (.seq (.seq (.reg [⟨(some 8), .u1 (.faddr 0) (.t 1), none⟩,
      ⟨(some 9), .u1 (.load none) (.t 8), none⟩] (some [1, 2, 3, 4, 5, 9]))
  (.block 0
    (.seq (.reg [⟨(some 11), .b2 (.eq false (.simple .int)) (.t 9) (.c (.int .i64 1)), none⟩,
        ⟨(some 10), .mov (.t 11), none⟩] (some [1, 2, 3, 4, 5, 9, 10]))
    (.cond (.t 10)
      (.dreg [⟨⟨(some 12), .u1 (.faddr 5) (.t 1), none⟩, .soft⟩,
          ⟨⟨(some 13), .u1 (.load none) (.t 12), none⟩, .look [0, 1]⟩,
          ⟨⟨(some 14), .u1 (.faddr 5) (.t 1), none⟩, .soft⟩,
          ⟨⟨(some 15), .u1 (.load none) (.t 14), none⟩, .look [0]⟩,
          ⟨⟨(some 16), .call (.c (.fn 116 [] [])) [(.t 15)], none⟩, .hard false⟩,
          ⟨⟨(some 17), .u1 (.faddr 0) (.t 3), none⟩, .soft⟩,
          ⟨⟨(some 18), .u1 (.faddr 5) (.t 17), none⟩, .soft⟩,
          ⟨⟨none, .b2 (.store 1) (.t 18) (.t 13), none⟩, .hard true⟩,
          ⟨⟨(some 19), .u1 (.faddr 8) (.t 3), none⟩, .soft⟩,
          ⟨⟨none, .b2 (.store 1) (.t 19) (.t 16), none⟩, .hard true⟩] (some [2, 3]))
      (.seq (.reg [⟨(some 21), .b2 (.eq false (.simple .int)) (.t 9) (.c (.int .i64 2)), none⟩,
          ⟨(some 20), .mov (.t 21), none⟩] (some [1, 2, 3, 4, 5, 9, 20]))
      (.cond (.t 20)
        (.dreg [⟨⟨(some 22), .u1 (.faddr 3) (.t 1), none⟩, .soft⟩,
            ⟨⟨(some 23), .u1 (.load (some 2)) (.t 22), none⟩, .look [0, 1]⟩,
            ⟨⟨(some 24), .u1 (.faddr 3) (.t 1), none⟩, .soft⟩,
            ⟨⟨(some 25), .u1 (.load (some 2)) (.t 24), none⟩, .look [0]⟩,
            ⟨⟨(some 26), .call (.c (.fn 117 [] [])) [(.t 25)], none⟩, .hard false⟩,
            ⟨⟨(some 27), .mov (.t 26), none⟩, .soft⟩,
            ⟨⟨(some 28), .u1 (.faddr 3) (.t 1), (some (27, true))⟩, .soft⟩,
            ⟨⟨(some 29), .u1 (.faddr 0) (.t 28), (some (27, true))⟩, .soft⟩,
            ⟨⟨(some 30), .u1 (.load none) (.t 29), (some (27, true))⟩, .look [1, 2]⟩,
            ⟨⟨(some 31), .b2 (.bin .geq) (.t 30) (.c (.int .i64 0)), (some (27, true))⟩, .soft⟩,
            ⟨⟨(some 32), .o3 (.pick (.t 27) (.t 31) (.c (.bool false))), none⟩, .soft⟩,
            ⟨⟨(some 33), .u1 (.faddr 0) (.t 3), none⟩, .soft⟩,
            ⟨⟨(some 34), .u1 (.faddr 3) (.t 33), none⟩, .soft⟩,
            ⟨⟨none, .b2 (.store 2) (.t 34) (.t 23), none⟩, .hard true⟩,
            ⟨⟨(some 35), .u1 (.faddr 8) (.t 3), none⟩, .soft⟩,
            ⟨⟨none, .b2 (.store 1) (.t 35) (.t 32), none⟩, .hard true⟩] (some [2, 3]))
        (.seq (.reg [⟨(some 37), .b2 (.eq false (.simple .int)) (.t 9) (.c (.int .i64 3)), none⟩,
            ⟨(some 36), .mov (.t 37), none⟩] (some [1, 2, 3, 4, 5, 9, 36]))
        (.cond (.t 36)
          (.dreg [⟨⟨(some 38), .u1 (.faddr 2) (.t 1), none⟩, .soft⟩,
              ⟨⟨(some 39), .u1 (.load none) (.t 38), none⟩, .look [0]⟩,
              ⟨⟨(some 40), .u1 (.faddr 2) (.t 1), none⟩, .soft⟩,
              ⟨⟨(some 41), .u1 (.load none) (.t 40), none⟩, .look [0]⟩,
              ⟨⟨(some 42), .b2 (.bin .geq) (.t 41) (.c (.int .i64 32)), none⟩, .soft⟩,
              ⟨⟨(some 43), .mov (.t 42), none⟩, .soft⟩,
              ⟨⟨(some 44), .u1 (.faddr 2) (.t 1), (some (43, true))⟩, .soft⟩,
              ⟨⟨(some 45), .u1 (.load none) (.t 44), (some (43, true))⟩, .look [0]⟩,
              ⟨⟨(some 46), .b2 (.bin .leq) (.t 45) (.c (.int .i64 126)), (some (43, true))⟩, .soft⟩,
              ⟨⟨(some 47), .o3 (.pick (.t 43) (.t 46) (.c (.bool false))), none⟩, .soft⟩,
              ⟨⟨(some 48), .mov (.t 47), none⟩, .soft⟩,
              ⟨⟨(some 49), .u1 (.faddr 2) (.t 1), (some (48, true))⟩, .soft⟩,
              ⟨⟨(some 50), .u1 (.load none) (.t 49), (some (48, true))⟩, .look [0, 1]⟩,
              ⟨⟨(some 51), .b2 (.eq true (.simple .int)) (.t 50) (.c (.int .i64 39)), (some (48, true))⟩, .soft⟩,
              ⟨⟨(some 52), .o3 (.pick (.t 48) (.t 51) (.c (.bool false))), none⟩, .soft⟩,
              ⟨⟨(some 53), .u1 (.faddr 0) (.t 3), none⟩, .soft⟩,
              ⟨⟨(some 54), .u1 (.faddr 2) (.t 53), none⟩, .soft⟩,
              ⟨⟨none, .b2 (.store 1) (.t 54) (.t 39), none⟩, .hard true⟩,
              ⟨⟨(some 55), .u1 (.faddr 8) (.t 3), none⟩, .soft⟩,
              ⟨⟨none, .b2 (.store 1) (.t 55) (.t 52), none⟩, .hard true⟩] (some [2, 3]))
          (.seq (.reg [⟨(some 57), .b2 (.eq false (.simple .int)) (.t 9) (.c (.int .i64 4)), none⟩,
              ⟨(some 56), .mov (.t 57), none⟩] (some [1, 2, 3, 4, 5, 9, 56]))
          (.cond (.t 56)
            (.dreg [⟨⟨(some 58), .u1 (.faddr 5) (.t 1), none⟩, .soft⟩,
                ⟨⟨(some 59), .u1 (.load none) (.t 58), none⟩, .look [0, 1]⟩,
                ⟨⟨(some 60), .u1 (.faddr 5) (.t 1), none⟩, .soft⟩,
                ⟨⟨(some 61), .u1 (.load none) (.t 60), none⟩, .look [0]⟩,
                ⟨⟨(some 62), .call (.c (.fn 118 [] [])) [(.t 61)], none⟩, .hard false⟩,
                ⟨⟨(some 63), .u1 (.faddr 0) (.t 3), none⟩, .soft⟩,
                ⟨⟨(some 64), .u1 (.faddr 5) (.t 63), none⟩, .soft⟩,
                ⟨⟨none, .b2 (.store 1) (.t 64) (.t 59), none⟩, .hard true⟩,
                ⟨⟨(some 65), .u1 (.faddr 8) (.t 3), none⟩, .soft⟩,
                ⟨⟨none, .b2 (.store 1) (.t 65) (.t 62), none⟩, .hard true⟩] (some [2, 3]))
            (.seq (.seq (.reg [⟨(some 67), .b2 (.eq false (.simple .int)) (.t 9) (.c (.int .i64 5)), none⟩,
                ⟨(some 66), .mov (.t 67), none⟩] (some [1, 2, 3, 4, 5, 9, 66]))
            (.cond (.t 66)
              .skip
              (.seq (.reg [⟨(some 68), .b2 (.eq false (.simple .int)) (.t 9) (.c (.int .i64 6)), none⟩,
                  ⟨(some 66), .mov (.t 68), none⟩] (some [1, 2, 3, 4, 5, 9, 66]))
              (.cond (.t 66)
                .skip
                (.reg [⟨(some 69), .b2 (.eq false (.simple .int)) (.t 9) (.c (.int .i64 7)), none⟩,
                    ⟨(some 66), .mov (.t 69), none⟩] (some [1, 2, 3, 4, 5, 9, 66]))))))
            (.cond (.t 66)
              (.reg [⟨(some 70), .u1 (.faddr 8) (.t 3), none⟩,
                  ⟨none, .b2 (.store 1) (.t 70) (.c (.bool true)), none⟩] (some [2, 3]))
              (.seq (.seq (.reg [⟨(some 72), .b2 (.eq false (.simple .int)) (.t 9) (.c (.int .i64 8)), none⟩,
                  ⟨(some 71), .mov (.t 72), none⟩] (some [1, 2, 3, 4, 5, 9, 71]))
              (.cond (.t 71)
                .skip
                (.reg [⟨(some 73), .b2 (.eq false (.simple .int)) (.t 9) (.c (.int .i64 10)), none⟩,
                    ⟨(some 71), .mov (.t 73), none⟩] (some [1, 2, 3, 4, 5, 9, 71]))))
              (.cond (.t 71)
                (.dreg [⟨⟨(some 74), .u1 (.faddr 5) (.t 1), none⟩, .soft⟩,
                    ⟨⟨(some 75), .u1 (.load none) (.t 74), none⟩, .look [0, 1]⟩,
                    ⟨⟨(some 76), .u1 (.faddr 5) (.t 1), none⟩, .soft⟩,
                    ⟨⟨(some 77), .u1 (.load none) (.t 76), none⟩, .look [0]⟩,
                    ⟨⟨(some 78), .call (.c (.fn 119 [] [])) [(.t 77)], none⟩, .hard false⟩,
                    ⟨⟨(some 79), .u1 (.faddr 0) (.t 3), none⟩, .soft⟩,
                    ⟨⟨(some 80), .u1 (.faddr 5) (.t 79), none⟩, .soft⟩,
                    ⟨⟨none, .b2 (.store 1) (.t 80) (.t 75), none⟩, .hard true⟩,
                    ⟨⟨(some 81), .u1 (.faddr 8) (.t 3), none⟩, .soft⟩,
                    ⟨⟨none, .b2 (.store 1) (.t 81) (.t 78), none⟩, .hard true⟩] (some [2, 3]))
                (.seq (.reg [⟨(some 83), .b2 (.eq false (.simple .int)) (.t 9) (.c (.int .i64 9)), none⟩,
                    ⟨(some 82), .mov (.t 83), none⟩] (some [1, 2, 3, 4, 5, 9, 82]))
                (.cond (.t 82)
                  (.seq (.reg [⟨(some 84), .mov (.t 4), none⟩,
                      ⟨(some 85), .call (.t 84) [(.c (.int .i64 1))], none⟩] (some [1, 2, 3, 5]))
                  (.dreg [⟨⟨(some 86), .u1 (.faddr 5) (.t 1), none⟩, .soft⟩,
                      ⟨⟨(some 87), .u1 (.load none) (.t 86), none⟩, .look [0, 1, 2, 3]⟩,
                      ⟨⟨(some 88), .u1 (.faddr 8) (.t 3), none⟩, .soft⟩,
                      ⟨⟨(some 89), .u1 (.load none) (.t 88), none⟩, .look [0]⟩,
                      ⟨⟨(some 90), .mov (.t 89), none⟩, .soft⟩,
                      ⟨⟨(some 91), .u1 (.faddr 5) (.t 1), (some (90, true))⟩, .soft⟩,
                      ⟨⟨(some 92), .u1 (.load none) (.t 91), (some (90, true))⟩, .look [0]⟩,
                      ⟨⟨(some 93), .call (.c (.fn 119 [] [])) [(.t 92)], (some (90, true))⟩, .hard false⟩,
                      ⟨⟨(some 94), .o3 (.pick (.t 90) (.t 93) (.c (.bool false))), none⟩, .soft⟩,
                      ⟨⟨(some 95), .mov (.t 94), none⟩, .soft⟩,
                      ⟨⟨(some 96), .mov (.t 5), (some (95, true))⟩, .soft⟩,
                      ⟨⟨(some 97), .call (.t 96) [], (some (95, true))⟩, .hard false⟩,
                      ⟨⟨(some 98), .call (.c (.fn 120 [] [])) [(.t 97), (.c (.bool false))], (some (95, true))⟩, .hard false⟩,
                      ⟨⟨(some 99), .o3 (.pick (.t 95) (.t 98) (.c (.bool false))), none⟩, .soft⟩,
                      ⟨⟨(some 100), .u1 (.faddr 0) (.t 3), none⟩, .soft⟩,
                      ⟨⟨(some 101), .u1 (.faddr 5) (.t 100), none⟩, .soft⟩,
                      ⟨⟨none, .b2 (.store 1) (.t 101) (.t 87), none⟩, .hard true⟩,
                      ⟨⟨(some 102), .u1 (.faddr 8) (.t 3), none⟩, .soft⟩,
                      ⟨⟨none, .b2 (.store 1) (.t 102) (.t 99), none⟩, .hard true⟩] (some [2, 3])))
                  (.seq (.reg [⟨(some 104), .b2 (.eq false (.simple .int)) (.t 9) (.c (.int .i64 11)), none⟩,
                      ⟨(some 103), .mov (.t 104), none⟩] (some [1, 2, 3, 4, 5, 9, 103]))
                  (.cond (.t 103)
                    (.seq (.reg [⟨(some 105), .mov (.t 4), none⟩,
                        ⟨(some 106), .call (.t 105) [(.c (.int .i64 2))], none⟩] (some [2, 3, 5]))
                    (.reg [⟨(some 107), .u1 (.faddr 8) (.t 3), none⟩,
                        ⟨(some 108), .u1 (.load none) (.t 107), none⟩,
                        ⟨(some 109), .mov (.t 108), none⟩,
                        ⟨(some 110), .mov (.t 5), (some (109, true))⟩,
                        ⟨(some 111), .call (.t 110) [], (some (109, true))⟩,
                        ⟨(some 112), .call (.c (.fn 120 [] [])) [(.t 111), (.c (.bool false))], (some (109, true))⟩,
                        ⟨(some 113), .o3 (.pick (.t 109) (.t 112) (.c (.bool false))), none⟩,
                        ⟨(some 114), .u1 (.faddr 8) (.t 3), none⟩,
                        ⟨none, .b2 (.store 1) (.t 114) (.t 113), none⟩] (some [2, 3])))
                    (.seq (.seq (.reg [⟨(some 116), .b2 (.eq false (.simple .int)) (.t 9) (.c (.int .i64 12)), none⟩,
                        ⟨(some 115), .mov (.t 116), none⟩] (some [1, 2, 3, 4, 5, 9, 115]))
                    (.cond (.t 115)
                      .skip
                      (.seq (.reg [⟨(some 117), .b2 (.eq false (.simple .int)) (.t 9) (.c (.int .i64 13)), none⟩,
                          ⟨(some 115), .mov (.t 117), none⟩] (some [1, 2, 3, 4, 5, 9, 115]))
                      (.cond (.t 115)
                        .skip
                        (.reg [⟨(some 118), .b2 (.eq false (.simple .int)) (.t 9) (.c (.int .i64 14)), none⟩,
                            ⟨(some 115), .mov (.t 118), none⟩] (some [1, 2, 3, 4, 5, 9, 115]))))))
                    (.cond (.t 115)
                      (.seq (.reg [⟨(some 119), .mov (.t 4), none⟩,
                          ⟨(some 120), .call (.t 119) [(.c (.int .i64 1))], none⟩] (some [2, 3, 5]))
                      (.reg [⟨(some 121), .u1 (.faddr 8) (.t 3), none⟩,
                          ⟨(some 122), .u1 (.load none) (.t 121), none⟩,
                          ⟨(some 123), .mov (.t 122), none⟩,
                          ⟨(some 124), .mov (.t 5), (some (123, true))⟩,
                          ⟨(some 125), .call (.t 124) [], (some (123, true))⟩,
                          ⟨(some 126), .call (.c (.fn 120 [] [])) [(.t 125), (.c (.bool false))], (some (123, true))⟩,
                          ⟨(some 127), .o3 (.pick (.t 123) (.t 126) (.c (.bool false))), none⟩,
                          ⟨(some 128), .u1 (.faddr 8) (.t 3), none⟩,
                          ⟨none, .b2 (.store 1) (.t 128) (.t 127), none⟩] (some [2, 3])))
                      (.seq (.seq (.reg [⟨(some 130), .b2 (.eq false (.simple .int)) (.t 9) (.c (.int .i64 15)), none⟩,
                          ⟨(some 129), .mov (.t 130), none⟩] (some [1, 2, 3, 4, 5, 9, 129]))
                      (.cond (.t 129)
                        .skip
                        (.reg [⟨(some 131), .b2 (.eq false (.simple .int)) (.t 9) (.c (.int .i64 16)), none⟩,
                            ⟨(some 129), .mov (.t 131), none⟩] (some [1, 2, 3, 4, 5, 9, 129]))))
                      (.cond (.t 129)
                        (.seq (.reg [⟨(some 132), .mov (.t 4), none⟩,
                            ⟨(some 133), .call (.t 132) [(.c (.int .i64 1))], none⟩] (some [2, 3, 5]))
                        (.reg [⟨(some 134), .u1 (.faddr 8) (.t 3), none⟩,
                            ⟨(some 135), .u1 (.load none) (.t 134), none⟩,
                            ⟨(some 136), .mov (.t 135), none⟩,
                            ⟨(some 137), .mov (.t 5), (some (136, true))⟩,
                            ⟨(some 138), .call (.t 137) [], (some (136, true))⟩,
                            ⟨(some 139), .call (.c (.fn 120 [] [])) [(.t 138), (.c (.bool false))], (some (136, true))⟩,
                            ⟨(some 140), .mov (.t 139), (some (136, true))⟩,
                            ⟨(some 141), .mov (.t 5), (some (140, false))⟩,
                            ⟨(some 142), .call (.t 141) [], (some (140, false))⟩,
                            ⟨(some 143), .u1 (.fld 0 none) (.t 142), (some (140, false))⟩,
                            ⟨(some 144), .b2 (.eq false (.simple .int)) (.t 143) (.c (.int .i64 17)), (some (140, false))⟩,
                            ⟨(some 145), .o3 (.pick (.t 140) (.c (.bool true)) (.t 144)), (some (136, true))⟩,
                            ⟨(some 146), .o3 (.pick (.t 136) (.t 145) (.c (.bool false))), none⟩,
                            ⟨(some 147), .u1 (.faddr 8) (.t 3), none⟩,
                            ⟨none, .b2 (.store 1) (.t 147) (.t 146), none⟩] (some [2, 3])))
                        (.seq (.reg [⟨(some 149), .b2 (.eq false (.simple .int)) (.t 9) (.c (.int .i64 17)), none⟩,
                            ⟨(some 148), .mov (.t 149), none⟩] (some [1, 2, 3, 4, 9, 148]))
                        (.cond (.t 148)
                          (.dreg [⟨⟨(some 150), .u1 (.faddr 7) (.t 1), none⟩, .soft⟩,
                              ⟨⟨(some 151), .u1 (.load none) (.t 150), none⟩, .look [0]⟩,
                              ⟨⟨(some 152), .u1 (.faddr 7) (.t 1), none⟩, .soft⟩,
                              ⟨⟨(some 153), .u1 (.load none) (.t 152), none⟩, .look [0, 1]⟩,
                              ⟨⟨(some 154), .u1 (.len .sl) (.t 153), none⟩, .soft⟩,
                              ⟨⟨(some 155), .b2 (.eq false (.simple .int)) (.t 154) (.c (.int .i64 1)), none⟩, .soft⟩,
                              ⟨⟨(some 156), .u1 (.faddr 0) (.t 3), none⟩, .soft⟩,
                              ⟨⟨(some 157), .u1 (.faddr 7) (.t 156), none⟩, .soft⟩,
                              ⟨⟨none, .b2 (.store 1) (.t 157) (.t 151), none⟩, .hard true⟩,
                              ⟨⟨(some 158), .u1 (.faddr 8) (.t 3), none⟩, .soft⟩,
                              ⟨⟨none, .b2 (.store 1) (.t 158) (.t 155), none⟩, .hard true⟩] (some [2, 3]))
                          (.seq (.reg [⟨(some 160), .b2 (.eq false (.simple .int)) (.t 9) (.c (.int .i64 18)), none⟩,
                              ⟨(some 159), .mov (.t 160), none⟩] (some [1, 2, 3, 4, 9, 159]))
                          (.cond (.t 159)
                            (.dreg [⟨⟨(some 161), .u1 (.faddr 6) (.t 1), none⟩, .soft⟩,
                                ⟨⟨(some 162), .u1 (.load none) (.t 161), none⟩, .look [0]⟩,
                                ⟨⟨(some 163), .u1 (.faddr 6) (.t 1), none⟩, .soft⟩,
                                ⟨⟨(some 164), .u1 (.load none) (.t 163), none⟩, .look [0, 1]⟩,
                                ⟨⟨(some 165), .u1 (.len .sl) (.t 164), none⟩, .soft⟩,
                                ⟨⟨(some 166), .b2 (.bin .geq) (.t 165) (.c (.int .i64 2)), none⟩, .soft⟩,
                                ⟨⟨(some 167), .u1 (.faddr 0) (.t 3), none⟩, .soft⟩,
                                ⟨⟨(some 168), .u1 (.faddr 6) (.t 167), none⟩, .soft⟩,
                                ⟨⟨none, .b2 (.store 1) (.t 168) (.t 162), none⟩, .hard true⟩,
                                ⟨⟨(some 169), .u1 (.faddr 8) (.t 3), none⟩, .soft⟩,
                                ⟨⟨none, .b2 (.store 1) (.t 169) (.t 166), none⟩, .hard true⟩] (some [2, 3]))
                            (.seq (.reg [⟨(some 171), .b2 (.eq false (.simple .int)) (.t 9) (.c (.int .i64 19)), none⟩,
                                ⟨(some 170), .mov (.t 171), none⟩] (some [1, 2, 3, 4, 9, 170]))
                            (.cond (.t 170)
                              (.reg [⟨(some 172), .mov (.t 4), none⟩,
                                  ⟨(some 173), .call (.t 172) [(.c (.int .i64 2))], none⟩] (some [2, 3]))
                              (.seq (.reg [⟨(some 175), .b2 (.eq false (.simple .int)) (.t 9) (.c (.int .i64 20)), none⟩,
                                  ⟨(some 174), .mov (.t 175), none⟩] (some [1, 2, 3, 4, 9, 174]))
                              (.cond (.t 174)
                                (.seq (.reg [⟨(some 176), .mov (.t 4), none⟩,
                                    ⟨(some 177), .call (.t 176) [(.c (.int .i64 1))], none⟩] (some [1, 2, 3]))
                                (.dreg [⟨⟨(some 178), .u1 (.faddr 1) (.t 1), none⟩, .soft⟩,
                                    ⟨⟨(some 179), .u1 (.load none) (.t 178), none⟩, .look [0]⟩,
                                    ⟨⟨(some 180), .u1 (.faddr 8) (.t 3), none⟩, .soft⟩,
                                    ⟨⟨(some 181), .u1 (.load none) (.t 180), none⟩, .look [0]⟩,
                                    ⟨⟨(some 182), .mov (.t 181), none⟩, .soft⟩,
                                    ⟨⟨(some 183), .u1 (.faddr 1) (.t 1), (some (182, true))⟩, .soft⟩,
                                    ⟨⟨(some 184), .u1 (.load none) (.t 183), (some (182, true))⟩, .look [0]⟩,
                                    ⟨⟨(some 185), .b2 (.eq false (.simple .int)) (.t 184) (.c (.int .i64 1)), (some (182, true))⟩, .soft⟩,
                                    ⟨⟨(some 186), .mov (.t 185), (some (182, true))⟩, .soft⟩,
                                    ⟨⟨(some 187), .u1 (.faddr 1) (.t 1), (some (186, false))⟩, .soft⟩,
                                    ⟨⟨(some 188), .u1 (.load none) (.t 187), (some (186, false))⟩, .look [0, 1]⟩,
                                    ⟨⟨(some 189), .b2 (.eq false (.simple .int)) (.t 188) (.c (.int .i64 2)), (some (186, false))⟩, .soft⟩,
                                    ⟨⟨(some 190), .o3 (.pick (.t 186) (.c (.bool true)) (.t 189)), (some (182, true))⟩, .soft⟩,
                                    ⟨⟨(some 191), .o3 (.pick (.t 182) (.t 190) (.c (.bool false))), none⟩, .soft⟩,
                                    ⟨⟨(some 192), .u1 (.faddr 0) (.t 3), none⟩, .soft⟩,
                                    ⟨⟨(some 193), .u1 (.faddr 1) (.t 192), none⟩, .soft⟩,
                                    ⟨⟨none, .b2 (.store 1) (.t 193) (.t 179), none⟩, .hard true⟩,
                                    ⟨⟨(some 194), .u1 (.faddr 8) (.t 3), none⟩, .soft⟩,
                                    ⟨⟨none, .b2 (.store 1) (.t 194) (.t 191), none⟩, .hard true⟩] (some [2, 3])))
                                (.seq (.reg [⟨(some 196), .b2 (.eq false (.simple .int)) (.t 9) (.c (.int .i64 21)), none⟩,
                                    ⟨(some 195), .mov (.t 196), none⟩] (some [1, 2, 3, 4, 195]))
                                (.cond (.t 195)
                                  (.seq (.reg [⟨(some 197), .mov (.t 4), none⟩,
                                      ⟨(some 198), .call (.t 197) [(.c (.int .i64 2))], none⟩] (some [1, 2, 3]))
                                  (.dreg [⟨⟨(some 199), .u1 (.faddr 1) (.t 1), none⟩, .soft⟩,
                                      ⟨⟨(some 200), .u1 (.load none) (.t 199), none⟩, .look [0]⟩,
                                      ⟨⟨(some 201), .u1 (.faddr 8) (.t 3), none⟩, .soft⟩,
                                      ⟨⟨(some 202), .u1 (.load none) (.t 201), none⟩, .look [0]⟩,
                                      ⟨⟨(some 203), .mov (.t 202), none⟩, .soft⟩,
                                      ⟨⟨(some 204), .u1 (.faddr 1) (.t 1), (some (203, true))⟩, .soft⟩,
                                      ⟨⟨(some 205), .u1 (.load none) (.t 204), (some (203, true))⟩, .look [0]⟩,
                                      ⟨⟨(some 206), .b2 (.bin .geq) (.t 205) (.c (.int .i64 3)), (some (203, true))⟩, .soft⟩,
                                      ⟨⟨(some 207), .o3 (.pick (.t 203) (.t 206) (.c (.bool false))), none⟩, .soft⟩,
                                      ⟨⟨(some 208), .mov (.t 207), none⟩, .soft⟩,
                                      ⟨⟨(some 209), .u1 (.faddr 1) (.t 1), (some (208, true))⟩, .soft⟩,
                                      ⟨⟨(some 210), .u1 (.load none) (.t 209), (some (208, true))⟩, .look [0, 1]⟩,
                                      ⟨⟨(some 211), .b2 (.bin .leq) (.t 210) (.c (.int .i64 17)), (some (208, true))⟩, .soft⟩,
                                      ⟨⟨(some 212), .o3 (.pick (.t 208) (.t 211) (.c (.bool false))), none⟩, .soft⟩,
                                      ⟨⟨(some 213), .u1 (.faddr 0) (.t 3), none⟩, .soft⟩,
                                      ⟨⟨(some 214), .u1 (.faddr 1) (.t 213), none⟩, .soft⟩,
                                      ⟨⟨none, .b2 (.store 1) (.t 214) (.t 200), none⟩, .hard true⟩,
                                      ⟨⟨(some 215), .u1 (.faddr 8) (.t 3), none⟩, .soft⟩,
                                      ⟨⟨none, .b2 (.store 1) (.t 215) (.t 212), none⟩, .hard true⟩] (some [2, 3])))
                                  .skip))))))))))))))))))))))))))))))))
  (.seq (.reg [⟨(some 216), .u1 (.load (some 9)) (.t 3), none⟩,
      ⟨none, .b2 (.store 9) (.t 2) (.t 216), none⟩] (some [2]))
  .ret)))))) }
end Go.Proofs.YtobfakjhhpbdmaaGreatDoor

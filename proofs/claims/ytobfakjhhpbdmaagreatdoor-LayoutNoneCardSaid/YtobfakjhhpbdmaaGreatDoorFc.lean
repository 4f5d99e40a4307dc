/-
  FUNCTIONS IN THE ABSTRACT MACHINE's CODE: printed by wip/am/PrintAm.lean.
-/
import Derived.Test.YtobfakjhhpbdmaaGreatDoorAmBase
namespace Go.Proofs.YtobfakjhhpbdmaaGreatDoor
open Go Go.Am
noncomputable def a43 : AFn := { ntmps := 86, results := [.tmp 4], body :=
  (.seq (.reg [⟨(some 4), .mov (.c .nilsl), none⟩] (some [0, 1]))
  (.seq (.reg [⟨(some 5), .mov (.c .nilsl), none⟩] (some [0, 1, 5]))
  (.seq (.seq (.reg [⟨(some 16), .mov (.t 1), none⟩,
      ⟨(some 17), .u1 (.len .sl) (.t 16), none⟩,
      ⟨(some 18), .mov (.c (.int .i64 0)), none⟩] (some [0, 1, 5, 16, 17, 18]))
  (.block 0
    (.loop
      (.seq (.reg [⟨(some 19), .b2 (.bin .lss) (.t 18) (.t 17), none⟩] (some [0, 1, 5, 16, 17, 18, 19]))
      (.seq (.cond (.t 19)
        .skip
        (.exit 0))
      (.seq (.block 1
        (.seq (.reg [⟨(some 20), .mov (.t 18), none⟩,
            ⟨(some 21), .b2 (.iaddr 1) (.t 16) (.t 18), none⟩,
            ⟨(some 22), .u1 (.load none) (.t 21), none⟩,
            ⟨(some 6), .mov (.t 20), none⟩,
            ⟨(some 7), .mov (.t 22), none⟩] (some [0, 1, 5, 6, 7, 16, 17, 18]))
        (.seq (.reg [⟨(some 23), .mov (.t 0), none⟩,
            ⟨(some 24), .u1 .nilchk (.t 23), none⟩,
            ⟨(some 25), .u1 (.faddr 0) (.t 24), none⟩,
            ⟨(some 26), .u1 (.load none) (.t 25), none⟩,
            ⟨(some 27), .mov (.t 7), none⟩,
            ⟨(some 28), .b2 (.iaddr 1) (.t 26) (.t 27), none⟩,
            ⟨(some 29), .u1 (.load none) (.t 28), none⟩,
            ⟨(some 30), .u1 .nilchk (.t 29), none⟩,
            ⟨(some 31), .u1 (.faddr 0) (.t 30), none⟩,
            ⟨(some 32), .u1 (.faddr 2) (.t 31), none⟩,
            ⟨(some 33), .u1 (.load none) (.t 32), none⟩,
            ⟨(some 34), .u1 (.len .sl) (.t 33), none⟩,
            ⟨(some 35), .mov (.c (.int .i64 0)), none⟩] (some [0, 1, 5, 6, 16, 17, 18, 33, 34, 35]))
        (.block 2
          (.loop
            (.seq (.reg [⟨(some 36), .b2 (.bin .lss) (.t 35) (.t 34), none⟩] (some [0, 1, 5, 6, 16, 17, 18, 33, 34, 35, 36]))
            (.seq (.cond (.t 36)
              .skip
              (.exit 2))
            (.seq (.block 3
              (.seq (.reg [⟨(some 37), .b2 (.iaddr 5) (.t 33) (.t 35), none⟩,
                  ⟨(some 38), .u1 (.load (some 5)) (.t 37), none⟩,
                  ⟨(some 9), .o3 (.alloc [(.int .i64 0), .nilsl, .nilsl, .nilsl, .nilsl]), none⟩,
                  ⟨none, .b2 (.store 5) (.t 9) (.t 38), none⟩] (some [0, 1, 5, 6, 9, 16, 17, 18, 33, 34, 35]))
              (.seq (.seq (.reg [⟨(some 39), .u1 (.faddr 0) (.t 9), none⟩,
                  ⟨(some 40), .u1 (.load none) (.t 39), none⟩,
                  ⟨(some 41), .b2 (.eq true (.simple .int)) (.t 40) (.c (.int .i64 2)), none⟩] (some [0, 1, 5, 6, 9, 16, 17, 18, 33, 34, 35, 41]))
              (.cond (.t 41)
                (.exit 3)
                .skip))
              (.seq (.reg [⟨(some 42), .u1 (.faddr 1) (.t 9), none⟩,
                  ⟨(some 43), .u1 (.load none) (.t 42), none⟩,
                  ⟨(some 44), .u1 (.len .sl) (.t 43), none⟩,
                  ⟨(some 45), .mov (.c (.int .i64 0)), none⟩] (some [0, 1, 5, 6, 16, 17, 18, 33, 34, 35, 43, 44, 45]))
              (.block 4
                (.loop
                  (.seq (.reg [⟨(some 46), .b2 (.bin .lss) (.t 45) (.t 44), none⟩] (some [0, 1, 5, 6, 16, 17, 18, 33, 34, 35, 43, 44, 45, 46]))
                  (.seq (.cond (.t 46)
                    .skip
                    (.exit 4))
                  (.seq (.block 5
                    (.seq (.reg [⟨(some 47), .b2 (.iaddr 1) (.t 43) (.t 45), none⟩,
                        ⟨(some 48), .u1 (.load none) (.t 47), none⟩,
                        ⟨(some 11), .mov (.t 48), none⟩] (some [0, 1, 5, 6, 11, 16, 17, 18, 33, 34, 35, 43, 44, 45]))
                    (.seq (.reg [⟨(some 49), .mov (.t 0), none⟩,
                        ⟨(some 50), .mov (.t 1), none⟩,
                        ⟨(some 51), .mov (.t 11), none⟩,
                        ⟨(some 52), .call (.c (.fn 59 [] [])) [(.t 49), (.t 50), (.t 51)], none⟩,
                        ⟨(some 12), .mov (.t 52), none⟩] (some [0, 1, 5, 6, 11, 12, 16, 17, 18, 33, 34, 35, 43, 44, 45]))
                    (.seq (.reg [⟨(some 53), .mov (.t 12), none⟩,
                        ⟨(some 54), .mov (.t 12), none⟩,
                        ⟨(some 55), .u1 (.len .sl) (.t 54), none⟩,
                        ⟨(some 56), .b2 (.bin .sub) (.t 55) (.c (.int .i64 1)), none⟩,
                        ⟨(some 57), .b2 (.iaddr 1) (.t 53) (.t 56), none⟩,
                        ⟨(some 58), .u1 (.load none) (.t 57), none⟩,
                        ⟨(some 13), .mov (.t 58), none⟩] (some [0, 1, 5, 6, 11, 13, 16, 17, 18, 33, 34, 35, 43, 44, 45]))
                    (.seq (.reg [⟨(some 59), .mov (.t 11), none⟩,
                        ⟨(some 60), .mov (.t 6), none⟩,
                        ⟨(some 61), .mov (.t 13), none⟩,
                        ⟨(some 62), .o3 (.build [(.str []), (.int .i64 0), (.int .i64 0), (.int .i64 0), (.int .i64 0)] [(0, 1, (.t 59)), (1, 1, (.t 60)), (2, 1, (.t 61)), (4, 1, (.c (.int .i64 (-1))))]), none⟩,
                        ⟨(some 14), .o3 (.alloc [(.str []), (.int .i64 0), (.int .i64 0), (.int .i64 0), (.int .i64 0)]), none⟩,
                        ⟨none, .b2 (.store 5) (.t 14) (.t 62), none⟩] (some [0, 1, 5, 6, 11, 13, 14, 16, 17, 18, 33, 34, 35, 43, 44, 45]))
                    (.seq (.seq (.reg [⟨(some 63), .mov (.t 0), none⟩,
                        ⟨(some 64), .mov (.t 1), none⟩,
                        ⟨(some 65), .mov (.t 13), none⟩,
                        ⟨(some 66), .mov (.t 11), none⟩,
                        ⟨(some 67), .call (.c (.fn 60 [] [])) [(.t 63), (.t 64), (.t 65), (.t 66)], none⟩,
                        ⟨(some 15), .o3 (.alloc [(.int .i64 0), (.int .i64 0), (.int .i64 0)]), none⟩,
                        ⟨none, .b2 (.store 3) (.t 15) (.t 67), none⟩] (some [0, 1, 5, 6, 14, 15, 16, 17, 18, 33, 34, 35, 43, 44, 45]))
                    (.seq (.reg [⟨(some 68), .u1 (.faddr 0) (.t 15), none⟩,
                        ⟨(some 69), .u1 (.load none) (.t 68), none⟩,
                        ⟨(some 70), .b2 (.bin .geq) (.t 69) (.c (.int .i64 0)), none⟩] (some [0, 1, 5, 6, 14, 15, 16, 17, 18, 33, 34, 35, 43, 44, 45, 70]))
                    (.cond (.t 70)
                      (.dreg [⟨⟨(some 71), .u1 (.faddr 1) (.t 15), none⟩, .soft⟩,
                          ⟨⟨(some 72), .u1 (.faddr 0) (.t 71), none⟩, .soft⟩,
                          ⟨⟨(some 73), .u1 (.load none) (.t 72), none⟩, .look [0]⟩,
                          ⟨⟨(some 74), .u1 (.faddr 0) (.t 15), none⟩, .soft⟩,
                          ⟨⟨(some 75), .u1 (.load none) (.t 74), none⟩, .look [0, 1]⟩,
                          ⟨⟨(some 76), .u1 (.faddr 3) (.t 14), none⟩, .soft⟩,
                          ⟨⟨none, .b2 (.store 1) (.t 76) (.t 73), none⟩, .hard true⟩,
                          ⟨⟨(some 77), .u1 (.faddr 4) (.t 14), none⟩, .soft⟩,
                          ⟨⟨none, .b2 (.store 1) (.t 77) (.t 75), none⟩, .hard true⟩] (some [0, 1, 5, 6, 14, 16, 17, 18, 33, 34, 35, 43, 44, 45]))
                      .skip)))
                    (.reg [⟨(some 78), .mov (.t 5), none⟩,
                        ⟨(some 79), .u1 (.load (some 5)) (.t 14), none⟩,
                        ⟨(some 80), .o3 (.bslice 5 [(.t 79)]), none⟩,
                        ⟨(some 81), .b2 (.append 5) (.t 78) (.t 80), none⟩,
                        ⟨(some 5), .mov (.t 81), none⟩] (some [0, 1, 5, 6, 16, 17, 18, 33, 34, 35, 43, 44, 45]))))))))
                  (.reg [⟨(some 82), .b2 (.bin .add) (.t 45) (.c (.int .i64 1)), none⟩,
                      ⟨(some 45), .mov (.t 82), none⟩] (some [0, 1, 5, 6, 16, 17, 18, 33, 34, 35, 43, 44, 45])))))))))))
            (.reg [⟨(some 83), .b2 (.bin .add) (.t 35) (.c (.int .i64 1)), none⟩,
                ⟨(some 35), .mov (.t 83), none⟩] (some [0, 1, 5, 6, 16, 17, 18, 33, 34, 35]))))))))))
      (.reg [⟨(some 84), .b2 (.bin .add) (.t 18) (.c (.int .i64 1)), none⟩,
          ⟨(some 18), .mov (.t 84), none⟩] (some [0, 1, 5, 16, 17, 18]))))))))
  (.seq (.reg [⟨(some 85), .mov (.t 5), none⟩,
      ⟨(some 4), .mov (.t 85), none⟩] (some [4]))
  .ret)))) }
noncomputable def a44 : AFn := { ntmps := 11, results := [.tmp 2], body :=
  (.seq (.reg [⟨(some 1), .u2 .box (.t 0), none⟩,
      ⟨(some 2), .mov (.c (.bool false)), none⟩] (some [1]))
  (.seq (.seq (.reg [⟨(some 3), .u1 (.faddr 0) (.t 1), none⟩,
      ⟨(some 4), .u1 (.load none) (.t 3), none⟩] (some [4]))
  (.block 0
    (.seq (.seq (.reg [⟨(some 6), .b2 (.eq false (.simple .int)) (.t 4) (.c (.int .i64 5)), none⟩,
        ⟨(some 5), .mov (.t 6), none⟩] (some [4, 5]))
    (.cond (.t 5)
      .skip
      (.seq (.reg [⟨(some 7), .b2 (.eq false (.simple .int)) (.t 4) (.c (.int .i64 6)), none⟩,
          ⟨(some 5), .mov (.t 7), none⟩] (some [4, 5]))
      (.cond (.t 5)
        .skip
        (.seq (.reg [⟨(some 8), .b2 (.eq false (.simple .int)) (.t 4) (.c (.int .i64 7)), none⟩,
            ⟨(some 5), .mov (.t 8), none⟩] (some [4, 5]))
        (.cond (.t 5)
          .skip
          (.seq (.reg [⟨(some 9), .b2 (.eq false (.simple .int)) (.t 4) (.c (.int .i64 8)), none⟩,
              ⟨(some 5), .mov (.t 9), none⟩] (some [4, 5]))
          (.cond (.t 5)
            .skip
            (.reg [⟨(some 10), .b2 (.eq false (.simple .int)) (.t 4) (.c (.int .i64 9)), none⟩,
                ⟨(some 5), .mov (.t 10), none⟩] (some [5]))))))))))
    (.cond (.t 5)
      (.seq (.reg [⟨(some 2), .mov (.c (.bool true)), none⟩] (some [2]))
      .ret)
      .skip))))
  (.seq (.reg [⟨(some 2), .mov (.c (.bool false)), none⟩] (some [2]))
  .ret))) }
noncomputable def a45 : AFn := { ntmps := 21, results := [.tmp 2], body :=
  (.seq (.reg [⟨(some 2), .mov (.c (.int .i64 0)), none⟩] (some [0]))
  (.seq (.reg [⟨(some 3), .mov (.c (.int .i64 0)), none⟩] (some [0, 3]))
  (.seq (.seq (.reg [⟨(some 6), .mov (.t 0), none⟩,
      ⟨(some 7), .u1 (.len .sl) (.t 6), none⟩,
      ⟨(some 8), .mov (.c (.int .i64 0)), none⟩] (some [3, 6, 7, 8]))
  (.block 0
    (.loop
      (.seq (.reg [⟨(some 9), .b2 (.bin .lss) (.t 8) (.t 7), none⟩] (some [3, 6, 7, 8, 9]))
      (.seq (.cond (.t 9)
        .skip
        (.exit 0))
      (.seq (.block 1
        (.seq (.reg [⟨(some 10), .b2 (.iaddr 5) (.t 6) (.t 8), none⟩,
            ⟨(some 11), .u1 (.load (some 5)) (.t 10), none⟩,
            ⟨(some 5), .o3 (.alloc [(.int .i64 0), .nilsl, .nilsl, .nilsl, .nilsl]), none⟩,
            ⟨none, .b2 (.store 5) (.t 5) (.t 11), none⟩] (some [3, 5, 6, 7, 8]))
        (.seq (.reg [⟨(some 12), .u1 (.load (some 5)) (.t 5), none⟩,
            ⟨(some 13), .call (.c (.fn 44 [] [])) [(.t 12)], none⟩] (some [3, 5, 6, 7, 8, 13]))
        (.cond (.t 13)
          (.reg [⟨(some 14), .mov (.t 3), none⟩,
              ⟨(some 15), .u1 (.faddr 1) (.t 5), none⟩,
              ⟨(some 16), .u1 (.load none) (.t 15), none⟩,
              ⟨(some 17), .u1 (.len .sl) (.t 16), none⟩,
              ⟨(some 18), .b2 (.bin .add) (.t 14) (.t 17), none⟩,
              ⟨(some 3), .mov (.t 18), none⟩] (some [3, 6, 7, 8]))
          .skip))))
      (.reg [⟨(some 19), .b2 (.bin .add) (.t 8) (.c (.int .i64 1)), none⟩,
          ⟨(some 8), .mov (.t 19), none⟩] (some [3, 6, 7, 8]))))))))
  (.seq (.reg [⟨(some 20), .mov (.t 3), none⟩,
      ⟨(some 2), .mov (.t 20), none⟩] (some [2]))
  .ret)))) }
noncomputable def a46 : AFn := { ntmps := 19, results := [], body :=
  (.seq (.reg [⟨(some 4), .u1 (.load none) (.t 1), none⟩,
      ⟨(some 5), .u1 (.len .sl) (.t 4), none⟩,
      ⟨(some 6), .b2 (.bin .sub) (.t 5) (.c (.int .i64 1)), none⟩,
      ⟨(some 3), .mov (.t 6), none⟩] (some [0, 1, 3]))
  (.block 0
    (.loop
      (.seq (.seq (.reg [⟨(some 7), .mov (.t 3), none⟩,
          ⟨(some 8), .b2 (.bin .geq) (.t 7) (.c (.int .i64 0)), none⟩] (some [0, 1, 3, 8]))
      (.cond (.t 8)
        .skip
        (.exit 0)))
      (.seq (.block 1
        (.seq (.reg [⟨(some 11), .mov (.t 0), none⟩,
            ⟨(some 12), .mov (.t 3), none⟩,
            ⟨(some 13), .u1 (.load none) (.t 1), none⟩,
            ⟨(some 14), .mov (.t 3), none⟩,
            ⟨(some 15), .b2 (.iaddr 1) (.t 13) (.t 14), none⟩,
            ⟨(some 16), .u1 (.load none) (.t 15), none⟩,
            ⟨(some 17), .call (.t 11) [(.t 12), (.t 16)], none⟩,
            ⟨(some 18), .u2 (.un .not) (.t 17), none⟩] (some [0, 1, 3, 18]))
        (.cond (.t 18)
          .ret
          .skip)))
      (.reg [⟨(some 9), .mov (.t 3), none⟩,
          ⟨(some 10), .b2 (.bin .sub) (.t 9) (.c (.int .i64 1)), none⟩,
          ⟨(some 3), .mov (.t 10), none⟩] (some [0, 1, 3]))))))) }
noncomputable def a47 : AFn := { ntmps := 147, results := [.cell 4 (some 3)], body :=
  (.seq (.reg [⟨(some 4), .o3 (.alloc [(.int .i64 0), (.int .i64 0), (.int .i64 0)]), none⟩] (some [0, 1, 4]))
  (.seq (.seq (.reg [⟨(some 9), .mov (.t 1), none⟩,
      ⟨(some 10), .u1 .nilchk (.t 9), none⟩,
      ⟨(some 11), .u1 (.faddr 0) (.t 10), none⟩,
      ⟨(some 12), .u1 (.faddr 1) (.t 11), none⟩,
      ⟨(some 13), .u1 (.load none) (.t 12), none⟩,
      ⟨(some 14), .u1 (.len .sl) (.t 13), none⟩,
      ⟨(some 15), .b2 (.eq false (.simple .int)) (.t 14) (.c (.int .i64 1)), none⟩] (some [0, 1, 4, 15]))
  (.cond (.t 15)
    (.seq (.seq (.reg [⟨(some 16), .mov (.t 1), none⟩,
        ⟨(some 17), .u1 .nilchk (.t 16), none⟩,
        ⟨(some 18), .u1 (.faddr 8) (.t 17), none⟩,
        ⟨(some 19), .u1 (.load none) (.t 18), none⟩,
        ⟨(some 20), .b2 (.bin .lss) (.t 19) (.c (.int .i64 0)), none⟩] (some [0, 1, 4, 20]))
    (.cond (.t 20)
      (.seq (.reg [⟨(some 21), .mov (.t 1), none⟩,
          ⟨(some 22), .u1 .nilchk (.t 21), none⟩,
          ⟨(some 23), .u1 (.faddr 0) (.t 22), none⟩,
          ⟨(some 24), .u1 (.faddr 1) (.t 23), none⟩,
          ⟨(some 25), .u1 (.load none) (.t 24), none⟩,
          ⟨(some 26), .b2 (.iaddr 8) (.t 25) (.c (.int .i64 0)), none⟩,
          ⟨(some 27), .u1 (.faddr 0) (.t 26), none⟩,
          ⟨(some 28), .u1 (.load none) (.t 27), none⟩,
          ⟨(some 29), .b2 (.eq false (.simple .int)) (.t 28) (.c (.int .i64 8)), none⟩,
          ⟨(some 30), .mov (.t 29), none⟩,
          ⟨(some 31), .mov (.t 1), (some (30, true))⟩,
          ⟨(some 32), .u1 .nilchk (.t 31), (some (30, true))⟩,
          ⟨(some 33), .u1 (.faddr 0) (.t 32), (some (30, true))⟩,
          ⟨(some 34), .u1 (.faddr 1) (.t 33), (some (30, true))⟩,
          ⟨(some 35), .u1 (.load none) (.t 34), (some (30, true))⟩,
          ⟨(some 36), .b2 (.iaddr 8) (.t 35) (.c (.int .i64 0)), (some (30, true))⟩,
          ⟨(some 37), .u1 (.faddr 5) (.t 36), (some (30, true))⟩,
          ⟨(some 38), .u1 (.load none) (.t 37), (some (30, true))⟩,
          ⟨(some 39), .b2 (.eq false (.simple .str)) (.t 38) (.c (.str [111, 98, 106, 101, 99, 116])), (some (30, true))⟩,
          ⟨(some 40), .o3 (.pick (.t 30) (.t 39) (.c (.bool false))), none⟩,
          ⟨(some 41), .call (.c (.fn 35 [] [])) [(.t 40), (.c (.int .i64 11))], none⟩] (some [4]))
      (.seq (.reg [⟨(some 42), .o3 (.build [(.int .i64 0), (.int .i64 0), (.int .i64 0)] [(0, 1, (.c (.int .i64 (-1))))]), none⟩,
          ⟨none, .b2 (.store 3) (.t 4) (.t 42), none⟩] (some [4]))
      .ret))
      .skip))
    (.seq (.dreg [⟨⟨(some 43), .mov (.t 0), none⟩, .soft⟩,
        ⟨⟨(some 44), .mov (.t 1), none⟩, .soft⟩,
        ⟨⟨(some 45), .u1 .nilchk (.t 44), none⟩, .soft⟩,
        ⟨⟨(some 46), .u1 (.faddr 8) (.t 45), none⟩, .soft⟩,
        ⟨⟨(some 47), .u1 (.load none) (.t 46), none⟩, .look [0]⟩,
        ⟨⟨(some 48), .mov (.t 1), none⟩, .soft⟩,
        ⟨⟨(some 49), .u1 .nilchk (.t 48), none⟩, .soft⟩,
        ⟨⟨(some 50), .u1 (.faddr 0) (.t 49), none⟩, .soft⟩,
        ⟨⟨(some 51), .u1 (.faddr 1) (.t 50), none⟩, .soft⟩,
        ⟨⟨(some 52), .u1 (.load none) (.t 51), none⟩, .look [0]⟩,
        ⟨⟨(some 53), .b2 (.iaddr 8) (.t 52) (.c (.int .i64 0)), none⟩, .soft⟩,
        ⟨⟨(some 54), .u1 (.load (some 8)) (.t 53), none⟩, .look [0]⟩,
        ⟨⟨(some 55), .call (.c (.fn 58 [] [])) [(.t 43), (.t 47), (.t 54)], none⟩, .hard true⟩,
        ⟨⟨none, .b2 (.store 3) (.t 4) (.t 55), none⟩, .hard true⟩] (some [4]))
    .ret))
    .skip))
  (.seq (.seq (.reg [⟨(some 56), .mov (.t 1), none⟩,
      ⟨(some 57), .u1 .nilchk (.t 56), none⟩,
      ⟨(some 58), .u1 (.faddr 9) (.t 57), none⟩,
      ⟨(some 59), .u1 (.faddr 0) (.t 58), none⟩,
      ⟨(some 60), .u1 (.load none) (.t 59), none⟩,
      ⟨(some 61), .b2 (.eq true (.simple .int)) (.t 60) (.c (.int .i64 3)), none⟩,
      ⟨(some 62), .mov (.t 61), none⟩,
      ⟨(some 63), .mov (.t 1), (some (62, true))⟩,
      ⟨(some 64), .u1 .nilchk (.t 63), (some (62, true))⟩,
      ⟨(some 65), .u1 (.faddr 9) (.t 64), (some (62, true))⟩,
      ⟨(some 66), .u1 (.faddr 0) (.t 65), (some (62, true))⟩,
      ⟨(some 67), .u1 (.load none) (.t 66), (some (62, true))⟩,
      ⟨(some 68), .b2 (.eq true (.simple .int)) (.t 67) (.c (.int .i64 4)), (some (62, true))⟩,
      ⟨(some 69), .o3 (.pick (.t 62) (.t 68) (.c (.bool false))), none⟩] (some [0, 1, 4, 69]))
  (.cond (.t 69)
    (.seq (.reg [⟨(some 70), .o3 (.build [(.int .i64 0), (.int .i64 0), (.int .i64 0)] [(0, 1, (.c (.int .i64 (-1))))]), none⟩,
        ⟨none, .b2 (.store 3) (.t 4) (.t 70), none⟩] (some [4]))
    .ret)
    .skip))
  (.seq (.reg [⟨(some 71), .mov (.t 1), none⟩,
      ⟨(some 72), .u1 .nilchk (.t 71), none⟩,
      ⟨(some 73), .u1 (.faddr 9) (.t 72), none⟩,
      ⟨(some 74), .u1 (.faddr 1) (.t 73), none⟩,
      ⟨(some 75), .u1 (.load none) (.t 74), none⟩,
      ⟨(some 76), .u1 (.len .sl) (.t 75), none⟩,
      ⟨(some 77), .b2 (.eq false (.simple .int)) (.t 76) (.c (.int .i64 1)), none⟩,
      ⟨(some 78), .call (.c (.fn 35 [] [])) [(.t 77), (.c (.int .i64 11))], none⟩] (some [0, 1, 4]))
  (.seq (.reg [⟨(some 79), .mov (.t 0), none⟩,
      ⟨(some 80), .mov (.t 1), none⟩,
      ⟨(some 81), .u1 .nilchk (.t 80), none⟩,
      ⟨(some 82), .u1 (.faddr 8) (.t 81), none⟩,
      ⟨(some 83), .u1 (.load none) (.t 82), none⟩,
      ⟨(some 84), .call (.c (.fn 32 [] [])) [(.t 79), (.t 83)], none⟩,
      ⟨(some 85), .u1 .nilchk (.t 84), none⟩,
      ⟨(some 86), .u1 (.faddr 15) (.t 85), none⟩,
      ⟨(some 87), .u1 (.load none) (.t 86), none⟩,
      ⟨(some 5), .mov (.t 87), none⟩] (some [0, 1, 4, 5]))
  (.seq (.dreg [⟨⟨(some 88), .mov (.t 0), none⟩, .soft⟩,
      ⟨⟨(some 89), .mov (.t 5), none⟩, .soft⟩,
      ⟨⟨(some 90), .mov (.t 5), none⟩, .soft⟩,
      ⟨⟨(some 91), .u1 (.len .sl) (.t 90), none⟩, .soft⟩,
      ⟨⟨(some 92), .b2 (.bin .sub) (.t 91) (.c (.int .i64 1)), none⟩, .soft⟩,
      ⟨⟨(some 93), .o3 (.slc false 1 (.t 89) none (some (.t 92)) none), none⟩, .soft⟩,
      ⟨⟨(some 94), .mov (.t 1), none⟩, .soft⟩,
      ⟨⟨(some 95), .u1 .nilchk (.t 94), none⟩, .soft⟩,
      ⟨⟨(some 96), .u1 (.faddr 9) (.t 95), none⟩, .soft⟩,
      ⟨⟨(some 97), .u1 (.faddr 1) (.t 96), none⟩, .soft⟩,
      ⟨⟨(some 98), .u1 (.load none) (.t 97), none⟩, .look [0]⟩,
      ⟨⟨(some 99), .b2 (.iaddr 1) (.t 98) (.c (.int .i64 0)), none⟩, .soft⟩,
      ⟨⟨(some 100), .u1 (.load none) (.t 99), none⟩, .look [0]⟩,
      ⟨⟨(some 101), .call (.c (.fn 59 [] [])) [(.t 88), (.t 93), (.t 100)], none⟩, .hard true⟩,
      ⟨⟨(some 6), .mov (.t 101), none⟩, .soft⟩] (some [0, 1, 4, 5, 6]))
  (.seq (.reg [⟨(some 102), .mov (.t 6), none⟩,
      ⟨(some 103), .u1 (.len .sl) (.t 102), none⟩,
      ⟨(some 104), .b2 (.bin .gtr) (.t 103) (.c (.int .i64 0)), none⟩,
      ⟨(some 105), .call (.c (.fn 35 [] [])) [(.t 104), (.c (.int .i64 11))], none⟩] (some [0, 1, 4, 5, 6]))
  (.seq (.reg [⟨(some 106), .mov (.t 6), none⟩,
      ⟨(some 107), .mov (.t 6), none⟩,
      ⟨(some 108), .u1 (.len .sl) (.t 107), none⟩,
      ⟨(some 109), .b2 (.bin .sub) (.t 108) (.c (.int .i64 1)), none⟩,
      ⟨(some 110), .b2 (.iaddr 1) (.t 106) (.t 109), none⟩,
      ⟨(some 111), .u1 (.load none) (.t 110), none⟩,
      ⟨(some 7), .mov (.t 111), none⟩] (some [0, 1, 4, 5, 7]))
  (.seq (.reg [⟨(some 112), .mov (.t 0), none⟩,
      ⟨(some 113), .mov (.t 5), none⟩,
      ⟨(some 114), .mov (.t 7), none⟩,
      ⟨(some 115), .mov (.t 1), none⟩,
      ⟨(some 116), .u1 .nilchk (.t 115), none⟩,
      ⟨(some 117), .u1 (.faddr 9) (.t 116), none⟩,
      ⟨(some 118), .u1 (.faddr 1) (.t 117), none⟩,
      ⟨(some 119), .u1 (.load none) (.t 118), none⟩,
      ⟨(some 120), .b2 (.iaddr 1) (.t 119) (.c (.int .i64 0)), none⟩,
      ⟨(some 121), .u1 (.load none) (.t 120), none⟩,
      ⟨(some 122), .call (.c (.fn 60 [] [])) [(.t 112), (.t 113), (.t 114), (.t 121)], none⟩,
      ⟨(some 8), .o3 (.alloc [(.int .i64 0), (.int .i64 0), (.int .i64 0)]), none⟩,
      ⟨none, .b2 (.store 3) (.t 8) (.t 122), none⟩] (some [0, 1, 4, 7, 8]))
  (.seq (.seq (.reg [⟨(some 123), .u1 (.faddr 0) (.t 8), none⟩,
      ⟨(some 124), .u1 (.load none) (.t 123), none⟩,
      ⟨(some 125), .b2 (.bin .geq) (.t 124) (.c (.int .i64 0)), none⟩,
      ⟨(some 126), .mov (.t 125), none⟩,
      ⟨(some 127), .u1 (.faddr 1) (.t 8), (some (126, true))⟩,
      ⟨(some 128), .u1 (.faddr 0) (.t 127), (some (126, true))⟩,
      ⟨(some 129), .u1 (.load none) (.t 128), (some (126, true))⟩,
      ⟨(some 130), .b2 (.bin .gtr) (.t 129) (.c (.int .i64 0)), (some (126, true))⟩,
      ⟨(some 131), .o3 (.pick (.t 126) (.t 130) (.c (.bool false))), none⟩] (some [0, 1, 4, 7, 8, 131]))
  (.cond (.t 131)
    (.dreg [⟨⟨(some 132), .mov (.t 0), none⟩, .soft⟩,
        ⟨⟨(some 133), .mov (.t 1), none⟩, .soft⟩,
        ⟨⟨(some 134), .u1 .nilchk (.t 133), none⟩, .soft⟩,
        ⟨⟨(some 135), .u1 (.faddr 8) (.t 134), none⟩, .soft⟩,
        ⟨⟨(some 136), .u1 (.load none) (.t 135), none⟩, .look [0]⟩,
        ⟨⟨(some 137), .mov (.t 7), none⟩, .soft⟩,
        ⟨⟨(some 138), .o3 (.build [(.int .i64 0), (.int .i64 0)] [(0, 1, (.c (.int .i64 0))), (1, 1, (.t 137))]), none⟩, .soft⟩,
        ⟨⟨(some 139), .u1 (.faddr 1) (.t 8), none⟩, .soft⟩,
        ⟨⟨(some 140), .u1 (.faddr 0) (.t 139), none⟩, .soft⟩,
        ⟨⟨(some 141), .u1 (.load none) (.t 140), none⟩, .look [0]⟩,
        ⟨⟨(some 142), .call (.c (.fn 48 [] [])) [(.t 132), (.t 136), (.t 138), (.t 141)], none⟩, .hard true⟩,
        ⟨⟨(some 143), .u1 (.fld 0 none) (.t 142), none⟩, .soft⟩,
        ⟨⟨(some 144), .u1 (.faddr 1) (.t 8), none⟩, .soft⟩,
        ⟨⟨(some 145), .u1 (.faddr 0) (.t 144), none⟩, .soft⟩,
        ⟨⟨none, .b2 (.store 1) (.t 145) (.t 143), none⟩, .hard true⟩] (some [4, 8]))
    .skip))
  (.seq (.reg [⟨(some 146), .u1 (.load (some 3)) (.t 8), none⟩,
      ⟨none, .b2 (.store 3) (.t 4) (.t 146), none⟩] (some [4]))
  .ret))))))))))) }
noncomputable def a48 : AFn := { ntmps := 18, results := [.cell 8 (some 2)], body :=
  (.seq (.reg [⟨(some 6), .u2 .box (.t 2), none⟩,
      ⟨(some 8), .o3 (.alloc [(.int .i64 0), (.int .i64 0)]), none⟩] (some [0, 1, 3, 6, 8]))
  (.seq (.seq (.reg [⟨(some 9), .mov (.t 3), none⟩,
      ⟨(some 10), .mov (.c (.int .i64 0)), none⟩] (some [0, 1, 6, 8, 9, 10]))
  (.block 0
    (.loop
      (.seq (.reg [⟨(some 11), .b2 (.bin .lss) (.t 10) (.t 9), none⟩] (some [0, 1, 6, 8, 9, 10, 11]))
      (.seq (.cond (.t 11)
        .skip
        (.exit 0))
      (.seq (.block 1
        (.reg [⟨(some 12), .mov (.t 0), none⟩,
            ⟨(some 13), .mov (.t 1), none⟩,
            ⟨(some 14), .u1 (.load (some 2)) (.t 6), none⟩,
            ⟨(some 15), .call (.c (.fn 22 [] [])) [(.t 12), (.t 13), (.t 14)], none⟩,
            ⟨none, .b2 (.store 2) (.t 6) (.t 15), none⟩] (some [0, 1, 6, 8, 9, 10])))
      (.reg [⟨(some 16), .b2 (.bin .add) (.t 10) (.c (.int .i64 1)), none⟩,
          ⟨(some 10), .mov (.t 16), none⟩] (some [0, 1, 6, 8, 9, 10]))))))))
  (.seq (.reg [⟨(some 17), .u1 (.load (some 2)) (.t 6), none⟩,
      ⟨none, .b2 (.store 2) (.t 8) (.t 17), none⟩] (some [8]))
  .ret))) }
noncomputable def a49 : AFn := { ntmps := 19, results := [.tmp 4], body :=
  (.seq (.reg [⟨(some 4), .mov (.c (.int .i64 0)), none⟩] (some [0, 1]))
  (.seq (.seq (.reg [⟨(some 6), .mov (.t 0), none⟩,
      ⟨(some 7), .u1 (.len .sl) (.t 6), none⟩,
      ⟨(some 8), .mov (.c (.int .i64 0)), none⟩] (some [0, 1, 7, 8]))
  (.block 0
    (.loop
      (.seq (.reg [⟨(some 9), .b2 (.bin .lss) (.t 8) (.t 7), none⟩] (some [0, 1, 7, 8, 9]))
      (.seq (.cond (.t 9)
        .skip
        (.exit 0))
      (.seq (.block 1
        (.seq (.reg [⟨(some 10), .mov (.t 8), none⟩,
            ⟨(some 5), .mov (.t 10), none⟩] (some [0, 1, 5, 7, 8]))
        (.seq (.reg [⟨(some 11), .mov (.t 1), none⟩,
            ⟨(some 12), .mov (.t 0), none⟩,
            ⟨(some 13), .mov (.t 5), none⟩,
            ⟨(some 14), .b2 (.iaddr 1) (.t 12) (.t 13), none⟩,
            ⟨(some 15), .u1 (.load none) (.t 14), none⟩,
            ⟨(some 16), .b2 (.eq false (.simple .str)) (.t 11) (.t 15), none⟩] (some [0, 1, 5, 7, 8, 16]))
        (.cond (.t 16)
          (.seq (.reg [⟨(some 17), .mov (.t 5), none⟩,
              ⟨(some 4), .mov (.t 17), none⟩] (some [4]))
          .ret)
          .skip))))
      (.reg [⟨(some 18), .b2 (.bin .add) (.t 8) (.c (.int .i64 1)), none⟩,
          ⟨(some 8), .mov (.t 18), none⟩] (some [0, 1, 7, 8]))))))))
  (.seq (.reg [⟨(some 4), .mov (.c (.int .i64 (-1))), none⟩] (some [4]))
  .ret))) }
noncomputable def a50 : AFn := { ntmps := 78, results := [.tmp 2, .tmp 3], body :=
  (.seq (.reg [⟨(some 1), .u2 .box (.t 0), none⟩,
      ⟨(some 2), .mov (.c .nilsl), none⟩,
      ⟨(some 3), .mov (.c (.int .i64 0)), none⟩] (some [1, 2, 3, 18]))
  (.seq (.seq (.reg [⟨(some 9), .u1 (.load (some 7)) (.t 1), none⟩,
      ⟨(some 10), .call (.c (.fn 51 [] [])) [(.t 9)], none⟩,
      ⟨(some 4), .mov (.t 10), none⟩] (some [1, 2, 3, 4, 18]))
  (.seq (.reg [⟨(some 11), .mov (.t 4), none⟩,
      ⟨(some 12), .b2 (.eq true (.simple .int)) (.t 11) (.c (.int .i64 0)), none⟩] (some [1, 2, 3, 4, 12, 18]))
  (.cond (.t 12)
    (.seq (.reg [⟨(some 13), .mov (.t 4), none⟩,
        ⟨(some 2), .mov (.c .nilsl), none⟩,
        ⟨(some 3), .mov (.t 13), none⟩] (some [2, 3]))
    .ret)
    .skip)))
  (.seq (.reg [⟨(some 5), .o3 (.alloc [.nilsl]), none⟩] (some [1, 2, 3, 5, 18]))
  (.seq (.reg [⟨(some 6), .o3 (.alloc [(.int .i64 0)]), none⟩,
      ⟨none, .b2 (.store 1) (.t 6) (.c (.int .i64 0)), none⟩] (some [1, 2, 3, 5, 6, 18]))
  (.seq (.seq (.reg [⟨(some 14), .u1 (.load (some 7)) (.t 1), none⟩,
      ⟨(some 15), .call (.c (.fn 53 [] [])) [(.t 14)], none⟩,
      ⟨(some 16), .call (.c (.fn 61 [] [])) [(.t 15)], none⟩] (some [2, 3, 5, 6, 16, 18]))
  (.block 0
    (.rf (.t 16) [17, 18]
      (.reg [⟨(some 8), .o3 (.alloc [(.int .i64 0), (.int .i64 0), (.int .i64 0), (.int .i64 0), (.int .i64 0), (.int .i64 0), (.str []), .nilsl, .nilsl, (.str []), .nilsl, .nilsl, .nilsl, (.bool false), .nilsl, .nilsl, (.int .i64 0), .nilsl, .nilsl, .nilsl, .nilsl, (.int .i64 0), (.str []), .nilsl, .nilsl, (.bool false), .nilsl, .nilsl, .nilsl]), none⟩,
          ⟨none, .b2 (.store 29) (.t 8) (.t 18), none⟩] (some [5, 6, 8]))
      (.block 1
        (.seq (.block 2
          (.seq (.reg [⟨(some 20), .u1 (.faddr 0) (.t 8), none⟩,
              ⟨(some 21), .u1 (.load none) (.t 20), none⟩,
              ⟨(some 22), .b2 (.eq false (.simple .int)) (.t 21) (.c (.int .i64 3)), none⟩,
              ⟨(some 23), .mov (.t 22), none⟩,
              ⟨(some 24), .u1 (.faddr 16) (.t 8), (some (23, true))⟩,
              ⟨(some 25), .u1 (.faddr 0) (.t 24), (some (23, true))⟩,
              ⟨(some 26), .u1 (.load none) (.t 25), (some (23, true))⟩,
              ⟨(some 27), .b2 (.eq false (.simple .int)) (.t 26) (.c (.int .i64 10)), (some (23, true))⟩,
              ⟨(some 28), .o3 (.pick (.t 23) (.t 27) (.c (.bool false))), none⟩,
              ⟨(some 19), .mov (.t 28), none⟩] (some [5, 6, 8, 19]))
          (.cond (.t 19)
            (.dreg [⟨⟨(some 29), .u1 (.load none) (.t 5), none⟩, .look [0]⟩,
                ⟨⟨(some 30), .u1 (.faddr 16) (.t 8), none⟩, .soft⟩,
                ⟨⟨(some 31), .u1 (.faddr 1) (.t 30), none⟩, .soft⟩,
                ⟨⟨(some 32), .u1 (.load none) (.t 31), none⟩, .look [0]⟩,
                ⟨⟨(some 33), .b2 (.iaddr 1) (.t 32) (.c (.int .i64 0)), none⟩, .soft⟩,
                ⟨⟨(some 34), .u1 (.load none) (.t 33), none⟩, .look [0]⟩,
                ⟨⟨(some 35), .u1 (.load none) (.t 6), none⟩, .look [0]⟩,
                ⟨⟨(some 36), .o3 (.build [(.int .i64 0), (.str []), (.int .i64 0)] [(0, 1, (.c (.int .i64 1))), (1, 1, (.t 34)), (2, 1, (.t 35))]), none⟩, .soft⟩,
                ⟨⟨(some 37), .o3 (.bslice 3 [(.t 36)]), none⟩, .soft⟩,
                ⟨⟨(some 38), .b2 (.append 3) (.t 29) (.t 37), none⟩, .hard true⟩,
                ⟨⟨none, .b2 (.store 1) (.t 5) (.t 38), none⟩, .hard true⟩] (some [6]))
            (.seq (.reg [⟨(some 40), .u1 (.faddr 0) (.t 8), none⟩,
                ⟨(some 41), .u1 (.load none) (.t 40), none⟩,
                ⟨(some 42), .b2 (.eq false (.simple .int)) (.t 41) (.c (.int .i64 4)), none⟩,
                ⟨(some 43), .mov (.t 42), none⟩,
                ⟨(some 44), .u1 (.faddr 21) (.t 8), (some (43, true))⟩,
                ⟨(some 45), .u1 (.faddr 0) (.t 44), (some (43, true))⟩,
                ⟨(some 46), .u1 (.load none) (.t 45), (some (43, true))⟩,
                ⟨(some 47), .b2 (.eq false (.simple .int)) (.t 46) (.c (.int .i64 13)), (some (43, true))⟩,
                ⟨(some 48), .o3 (.pick (.t 43) (.t 47) (.c (.bool false))), none⟩,
                ⟨(some 39), .mov (.t 48), none⟩] (some [5, 6, 8, 39]))
            (.cond (.t 39)
              (.reg [⟨(some 49), .u1 (.load none) (.t 5), none⟩,
                  ⟨(some 50), .u1 (.faddr 21) (.t 8), none⟩,
                  ⟨(some 51), .u1 (.faddr 1) (.t 50), none⟩,
                  ⟨(some 52), .u1 (.load none) (.t 51), none⟩,
                  ⟨(some 53), .u1 (.load none) (.t 6), none⟩,
                  ⟨(some 54), .o3 (.build [(.int .i64 0), (.str []), (.int .i64 0)] [(0, 1, (.c (.int .i64 2))), (1, 1, (.t 52)), (2, 1, (.t 53))]), none⟩,
                  ⟨(some 55), .o3 (.bslice 3 [(.t 54)]), none⟩,
                  ⟨(some 56), .b2 (.append 3) (.t 49) (.t 55), none⟩,
                  ⟨none, .b2 (.store 1) (.t 5) (.t 56), none⟩] (some [6]))
              (.seq (.reg [⟨(some 58), .u1 (.faddr 0) (.t 8), none⟩,
                  ⟨(some 59), .u1 (.load none) (.t 58), none⟩,
                  ⟨(some 60), .b2 (.eq false (.simple .int)) (.t 59) (.c (.int .i64 2)), none⟩,
                  ⟨(some 61), .mov (.t 60), none⟩,
                  ⟨(some 62), .u1 (.faddr 9) (.t 8), (some (61, true))⟩,
                  ⟨(some 63), .u1 (.faddr 0) (.t 62), (some (61, true))⟩,
                  ⟨(some 64), .u1 (.load none) (.t 63), (some (61, true))⟩,
                  ⟨(some 65), .b2 (.eq true (.simple .str)) (.t 64) (.c (.str [])), (some (61, true))⟩,
                  ⟨(some 66), .o3 (.pick (.t 61) (.t 65) (.c (.bool false))), none⟩,
                  ⟨(some 57), .mov (.t 66), none⟩] (some [5, 6, 8, 57]))
              (.cond (.t 57)
                (.reg [⟨(some 67), .u1 (.load none) (.t 5), none⟩,
                    ⟨(some 68), .u1 (.faddr 9) (.t 8), none⟩,
                    ⟨(some 69), .u1 (.faddr 0) (.t 68), none⟩,
                    ⟨(some 70), .u1 (.load none) (.t 69), none⟩,
                    ⟨(some 71), .u1 (.load none) (.t 6), none⟩,
                    ⟨(some 72), .o3 (.build [(.int .i64 0), (.str []), (.int .i64 0)] [(0, 1, (.c (.int .i64 3))), (1, 1, (.t 70)), (2, 1, (.t 71))]), none⟩,
                    ⟨(some 73), .o3 (.bslice 3 [(.t 72)]), none⟩,
                    ⟨(some 74), .b2 (.append 3) (.t 67) (.t 73), none⟩,
                    ⟨none, .b2 (.store 1) (.t 5) (.t 74), none⟩] (some [6]))
                .skip)))))))
        (.reg [⟨(some 75), .u1 (.load none) (.t 6), none⟩,
            ⟨(some 76), .b2 (.bin .add) (.t 75) (.c (.int .i64 1)), none⟩,
            ⟨none, .b2 (.store 1) (.t 6) (.t 76), none⟩] (some [])))))))
  (.seq (.reg [⟨(some 77), .u1 (.load none) (.t 5), none⟩,
      ⟨(some 2), .mov (.t 77), none⟩,
      ⟨(some 3), .mov (.c (.int .i64 0)), none⟩] (some [2, 3]))
  .ret)))))) }
noncomputable def a51 : AFn := { ntmps := 6, results := [.tmp 2], body :=
  (.seq (.reg [⟨(some 1), .u2 .box (.t 0), none⟩,
      ⟨(some 2), .mov (.c (.int .i64 0)), none⟩] (some [1]))
  (.seq (.reg [⟨(some 3), .u1 (.load (some 7)) (.t 1), none⟩,
      ⟨(some 4), .call (.c (.fn 53 [] [])) [(.t 3)], none⟩,
      ⟨(some 5), .call (.c (.fn 62 [] [])) [(.t 4)], none⟩,
      ⟨(some 2), .mov (.t 5), none⟩] (some [2]))
  .ret)) }
noncomputable def a52 : AFn := { ntmps := 5, results := [.cell 2 (some 29)], body :=
  (.seq (.reg [⟨(some 1), .u2 .box (.t 0), none⟩,
      ⟨(some 2), .o3 (.alloc [(.int .i64 0), (.int .i64 0), (.int .i64 0), (.int .i64 0), (.int .i64 0), (.int .i64 0), (.str []), .nilsl, .nilsl, (.str []), .nilsl, .nilsl, .nilsl, (.bool false), .nilsl, .nilsl, (.int .i64 0), .nilsl, .nilsl, .nilsl, .nilsl, (.int .i64 0), (.str []), .nilsl, .nilsl, (.bool false), .nilsl, .nilsl, .nilsl]), none⟩] (some [1, 2]))
  (.seq (.reg [⟨(some 3), .u1 (.load (some 29)) (.t 1), none⟩,
      ⟨(some 4), .call (.c (.fn 63 [] [])) [(.t 3), (.c (.fn 64 [] []))], none⟩,
      ⟨none, .b2 (.store 29) (.t 2) (.t 4), none⟩] (some [2]))
  .ret)) }
noncomputable def a53 : AFn := { ntmps := 5, results := [.cell 2 (some 29)], body :=
  (.seq (.reg [⟨(some 1), .u2 .box (.t 0), none⟩,
      ⟨(some 2), .o3 (.alloc [(.int .i64 0), (.int .i64 0), (.int .i64 0), (.int .i64 0), (.int .i64 0), (.int .i64 0), (.str []), .nilsl, .nilsl, (.str []), .nilsl, .nilsl, .nilsl, (.bool false), .nilsl, .nilsl, (.int .i64 0), .nilsl, .nilsl, .nilsl, .nilsl, (.int .i64 0), (.str []), .nilsl, .nilsl, (.bool false), .nilsl, .nilsl, .nilsl]), none⟩] (some [1, 2]))
  (.seq (.reg [⟨(some 3), .u1 (.load (some 7)) (.t 1), none⟩,
      ⟨(some 4), .o3 (.build [(.int .i64 0), (.int .i64 0), (.int .i64 0), (.int .i64 0), (.int .i64 0), (.int .i64 0), (.str []), .nilsl, .nilsl, (.str []), .nilsl, .nilsl, .nilsl, (.bool false), .nilsl, .nilsl, (.int .i64 0), .nilsl, .nilsl, .nilsl, .nilsl, (.int .i64 0), (.str []), .nilsl, .nilsl, (.bool false), .nilsl, .nilsl, .nilsl] [(0, 1, (.c (.int .i64 2))), (9, 7, (.t 3))]), none⟩,
      ⟨none, .b2 (.store 29) (.t 2) (.t 4), none⟩] (some [2]))
  .ret)) }
noncomputable def a54 : AFn := { ntmps := 38, results := [], body :=
  (.seq (.reg [⟨(some 11), .mov (.t 0), none⟩,
      ⟨(some 12), .u1 (.len .sl) (.t 11), none⟩,
      ⟨(some 13), .mov (.c (.int .i64 0)), none⟩] (some [1, 2, 3, 4, 11, 12, 13]))
  (.block 0
    (.loop
      (.seq (.reg [⟨(some 14), .b2 (.bin .lss) (.t 13) (.t 12), none⟩] (some [1, 2, 3, 4, 11, 12, 13, 14]))
      (.seq (.cond (.t 14)
        .skip
        (.exit 0))
      (.seq (.block 1
        (.seq (.reg [⟨(some 15), .b2 (.iaddr 8) (.t 11) (.t 13), none⟩,
            ⟨(some 16), .u1 (.load (some 8)) (.t 15), none⟩,
            ⟨(some 8), .o3 (.alloc [(.int .i64 0), (.int .i64 0), (.int .i64 0), (.int .i64 0), (.int .i64 0), (.str []), .nilsl, .nilsl]), none⟩,
            ⟨none, .b2 (.store 8) (.t 8) (.t 16), none⟩] (some [1, 2, 3, 4, 8, 11, 12, 13]))
        (.seq (.reg [⟨(some 17), .u1 (.load none) (.t 2), none⟩,
            ⟨(some 18), .b2 (.bin .add) (.t 17) (.c (.int .i64 1)), none⟩,
            ⟨none, .b2 (.store 1) (.t 2) (.t 18), none⟩] (some [1, 2, 3, 4, 8, 11, 12, 13]))
        (.seq (.reg [⟨(some 19), .u1 (.load none) (.t 3), none⟩,
            ⟨(some 20), .u1 (.faddr 6) (.t 8), none⟩,
            ⟨(some 21), .u1 (.load none) (.t 20), none⟩,
            ⟨(some 22), .mov (.t 1), none⟩,
            ⟨(some 23), .call (.t 19) [(.t 21), (.t 22)], none⟩] (some [1, 2, 3, 4, 8, 11, 12, 13]))
        (.seq (.reg [⟨(some 24), .u1 (.faddr 7) (.t 8), none⟩,
            ⟨(some 25), .u1 (.load none) (.t 24), none⟩,
            ⟨(some 26), .u1 (.len .sl) (.t 25), none⟩,
            ⟨(some 27), .mov (.c (.int .i64 0)), none⟩] (some [1, 2, 3, 4, 11, 12, 13, 25, 26, 27]))
        (.block 2
          (.loop
            (.seq (.reg [⟨(some 28), .b2 (.bin .lss) (.t 27) (.t 26), none⟩] (some [1, 2, 3, 4, 11, 12, 13, 25, 26, 27, 28]))
            (.seq (.cond (.t 28)
              .skip
              (.exit 2))
            (.seq (.block 3
              (.seq (.reg [⟨(some 29), .b2 (.iaddr 7) (.t 25) (.t 27), none⟩,
                  ⟨(some 30), .u1 (.load (some 7)) (.t 29), none⟩,
                  ⟨(some 10), .o3 (.alloc [(.str []), .nilsl, .nilsl, .nilsl, (.bool false), .nilsl, .nilsl]), none⟩,
                  ⟨none, .b2 (.store 7) (.t 10) (.t 30), none⟩] (some [1, 2, 3, 4, 10, 11, 12, 13, 25, 26, 27]))
              (.reg [⟨(some 31), .u1 (.load none) (.t 4), none⟩,
                  ⟨(some 32), .u1 (.load (some 7)) (.t 10), none⟩,
                  ⟨(some 33), .mov (.t 1), none⟩,
                  ⟨(some 34), .o3 (.build [(.int .i64 0), .nilsl, .nilsl, .nilsl, .nilsl] []), none⟩,
                  ⟨(some 35), .call (.t 31) [(.t 32), (.t 33), (.t 34)], none⟩] (some [1, 2, 3, 4, 11, 12, 13, 25, 26, 27]))))
            (.reg [⟨(some 36), .b2 (.bin .add) (.t 27) (.c (.int .i64 1)), none⟩,
                ⟨(some 27), .mov (.t 36), none⟩] (some [1, 2, 3, 4, 11, 12, 13, 25, 26, 27]))))))))))))
      (.reg [⟨(some 37), .b2 (.bin .add) (.t 13) (.c (.int .i64 1)), none⟩,
          ⟨(some 13), .mov (.t 37), none⟩] (some [1, 2, 3, 4, 11, 12, 13])))))))) }
noncomputable def a55 : AFn := { ntmps := 50, results := [], body :=
  (.seq (.reg [⟨(some 11), .mov (.t 0), none⟩,
      ⟨(some 12), .u1 (.len .sl) (.t 11), none⟩,
      ⟨(some 13), .mov (.c (.int .i64 0)), none⟩] (some [1, 2, 3, 4, 11, 12, 13]))
  (.block 0
    (.loop
      (.seq (.reg [⟨(some 14), .b2 (.bin .lss) (.t 13) (.t 12), none⟩] (some [1, 2, 3, 4, 11, 12, 13, 14]))
      (.seq (.cond (.t 14)
        .skip
        (.exit 0))
      (.seq (.block 1
        (.seq (.reg [⟨(some 15), .b2 (.iaddr 6) (.t 11) (.t 13), none⟩,
            ⟨(some 16), .u1 (.load (some 6)) (.t 15), none⟩,
            ⟨(some 8), .o3 (.alloc [(.int .i64 0), (.str []), .nilsl, .nilsl, (.bool false), .nilsl]), none⟩,
            ⟨none, .b2 (.store 6) (.t 8) (.t 16), none⟩] (some [1, 2, 3, 4, 8, 11, 12, 13]))
        (.seq (.reg [⟨(some 17), .u1 (.load none) (.t 2), none⟩,
            ⟨(some 18), .b2 (.bin .add) (.t 17) (.c (.int .i64 1)), none⟩,
            ⟨none, .b2 (.store 1) (.t 2) (.t 18), none⟩] (some [1, 2, 3, 4, 8, 11, 12, 13]))
        (.seq (.reg [⟨(some 19), .u1 (.load none) (.t 3), none⟩,
            ⟨(some 20), .u1 (.faddr 2) (.t 8), none⟩,
            ⟨(some 21), .u1 (.load none) (.t 20), none⟩,
            ⟨(some 22), .mov (.t 1), none⟩,
            ⟨(some 23), .call (.t 19) [(.t 21), (.t 22)], none⟩] (some [1, 2, 3, 4, 8, 11, 12, 13]))
        (.seq (.seq (.reg [⟨(some 24), .u1 (.faddr 3) (.t 8), none⟩,
            ⟨(some 25), .u1 (.load none) (.t 24), none⟩,
            ⟨(some 26), .u1 (.len .sl) (.t 25), none⟩,
            ⟨(some 27), .mov (.c (.int .i64 0)), none⟩] (some [1, 2, 3, 4, 8, 11, 12, 13, 25, 26, 27]))
        (.block 2
          (.loop
            (.seq (.reg [⟨(some 28), .b2 (.bin .lss) (.t 27) (.t 26), none⟩] (some [1, 2, 3, 4, 8, 11, 12, 13, 25, 26, 27, 28]))
            (.seq (.cond (.t 28)
              .skip
              (.exit 2))
            (.seq (.block 3
              (.seq (.reg [⟨(some 29), .b2 (.iaddr 2) (.t 25) (.t 27), none⟩,
                  ⟨(some 30), .u1 (.load (some 2)) (.t 29), none⟩,
                  ⟨(some 10), .o3 (.alloc [.nilsl, .nilsl]), none⟩,
                  ⟨none, .b2 (.store 2) (.t 10) (.t 30), none⟩] (some [1, 2, 3, 4, 8, 10, 11, 12, 13, 25, 26, 27]))
              (.seq (.reg [⟨(some 31), .u1 (.load none) (.t 2), none⟩,
                  ⟨(some 32), .b2 (.bin .add) (.t 31) (.c (.int .i64 1)), none⟩,
                  ⟨none, .b2 (.store 1) (.t 2) (.t 32), none⟩] (some [1, 2, 3, 4, 8, 10, 11, 12, 13, 25, 26, 27]))
              (.seq (.reg [⟨(some 33), .u1 (.load none) (.t 3), none⟩,
                  ⟨(some 34), .u1 (.faddr 0) (.t 10), none⟩,
                  ⟨(some 35), .u1 (.load none) (.t 34), none⟩,
                  ⟨(some 36), .mov (.t 1), none⟩,
                  ⟨(some 37), .call (.t 33) [(.t 35), (.t 36)], none⟩] (some [1, 2, 3, 4, 8, 10, 11, 12, 13, 25, 26, 27]))
              (.reg [⟨(some 38), .u1 (.load none) (.t 4), none⟩,
                  ⟨(some 39), .u1 (.faddr 1) (.t 10), none⟩,
                  ⟨(some 40), .u1 (.load none) (.t 39), none⟩,
                  ⟨(some 41), .mov (.t 1), none⟩,
                  ⟨(some 42), .call (.t 38) [(.t 40), (.t 41)], none⟩] (some [1, 2, 3, 4, 8, 11, 12, 13, 25, 26, 27]))))))
            (.reg [⟨(some 43), .b2 (.bin .add) (.t 27) (.c (.int .i64 1)), none⟩,
                ⟨(some 27), .mov (.t 43), none⟩] (some [1, 2, 3, 4, 8, 11, 12, 13, 25, 26, 27]))))))))
        (.reg [⟨(some 44), .u1 (.load none) (.t 4), none⟩,
            ⟨(some 45), .u1 (.faddr 5) (.t 8), none⟩,
            ⟨(some 46), .u1 (.load none) (.t 45), none⟩,
            ⟨(some 47), .mov (.t 1), none⟩,
            ⟨(some 48), .call (.t 44) [(.t 46), (.t 47)], none⟩] (some [1, 2, 3, 4, 11, 12, 13])))))))
      (.reg [⟨(some 49), .b2 (.bin .add) (.t 13) (.c (.int .i64 1)), none⟩,
          ⟨(some 13), .mov (.t 49), none⟩] (some [1, 2, 3, 4, 11, 12, 13])))))))) }
noncomputable def a56 : AFn := { ntmps := 101, results := [.tmp 11], body :=
  (.seq (.reg [⟨(some 8), .u2 .box (.t 0), none⟩,
      ⟨(some 10), .u2 .box (.t 2), none⟩,
      ⟨(some 11), .mov (.c (.int .i64 0)), none⟩] (some [1, 3, 4, 5, 6, 7, 8, 10]))
  (.seq (.reg [⟨(some 17), .u1 (.load none) (.t 3), none⟩,
      ⟨(some 18), .u1 .nilchk (.t 17), none⟩,
      ⟨(some 19), .u1 (.faddr 0) (.t 18), none⟩,
      ⟨(some 20), .u1 (.load none) (.t 19), none⟩,
      ⟨(some 21), .u1 (.len .sl) (.t 20), none⟩,
      ⟨(some 12), .mov (.t 21), none⟩] (some [1, 3, 4, 5, 6, 7, 8, 10, 12]))
  (.seq (.dreg [⟨⟨(some 22), .u1 (.load none) (.t 3), none⟩, .look [0, 1, 2]⟩,
      ⟨⟨(some 23), .u1 (.load none) (.t 3), none⟩, .look [0, 1]⟩,
      ⟨⟨(some 24), .u1 .nilchk (.t 23), none⟩, .soft⟩,
      ⟨⟨(some 25), .u1 (.faddr 0) (.t 24), none⟩, .soft⟩,
      ⟨⟨(some 26), .u1 (.load none) (.t 25), none⟩, .look [0, 1]⟩,
      ⟨⟨(some 27), .u1 (.load (some 7)) (.t 8), none⟩, .look [0]⟩,
      ⟨⟨(some 28), .u1 (.load none) (.t 4), none⟩, .look [0]⟩,
      ⟨⟨(some 29), .mov (.t 1), none⟩, .soft⟩,
      ⟨⟨(some 30), .u1 (.load (some 5)) (.t 10), none⟩, .look [0]⟩,
      ⟨⟨(some 31), .o3 (.build [(.str []), .nilsl, .nilsl, .nilsl, (.bool false), .nilsl, .nilsl, (.int .i64 0), (.int .i64 0), (.int .i64 0), .nilsl, .nilsl, .nilsl, .nilsl, (.bool false), .nilsl, .nilsl, (.int .i64 0), (.int .i64 0)] [(0, 7, (.t 27)), (7, 1, (.t 28)), (8, 1, (.t 29)), (9, 5, (.t 30))]), none⟩, .soft⟩,
      ⟨⟨(some 32), .u2 .box (.t 31), none⟩, .hard true⟩,
      ⟨⟨(some 33), .o3 (.bslice 1 [(.t 32)]), none⟩, .soft⟩,
      ⟨⟨(some 34), .b2 (.append 1) (.t 26) (.t 33), none⟩, .hard true⟩,
      ⟨⟨(some 35), .u1 .nilchk (.t 22), none⟩, .soft⟩,
      ⟨⟨(some 36), .u1 (.faddr 0) (.t 35), none⟩, .soft⟩,
      ⟨⟨none, .b2 (.store 1) (.t 36) (.t 34), none⟩, .hard true⟩] (some [1, 3, 4, 5, 6, 7, 8, 12]))
  (.seq (.reg [⟨(some 37), .u1 (.load none) (.t 4), none⟩,
      ⟨(some 38), .b2 (.bin .add) (.t 37) (.c (.int .i64 1)), none⟩,
      ⟨none, .b2 (.store 1) (.t 4) (.t 38), none⟩] (some [1, 3, 4, 5, 6, 7, 8, 12]))
  (.seq (.reg [⟨(some 39), .u1 (.load none) (.t 5), none⟩,
      ⟨(some 40), .u1 (.faddr 1) (.t 8), none⟩,
      ⟨(some 41), .u1 (.load none) (.t 40), none⟩,
      ⟨(some 42), .mov (.t 1), none⟩,
      ⟨(some 43), .call (.t 39) [(.t 41), (.t 42)], none⟩] (some [3, 4, 5, 6, 7, 8, 12]))
  (.seq (.seq (.reg [⟨(some 44), .u1 (.faddr 2) (.t 8), none⟩,
      ⟨(some 45), .u1 (.load none) (.t 44), none⟩,
      ⟨(some 46), .u1 (.len .sl) (.t 45), none⟩,
      ⟨(some 47), .mov (.c (.int .i64 0)), none⟩] (some [3, 4, 5, 6, 7, 8, 12, 45, 46, 47]))
  (.block 0
    (.loop
      (.seq (.reg [⟨(some 48), .b2 (.bin .lss) (.t 47) (.t 46), none⟩] (some [3, 4, 5, 6, 7, 8, 12, 45, 46, 47, 48]))
      (.seq (.cond (.t 48)
        .skip
        (.exit 0))
      (.seq (.block 1
        (.seq (.reg [⟨(some 49), .mov (.t 47), none⟩,
            ⟨(some 50), .b2 (.iaddr 5) (.t 45) (.t 47), none⟩,
            ⟨(some 51), .u1 (.load (some 5)) (.t 50), none⟩,
            ⟨(some 14), .o3 (.alloc [(.int .i64 0), .nilsl, .nilsl, .nilsl, .nilsl]), none⟩,
            ⟨(some 13), .mov (.t 49), none⟩,
            ⟨none, .b2 (.store 5) (.t 14) (.t 51), none⟩] (some [3, 4, 5, 6, 7, 8, 12, 13, 14, 45, 46, 47]))
        (.seq (.reg [⟨(some 52), .u1 (.load none) (.t 4), none⟩,
            ⟨(some 53), .b2 (.bin .add) (.t 52) (.c (.int .i64 1)), none⟩,
            ⟨none, .b2 (.store 1) (.t 4) (.t 53), none⟩] (some [3, 4, 5, 6, 7, 8, 12, 13, 14, 45, 46, 47]))
        (.seq (.reg [⟨(some 54), .u1 (.load none) (.t 5), none⟩,
            ⟨(some 55), .u1 (.faddr 2) (.t 14), none⟩,
            ⟨(some 56), .u1 (.load none) (.t 55), none⟩,
            ⟨(some 57), .mov (.t 12), none⟩,
            ⟨(some 58), .call (.t 54) [(.t 56), (.t 57)], none⟩] (some [3, 4, 5, 6, 7, 8, 12, 13, 14, 45, 46, 47]))
        (.seq (.reg [⟨(some 59), .u1 (.load none) (.t 5), none⟩,
            ⟨(some 60), .u1 (.faddr 3) (.t 14), none⟩,
            ⟨(some 61), .u1 (.load none) (.t 60), none⟩,
            ⟨(some 62), .mov (.t 12), none⟩,
            ⟨(some 63), .call (.t 59) [(.t 61), (.t 62)], none⟩] (some [3, 4, 5, 6, 7, 8, 12, 13, 14, 45, 46, 47]))
        (.seq (.reg [⟨(some 64), .u1 (.faddr 4) (.t 14), none⟩,
            ⟨(some 65), .u1 (.load none) (.t 64), none⟩,
            ⟨(some 66), .u1 (.len .sl) (.t 65), none⟩,
            ⟨(some 67), .mov (.c (.int .i64 0)), none⟩] (some [3, 4, 5, 6, 7, 8, 12, 13, 14, 45, 46, 47, 65, 66, 67]))
        (.block 2
          (.loop
            (.seq (.reg [⟨(some 68), .b2 (.bin .lss) (.t 67) (.t 66), none⟩] (some [3, 4, 5, 6, 7, 8, 12, 13, 14, 45, 46, 47, 65, 66, 67, 68]))
            (.seq (.cond (.t 68)
              .skip
              (.exit 2))
            (.seq (.block 3
              (.seq (.reg [⟨(some 69), .b2 (.iaddr 7) (.t 65) (.t 67), none⟩,
                  ⟨(some 70), .u1 (.load (some 7)) (.t 69), none⟩,
                  ⟨(some 16), .o3 (.alloc [(.str []), .nilsl, .nilsl, .nilsl, (.bool false), .nilsl, .nilsl]), none⟩,
                  ⟨none, .b2 (.store 7) (.t 16) (.t 70), none⟩] (some [3, 4, 5, 6, 7, 8, 12, 13, 14, 16, 45, 46, 47, 65, 66, 67]))
              (.dreg [⟨⟨(some 71), .u1 (.load none) (.t 3), none⟩, .look [0, 1]⟩,
                  ⟨⟨(some 72), .u1 .nilchk (.t 71), none⟩, .soft⟩,
                  ⟨⟨(some 73), .u1 (.faddr 1) (.t 72), none⟩, .soft⟩,
                  ⟨⟨(some 74), .u1 (.load none) (.t 73), none⟩, .look [0, 1]⟩,
                  ⟨⟨(some 75), .mov (.t 12), none⟩, .soft⟩,
                  ⟨⟨(some 76), .mov (.t 13), none⟩, .soft⟩,
                  ⟨⟨(some 77), .o3 (.build [(.int .i64 0), (.int .i64 0)] [(0, 1, (.t 75)), (1, 1, (.t 76))]), none⟩, .soft⟩,
                  ⟨⟨(some 78), .u1 (.load none) (.t 6), none⟩, .look [0]⟩,
                  ⟨⟨(some 79), .u1 (.load (some 7)) (.t 16), none⟩, .look [0]⟩,
                  ⟨⟨(some 80), .mov (.t 12), none⟩, .soft⟩,
                  ⟨⟨(some 81), .u1 (.load (some 5)) (.t 14), none⟩, .look [0]⟩,
                  ⟨⟨(some 82), .call (.t 78) [(.t 79), (.t 80), (.t 81)], none⟩, .hard true⟩,
                  ⟨⟨none, .o3 (.mapUpd (.cells [.int, .int]) (.t 74) (.t 77) (.t 82)), none⟩, .hard true⟩] (some [3, 4, 5, 6, 7, 8, 12, 13, 14, 45, 46, 47, 65, 66, 67]))))
            (.reg [⟨(some 83), .b2 (.bin .add) (.t 67) (.c (.int .i64 1)), none⟩,
                ⟨(some 67), .mov (.t 83), none⟩] (some [3, 4, 5, 6, 7, 8, 12, 13, 14, 45, 46, 47, 65, 66, 67])))))))))))))
      (.reg [⟨(some 84), .b2 (.bin .add) (.t 47) (.c (.int .i64 1)), none⟩,
          ⟨(some 47), .mov (.t 84), none⟩] (some [3, 4, 5, 6, 7, 8, 12, 45, 46, 47]))))))))
  (.seq (.reg [⟨(some 85), .u1 (.load none) (.t 5), none⟩,
      ⟨(some 86), .u1 (.faddr 3) (.t 8), none⟩,
      ⟨(some 87), .u1 (.load none) (.t 86), none⟩,
      ⟨(some 88), .mov (.t 12), none⟩,
      ⟨(some 89), .call (.t 85) [(.t 87), (.t 88)], none⟩] (some [5, 7, 8, 12]))
  (.seq (.reg [⟨(some 90), .u1 (.load none) (.t 7), none⟩,
      ⟨(some 91), .u1 (.faddr 5) (.t 8), none⟩,
      ⟨(some 92), .u1 (.load none) (.t 91), none⟩,
      ⟨(some 93), .mov (.t 12), none⟩,
      ⟨(some 94), .call (.t 90) [(.t 92), (.t 93)], none⟩] (some [5, 8, 12]))
  (.seq (.reg [⟨(some 95), .u1 (.load none) (.t 5), none⟩,
      ⟨(some 96), .u1 (.faddr 6) (.t 8), none⟩,
      ⟨(some 97), .u1 (.load none) (.t 96), none⟩,
      ⟨(some 98), .mov (.t 12), none⟩,
      ⟨(some 99), .call (.t 95) [(.t 97), (.t 98)], none⟩] (some [12]))
  (.seq (.reg [⟨(some 100), .mov (.t 12), none⟩,
      ⟨(some 11), .mov (.t 100), none⟩] (some [11]))
  .ret)))))))))) }
noncomputable def a57 : AFn := { ntmps := 11, results := [.tmp 2], body :=
  (.seq (.reg [⟨(some 1), .u2 .box (.t 0), none⟩,
      ⟨(some 2), .mov (.c (.bool false)), none⟩] (some [1]))
  (.seq (.reg [⟨(some 3), .u1 (.faddr 0) (.t 1), none⟩,
      ⟨(some 4), .u1 (.load none) (.t 3), none⟩,
      ⟨(some 5), .b2 (.eq false (.simple .int)) (.t 4) (.c (.int .i64 3)), none⟩,
      ⟨(some 6), .mov (.t 5), none⟩,
      ⟨(some 7), .u1 (.faddr 0) (.t 1), (some (6, false))⟩,
      ⟨(some 8), .u1 (.load none) (.t 7), (some (6, false))⟩,
      ⟨(some 9), .b2 (.eq false (.simple .int)) (.t 8) (.c (.int .i64 4)), (some (6, false))⟩,
      ⟨(some 10), .o3 (.pick (.t 6) (.c (.bool true)) (.t 9)), none⟩,
      ⟨(some 2), .mov (.t 10), none⟩] (some [2]))
  .ret)) }
noncomputable def a58 : AFn := { ntmps := 76, results := [.cell 6 (some 3)], body :=
  (.seq (.reg [⟨(some 5), .u2 .box (.t 2), none⟩,
      ⟨(some 6), .o3 (.alloc [(.int .i64 0), (.int .i64 0), (.int .i64 0)]), none⟩] (some [0, 1, 5, 6]))
  (.seq (.reg [⟨(some 10), .u1 (.faddr 0) (.t 5), none⟩,
      ⟨(some 11), .u1 (.load none) (.t 10), none⟩,
      ⟨(some 12), .b2 (.eq false (.simple .int)) (.t 11) (.c (.int .i64 8)), none⟩,
      ⟨(some 13), .call (.c (.fn 35 [] [])) [(.t 12), (.c (.int .i64 11))], none⟩] (some [0, 1, 5, 6]))
  (.seq (.reg [⟨(some 15), .mov (.t 0), none⟩,
      ⟨(some 16), .mov (.t 1), none⟩,
      ⟨(some 17), .u1 (.faddr 5) (.t 5), none⟩,
      ⟨(some 18), .u1 (.load none) (.t 17), none⟩,
      ⟨(some 19), .call (.c (.fn 14 [] [])) [(.t 15), (.t 16), (.t 18)], none⟩,
      ⟨(some 14), .mov (.t 19), none⟩,
      ⟨(some 20), .u1 (.extract 0) (.t 14), none⟩,
      ⟨(some 21), .u1 (.extract 1) (.t 14), none⟩,
      ⟨(some 7), .o3 (.alloc [(.int .i64 0), (.int .i64 0), (.int .i64 0), (.int .i64 0)]), none⟩,
      ⟨none, .b2 (.store 4) (.t 7) (.t 20), none⟩,
      ⟨(some 8), .mov (.t 21), none⟩] (some [0, 1, 5, 6, 7, 8]))
  (.seq (.seq (.reg [⟨(some 22), .mov (.t 8), none⟩,
      ⟨(some 23), .u2 (.un .not) (.t 22), none⟩] (some [0, 1, 5, 6, 7, 23]))
  (.cond (.t 23)
    (.seq (.reg [⟨(some 24), .u1 (.faddr 5) (.t 5), none⟩,
        ⟨(some 25), .u1 (.load none) (.t 24), none⟩,
        ⟨(some 26), .b2 (.eq false (.simple .str)) (.t 25) (.c (.str [111, 98, 106, 101, 99, 116])), none⟩,
        ⟨(some 27), .call (.c (.fn 35 [] [])) [(.t 26), (.c (.int .i64 11))], none⟩] (some [6]))
    (.seq (.reg [⟨(some 28), .o3 (.build [(.int .i64 0), (.int .i64 0), (.int .i64 0)] [(0, 1, (.c (.int .i64 (-1))))]), none⟩,
        ⟨none, .b2 (.store 3) (.t 6) (.t 28), none⟩] (some [6]))
    .ret))
    .skip))
  (.seq (.dreg [⟨⟨(some 29), .mov (.t 0), none⟩, .soft⟩,
      ⟨⟨(some 30), .mov (.t 0), none⟩, .soft⟩,
      ⟨⟨(some 31), .mov (.t 1), none⟩, .soft⟩,
      ⟨⟨(some 32), .u1 (.faddr 0) (.t 7), none⟩, .soft⟩,
      ⟨⟨(some 33), .u1 (.load none) (.t 32), none⟩, .look [0]⟩,
      ⟨⟨(some 34), .call (.c (.fn 17 [] [])) [(.t 30), (.t 31), (.t 33)], none⟩, .hard false⟩,
      ⟨⟨(some 35), .call (.c (.fn 32 [] [])) [(.t 29), (.t 34)], none⟩, .hard false⟩,
      ⟨⟨(some 36), .u1 .nilchk (.t 35), none⟩, .soft⟩,
      ⟨⟨(some 37), .u1 (.faddr 15) (.t 36), none⟩, .soft⟩,
      ⟨⟨(some 38), .u1 (.load none) (.t 37), none⟩, .look [2]⟩,
      ⟨⟨(some 39), .u1 (.faddr 1) (.t 7), none⟩, .soft⟩,
      ⟨⟨(some 40), .u1 (.load none) (.t 39), none⟩, .look [0, 1, 2]⟩,
      ⟨⟨(some 41), .b2 (.iaddr 1) (.t 38) (.t 40), none⟩, .soft⟩,
      ⟨⟨(some 42), .u1 (.load none) (.t 41), none⟩, .look [2]⟩,
      ⟨⟨(some 9), .mov (.t 42), none⟩, .soft⟩] (some [0, 6, 7, 9]))
  (.seq (.dreg [⟨⟨(some 43), .mov (.t 0), none⟩, .soft⟩,
      ⟨⟨(some 44), .u1 .nilchk (.t 43), none⟩, .soft⟩,
      ⟨⟨(some 45), .u1 (.faddr 0) (.t 44), none⟩, .soft⟩,
      ⟨⟨(some 46), .u1 (.load none) (.t 45), none⟩, .look [0]⟩,
      ⟨⟨(some 47), .mov (.t 9), none⟩, .soft⟩,
      ⟨⟨(some 48), .b2 (.iaddr 1) (.t 46) (.t 47), none⟩, .soft⟩,
      ⟨⟨(some 49), .u1 (.load none) (.t 48), none⟩, .look [0]⟩,
      ⟨⟨(some 50), .u1 .nilchk (.t 49), none⟩, .soft⟩,
      ⟨⟨(some 51), .u1 (.faddr 0) (.t 50), none⟩, .soft⟩,
      ⟨⟨(some 52), .u1 (.faddr 2) (.t 51), none⟩, .soft⟩,
      ⟨⟨(some 53), .u1 (.load none) (.t 52), none⟩, .look [0]⟩,
      ⟨⟨(some 54), .u1 (.faddr 2) (.t 7), none⟩, .soft⟩,
      ⟨⟨(some 55), .u1 (.load none) (.t 54), none⟩, .look [0]⟩,
      ⟨⟨(some 56), .b2 (.iaddr 5) (.t 53) (.t 55), none⟩, .soft⟩,
      ⟨⟨(some 57), .u1 (.faddr 0) (.t 56), none⟩, .soft⟩,
      ⟨⟨(some 58), .u1 (.load none) (.t 57), none⟩, .look [0]⟩,
      ⟨⟨(some 59), .b2 (.eq false (.simple .int)) (.t 58) (.c (.int .i64 1)), none⟩, .soft⟩,
      ⟨⟨(some 60), .call (.c (.fn 35 [] [])) [(.t 59), (.c (.int .i64 11))], none⟩, .hard true⟩] (some [0, 6, 7, 9]))
  (.seq (.dreg [⟨⟨(some 61), .mov (.t 0), none⟩, .soft⟩,
      ⟨⟨(some 62), .u1 .nilchk (.t 61), none⟩, .soft⟩,
      ⟨⟨(some 63), .u1 (.faddr 1) (.t 62), none⟩, .soft⟩,
      ⟨⟨(some 64), .u1 (.load none) (.t 63), none⟩, .look [0]⟩,
      ⟨⟨(some 65), .mov (.t 9), none⟩, .soft⟩,
      ⟨⟨(some 66), .u1 (.faddr 2) (.t 7), none⟩, .soft⟩,
      ⟨⟨(some 67), .u1 (.load none) (.t 66), none⟩, .look [0]⟩,
      ⟨⟨(some 68), .o3 (.build [(.int .i64 0), (.int .i64 0)] [(0, 1, (.t 65)), (1, 1, (.t 67))]), none⟩, .soft⟩,
      ⟨⟨(some 69), .b2 (.lookup (.cells [.int, .int]) (.int .i64 0) false) (.t 64) (.t 68), none⟩, .look [0]⟩,
      ⟨⟨(some 70), .u1 (.faddr 0) (.t 7), none⟩, .soft⟩,
      ⟨⟨(some 71), .u1 (.load none) (.t 70), none⟩, .look [0]⟩,
      ⟨⟨(some 72), .u1 (.faddr 1) (.t 7), none⟩, .soft⟩,
      ⟨⟨(some 73), .u1 (.load none) (.t 72), none⟩, .look [0]⟩,
      ⟨⟨(some 74), .o3 (.build [(.int .i64 0), (.int .i64 0)] [(0, 1, (.t 71)), (1, 1, (.t 73))]), none⟩, .soft⟩,
      ⟨⟨(some 75), .o3 (.build [(.int .i64 0), (.int .i64 0), (.int .i64 0)] [(0, 1, (.t 69)), (1, 2, (.t 74))]), none⟩, .soft⟩,
      ⟨⟨none, .b2 (.store 3) (.t 6) (.t 75), none⟩, .hard true⟩] (some [6]))
  .ret))))))) }
noncomputable def a59 : AFn := { ntmps := 65, results := [.tmp 6], body :=
  (.seq (.reg [⟨(some 6), .mov (.c .nilsl), none⟩] (some [0, 1, 2]))
  (.seq (.reg [⟨(some 7), .mov (.c .nilsl), none⟩] (some [0, 1, 2, 7]))
  (.seq (.seq (.reg [⟨(some 12), .mov (.t 1), none⟩,
      ⟨(some 13), .u1 (.len .sl) (.t 12), none⟩,
      ⟨(some 14), .mov (.c (.int .i64 0)), none⟩] (some [0, 2, 7, 12, 13, 14]))
  (.block 0
    (.loop
      (.seq (.reg [⟨(some 15), .b2 (.bin .lss) (.t 14) (.t 13), none⟩] (some [0, 2, 7, 12, 13, 14, 15]))
      (.seq (.cond (.t 15)
        .skip
        (.exit 0))
      (.seq (.block 1
        (.seq (.reg [⟨(some 16), .mov (.t 14), none⟩,
            ⟨(some 17), .b2 (.iaddr 1) (.t 12) (.t 14), none⟩,
            ⟨(some 18), .u1 (.load none) (.t 17), none⟩,
            ⟨(some 8), .mov (.t 16), none⟩,
            ⟨(some 9), .mov (.t 18), none⟩] (some [0, 2, 7, 8, 9, 12, 13, 14]))
        (.seq (.reg [⟨(some 20), .mov (.t 0), none⟩,
            ⟨(some 21), .u1 .nilchk (.t 20), none⟩,
            ⟨(some 22), .u1 (.faddr 0) (.t 21), none⟩,
            ⟨(some 23), .u1 (.load none) (.t 22), none⟩,
            ⟨(some 24), .mov (.t 9), none⟩,
            ⟨(some 25), .b2 (.iaddr 1) (.t 23) (.t 24), none⟩,
            ⟨(some 26), .u1 (.load none) (.t 25), none⟩,
            ⟨(some 27), .mov (.t 2), none⟩,
            ⟨(some 28), .call (.c (.fn 33 [] [])) [(.t 26), (.t 27)], none⟩,
            ⟨(some 19), .mov (.t 28), none⟩,
            ⟨(some 29), .u1 (.extract 0) (.t 19), none⟩,
            ⟨(some 30), .u1 (.extract 1) (.t 19), none⟩,
            ⟨(some 10), .o3 (.alloc [(.int .i64 0), (.int .i64 0), (.int .i64 0), (.int .i64 0)]), none⟩,
            ⟨none, .b2 (.store 4) (.t 10) (.t 29), none⟩,
            ⟨(some 11), .mov (.t 30), none⟩] (some [0, 2, 7, 8, 9, 10, 11, 12, 13, 14]))
        (.seq (.seq (.reg [⟨(some 31), .mov (.t 11), none⟩,
            ⟨(some 32), .u2 (.un .not) (.t 31), none⟩] (some [0, 2, 7, 8, 9, 10, 12, 13, 14, 32]))
        (.cond (.t 32)
          (.exit 1)
          .skip))
        (.seq (.dreg [⟨⟨(some 33), .mov (.t 0), none⟩, .soft⟩,
            ⟨⟨(some 34), .u1 .nilchk (.t 33), none⟩, .soft⟩,
            ⟨⟨(some 35), .u1 (.faddr 0) (.t 34), none⟩, .soft⟩,
            ⟨⟨(some 36), .u1 (.load none) (.t 35), none⟩, .look [0]⟩,
            ⟨⟨(some 37), .mov (.t 9), none⟩, .soft⟩,
            ⟨⟨(some 38), .b2 (.iaddr 1) (.t 36) (.t 37), none⟩, .soft⟩,
            ⟨⟨(some 39), .u1 (.load none) (.t 38), none⟩, .look [0]⟩,
            ⟨⟨(some 40), .u1 .nilchk (.t 39), none⟩, .soft⟩,
            ⟨⟨(some 41), .u1 (.faddr 0) (.t 40), none⟩, .soft⟩,
            ⟨⟨(some 42), .u1 (.faddr 2) (.t 41), none⟩, .soft⟩,
            ⟨⟨(some 43), .u1 (.load none) (.t 42), none⟩, .look [0]⟩,
            ⟨⟨(some 44), .u1 (.faddr 2) (.t 10), none⟩, .soft⟩,
            ⟨⟨(some 45), .u1 (.load none) (.t 44), none⟩, .look [0]⟩,
            ⟨⟨(some 46), .b2 (.iaddr 5) (.t 43) (.t 45), none⟩, .soft⟩,
            ⟨⟨(some 47), .u1 (.faddr 0) (.t 46), none⟩, .soft⟩,
            ⟨⟨(some 48), .u1 (.load none) (.t 47), none⟩, .look [0]⟩] (some [0, 2, 7, 8, 12, 13, 14, 48]))
        (.block 2
          (.seq (.reg [⟨(some 50), .b2 (.eq false (.simple .int)) (.t 48) (.c (.int .i64 2)), none⟩,
              ⟨(some 49), .mov (.t 50), none⟩] (some [0, 2, 7, 8, 12, 13, 14, 48, 49]))
          (.cond (.t 49)
            (.reg [⟨(some 51), .mov (.t 8), none⟩,
                ⟨(some 52), .o3 (.bslice 1 [(.t 51)]), none⟩,
                ⟨(some 7), .mov (.t 52), none⟩] (some [0, 2, 7, 12, 13, 14]))
            (.seq (.seq (.reg [⟨(some 54), .b2 (.eq false (.simple .int)) (.t 48) (.c (.int .i64 3)), none⟩,
                ⟨(some 53), .mov (.t 54), none⟩] (some [0, 2, 7, 8, 12, 13, 14, 48, 53]))
            (.cond (.t 53)
              .skip
              (.reg [⟨(some 55), .b2 (.eq false (.simple .int)) (.t 48) (.c (.int .i64 4)), none⟩,
                  ⟨(some 53), .mov (.t 55), none⟩] (some [0, 2, 7, 8, 12, 13, 14, 53]))))
            (.cond (.t 53)
              (.seq (.reg [⟨(some 56), .mov (.t 7), none⟩,
                  ⟨(some 57), .u1 (.len .sl) (.t 56), none⟩,
                  ⟨(some 58), .b2 (.bin .gtr) (.t 57) (.c (.int .i64 0)), none⟩] (some [0, 2, 7, 8, 12, 13, 14, 58]))
              (.cond (.t 58)
                (.reg [⟨(some 59), .mov (.t 7), none⟩,
                    ⟨(some 60), .mov (.t 8), none⟩,
                    ⟨(some 61), .o3 (.bslice 1 [(.t 60)]), none⟩,
                    ⟨(some 62), .b2 (.append 1) (.t 59) (.t 61), none⟩,
                    ⟨(some 7), .mov (.t 62), none⟩] (some [0, 2, 7, 12, 13, 14]))
                .skip))
              .skip))))))))))
      (.reg [⟨(some 63), .b2 (.bin .add) (.t 14) (.c (.int .i64 1)), none⟩,
          ⟨(some 14), .mov (.t 63), none⟩] (some [0, 2, 7, 12, 13, 14]))))))))
  (.seq (.reg [⟨(some 64), .mov (.t 7), none⟩,
      ⟨(some 6), .mov (.t 64), none⟩] (some [6]))
  .ret)))) }
noncomputable def a60 : AFn := { ntmps := 74, results := [.cell 8 (some 3)], body :=
  (.seq (.reg [⟨(some 8), .o3 (.alloc [(.int .i64 0), (.int .i64 0), (.int .i64 0)]), none⟩] (some [0, 1, 2, 3, 8]))
  (.seq (.dreg [⟨⟨(some 13), .mov (.t 0), none⟩, .soft⟩,
      ⟨⟨(some 14), .u1 .nilchk (.t 13), none⟩, .soft⟩,
      ⟨⟨(some 15), .u1 (.faddr 0) (.t 14), none⟩, .soft⟩,
      ⟨⟨(some 16), .u1 (.load none) (.t 15), none⟩, .look [0]⟩,
      ⟨⟨(some 17), .mov (.t 1), none⟩, .soft⟩,
      ⟨⟨(some 18), .mov (.t 2), none⟩, .soft⟩,
      ⟨⟨(some 19), .b2 (.iaddr 1) (.t 17) (.t 18), none⟩, .soft⟩,
      ⟨⟨(some 20), .u1 (.load none) (.t 19), none⟩, .look [0]⟩,
      ⟨⟨(some 21), .b2 (.iaddr 1) (.t 16) (.t 20), none⟩, .soft⟩,
      ⟨⟨(some 22), .u1 (.load none) (.t 21), none⟩, .look [0]⟩,
      ⟨⟨(some 23), .mov (.t 3), none⟩, .soft⟩,
      ⟨⟨(some 24), .call (.c (.fn 33 [] [])) [(.t 22), (.t 23)], none⟩, .hard false⟩,
      ⟨⟨(some 12), .mov (.t 24), none⟩, .soft⟩,
      ⟨⟨(some 25), .u1 (.extract 0) (.t 12), none⟩, .soft⟩,
      ⟨⟨(some 26), .u1 (.extract 1) (.t 12), none⟩, .soft⟩,
      ⟨⟨(some 9), .o3 (.alloc [(.int .i64 0), (.int .i64 0), (.int .i64 0), (.int .i64 0)]), none⟩, .pre [(.int .i64 0), (.int .i64 0), (.int .i64 0), (.int .i64 0)] [0, 1]⟩,
      ⟨⟨none, .b2 (.store 4) (.t 9) (.t 25), none⟩, .hard true⟩,
      ⟨⟨(some 10), .mov (.t 26), none⟩, .soft⟩] (some [0, 1, 2, 8, 9]))
  (.seq (.dreg [⟨⟨(some 27), .mov (.t 0), none⟩, .soft⟩,
      ⟨⟨(some 28), .u1 .nilchk (.t 27), none⟩, .soft⟩,
      ⟨⟨(some 29), .u1 (.faddr 0) (.t 28), none⟩, .soft⟩,
      ⟨⟨(some 30), .u1 (.load none) (.t 29), none⟩, .look [0]⟩,
      ⟨⟨(some 31), .mov (.t 1), none⟩, .soft⟩,
      ⟨⟨(some 32), .mov (.t 2), none⟩, .soft⟩,
      ⟨⟨(some 33), .b2 (.iaddr 1) (.t 31) (.t 32), none⟩, .soft⟩,
      ⟨⟨(some 34), .u1 (.load none) (.t 33), none⟩, .look [0]⟩,
      ⟨⟨(some 35), .b2 (.iaddr 1) (.t 30) (.t 34), none⟩, .soft⟩,
      ⟨⟨(some 36), .u1 (.load none) (.t 35), none⟩, .look [0]⟩,
      ⟨⟨(some 37), .u1 .nilchk (.t 36), none⟩, .soft⟩,
      ⟨⟨(some 38), .u1 (.faddr 0) (.t 37), none⟩, .soft⟩,
      ⟨⟨(some 39), .u1 (.faddr 2) (.t 38), none⟩, .soft⟩,
      ⟨⟨(some 40), .u1 (.load none) (.t 39), none⟩, .look [0]⟩,
      ⟨⟨(some 41), .u1 (.faddr 2) (.t 9), none⟩, .soft⟩,
      ⟨⟨(some 42), .u1 (.load none) (.t 41), none⟩, .look [0]⟩,
      ⟨⟨(some 43), .b2 (.iaddr 5) (.t 40) (.t 42), none⟩, .soft⟩,
      ⟨⟨(some 44), .u1 (.load (some 5)) (.t 43), none⟩, .look [0]⟩,
      ⟨⟨(some 11), .o3 (.alloc [(.int .i64 0), .nilsl, .nilsl, .nilsl, .nilsl]), none⟩, .pre [(.int .i64 0), .nilsl, .nilsl, .nilsl, .nilsl] [0]⟩,
      ⟨⟨none, .b2 (.store 5) (.t 11) (.t 44), none⟩, .hard true⟩] (some [0, 1, 2, 8, 9, 11]))
  (.seq (.seq (.reg [⟨(some 45), .u1 (.faddr 4) (.t 11), none⟩,
      ⟨(some 46), .u1 (.load none) (.t 45), none⟩,
      ⟨(some 47), .u1 (.len .sl) (.t 46), none⟩,
      ⟨(some 48), .b2 (.eq false (.simple .int)) (.t 47) (.c (.int .i64 1)), none⟩] (some [0, 1, 2, 8, 9, 11, 48]))
  (.cond (.t 48)
    (.seq (.dreg [⟨⟨(some 49), .mov (.t 0), none⟩, .soft⟩,
        ⟨⟨(some 50), .u1 .nilchk (.t 49), none⟩, .soft⟩,
        ⟨⟨(some 51), .u1 (.faddr 1) (.t 50), none⟩, .soft⟩,
        ⟨⟨(some 52), .u1 (.load none) (.t 51), none⟩, .look [0]⟩,
        ⟨⟨(some 53), .mov (.t 1), none⟩, .soft⟩,
        ⟨⟨(some 54), .mov (.t 2), none⟩, .soft⟩,
        ⟨⟨(some 55), .b2 (.iaddr 1) (.t 53) (.t 54), none⟩, .soft⟩,
        ⟨⟨(some 56), .u1 (.load none) (.t 55), none⟩, .look [0]⟩,
        ⟨⟨(some 57), .u1 (.faddr 2) (.t 9), none⟩, .soft⟩,
        ⟨⟨(some 58), .u1 (.load none) (.t 57), none⟩, .look [0]⟩,
        ⟨⟨(some 59), .o3 (.build [(.int .i64 0), (.int .i64 0)] [(0, 1, (.t 56)), (1, 1, (.t 58))]), none⟩, .soft⟩,
        ⟨⟨(some 60), .b2 (.lookup (.cells [.int, .int]) (.int .i64 0) false) (.t 52) (.t 59), none⟩, .look [0]⟩,
        ⟨⟨(some 61), .mov (.t 2), none⟩, .soft⟩,
        ⟨⟨(some 62), .o3 (.build [(.int .i64 0), (.int .i64 0)] [(0, 1, (.c (.int .i64 0))), (1, 1, (.t 61))]), none⟩, .soft⟩,
        ⟨⟨(some 63), .o3 (.build [(.int .i64 0), (.int .i64 0), (.int .i64 0)] [(0, 1, (.t 60)), (1, 2, (.t 62))]), none⟩, .soft⟩,
        ⟨⟨none, .b2 (.store 3) (.t 8) (.t 63), none⟩, .hard true⟩] (some [8]))
    .ret)
    .skip))
  (.seq (.dreg [⟨⟨(some 64), .mov (.t 0), none⟩, .soft⟩,
      ⟨⟨(some 65), .mov (.t 1), none⟩, .soft⟩,
      ⟨⟨(some 66), .mov (.t 2), none⟩, .soft⟩,
      ⟨⟨(some 67), .b2 (.iaddr 1) (.t 65) (.t 66), none⟩, .soft⟩,
      ⟨⟨(some 68), .u1 (.load none) (.t 67), none⟩, .look [0]⟩,
      ⟨⟨(some 69), .u1 (.faddr 3) (.t 11), none⟩, .soft⟩,
      ⟨⟨(some 70), .u1 (.load none) (.t 69), none⟩, .look [0]⟩,
      ⟨⟨(some 71), .b2 (.iaddr 8) (.t 70) (.c (.int .i64 0)), none⟩, .soft⟩,
      ⟨⟨(some 72), .u1 (.load (some 8)) (.t 71), none⟩, .look [0]⟩,
      ⟨⟨(some 73), .call (.c (.fn 58 [] [])) [(.t 64), (.t 68), (.t 72)], none⟩, .hard true⟩,
      ⟨⟨none, .b2 (.store 3) (.t 8) (.t 73), none⟩, .hard true⟩] (some [8]))
  .ret))))) }
end Go.Proofs.YtobfakjhhpbdmaaGreatDoor

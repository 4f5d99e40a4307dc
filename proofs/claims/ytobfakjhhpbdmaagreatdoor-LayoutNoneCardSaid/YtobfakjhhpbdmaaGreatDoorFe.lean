/-
  FUNCTIONS IN THE ABSTRACT MACHINE's CODE: printed by wip/am/PrintAm.lean.
-/
import Derived.Test.YtobfakjhhpbdmaaGreatDoorAmBase
namespace Go.Proofs.YtobfakjhhpbdmaaGreatDoor
open Go Go.Am
noncomputable def a99 : AFn := { ntmps := 59, results := [.tmp 4], body :=
  (.seq (.reg [⟨(some 2), .u2 .box (.t 0), none⟩,
      ⟨(some 3), .u2 .box (.t 1), none⟩,
      ⟨(some 4), .mov (.c (.bool false)), none⟩] (some [2, 3]))
  (.seq (.reg [⟨(some 5), .u1 (.faddr 8) (.t 2), none⟩,
      ⟨(some 6), .u1 (.load none) (.t 5), none⟩,
      ⟨(some 7), .mov (.t 6), none⟩,
      ⟨(some 8), .u1 (.faddr 1) (.t 3), (some (7, true))⟩,
      ⟨(some 9), .u1 (.load none) (.t 8), (some (7, true))⟩,
      ⟨(some 10), .u1 (.faddr 0) (.t 2), (some (7, true))⟩,
      ⟨(some 11), .u1 (.faddr 1) (.t 10), (some (7, true))⟩,
      ⟨(some 12), .u1 (.load none) (.t 11), (some (7, true))⟩,
      ⟨(some 13), .b2 (.eq false (.simple .int)) (.t 9) (.t 12), (some (7, true))⟩,
      ⟨(some 14), .o3 (.pick (.t 7) (.t 13) (.c (.bool false))), none⟩,
      ⟨(some 15), .mov (.t 14), none⟩,
      ⟨(some 16), .u1 (.faddr 2) (.t 3), (some (15, true))⟩,
      ⟨(some 17), .u1 (.load none) (.t 16), (some (15, true))⟩,
      ⟨(some 18), .u1 (.faddr 0) (.t 2), (some (15, true))⟩,
      ⟨(some 19), .u1 (.faddr 2) (.t 18), (some (15, true))⟩,
      ⟨(some 20), .u1 (.load none) (.t 19), (some (15, true))⟩,
      ⟨(some 21), .b2 (.eq false (.simple .int)) (.t 17) (.t 20), (some (15, true))⟩,
      ⟨(some 22), .o3 (.pick (.t 15) (.t 21) (.c (.bool false))), none⟩,
      ⟨(some 23), .mov (.t 22), none⟩,
      ⟨(some 24), .u1 (.faddr 3) (.t 3), (some (23, true))⟩,
      ⟨(some 25), .u1 (.load (some 2)) (.t 24), (some (23, true))⟩,
      ⟨(some 26), .u1 (.faddr 0) (.t 2), (some (23, true))⟩,
      ⟨(some 27), .u1 (.faddr 3) (.t 26), (some (23, true))⟩,
      ⟨(some 28), .u1 (.load (some 2)) (.t 27), (some (23, true))⟩,
      ⟨(some 29), .b2 (.eq false (.cells [.int, .int])) (.t 25) (.t 28), (some (23, true))⟩,
      ⟨(some 30), .o3 (.pick (.t 23) (.t 29) (.c (.bool false))), none⟩,
      ⟨(some 31), .mov (.t 30), none⟩,
      ⟨(some 32), .u1 (.faddr 5) (.t 3), (some (31, true))⟩,
      ⟨(some 33), .u1 (.load none) (.t 32), (some (31, true))⟩,
      ⟨(some 34), .u1 (.faddr 0) (.t 2), (some (31, true))⟩,
      ⟨(some 35), .u1 (.faddr 5) (.t 34), (some (31, true))⟩,
      ⟨(some 36), .u1 (.load none) (.t 35), (some (31, true))⟩,
      ⟨(some 37), .b2 (.eq false (.simple .str)) (.t 33) (.t 36), (some (31, true))⟩,
      ⟨(some 38), .o3 (.pick (.t 31) (.t 37) (.c (.bool false))), none⟩,
      ⟨(some 39), .mov (.t 38), none⟩,
      ⟨(some 40), .u1 (.faddr 6) (.t 3), (some (39, true))⟩,
      ⟨(some 41), .u1 (.load none) (.t 40), (some (39, true))⟩,
      ⟨(some 42), .u1 (.len .sl) (.t 41), (some (39, true))⟩,
      ⟨(some 43), .u1 (.faddr 0) (.t 2), (some (39, true))⟩,
      ⟨(some 44), .u1 (.faddr 6) (.t 43), (some (39, true))⟩,
      ⟨(some 45), .u1 (.load none) (.t 44), (some (39, true))⟩,
      ⟨(some 46), .u1 (.len .sl) (.t 45), (some (39, true))⟩,
      ⟨(some 47), .b2 (.eq false (.simple .int)) (.t 42) (.t 46), (some (39, true))⟩,
      ⟨(some 48), .o3 (.pick (.t 39) (.t 47) (.c (.bool false))), none⟩,
      ⟨(some 49), .mov (.t 48), none⟩,
      ⟨(some 50), .u1 (.faddr 7) (.t 3), (some (49, true))⟩,
      ⟨(some 51), .u1 (.load none) (.t 50), (some (49, true))⟩,
      ⟨(some 52), .u1 (.len .sl) (.t 51), (some (49, true))⟩,
      ⟨(some 53), .u1 (.faddr 0) (.t 2), (some (49, true))⟩,
      ⟨(some 54), .u1 (.faddr 7) (.t 53), (some (49, true))⟩,
      ⟨(some 55), .u1 (.load none) (.t 54), (some (49, true))⟩,
      ⟨(some 56), .u1 (.len .sl) (.t 55), (some (49, true))⟩,
      ⟨(some 57), .b2 (.eq false (.simple .int)) (.t 52) (.t 56), (some (49, true))⟩,
      ⟨(some 58), .o3 (.pick (.t 49) (.t 57) (.c (.bool false))), none⟩,
      ⟨(some 4), .mov (.t 58), none⟩] (some [4]))
  .ret)) }
noncomputable def a100 : AFn := { ntmps := 5, results := [.tmp 1], body :=
  (.seq (.reg [⟨(some 1), .mov (.c (.bool false)), none⟩] (some [0]))
  (.seq (.reg [⟨(some 2), .u1 (.faddr 9) (.t 0), none⟩,
      ⟨(some 3), .u1 (.load (some 7)) (.t 2), none⟩,
      ⟨(some 4), .call (.c (.fn 101 [] [])) [(.t 3)], none⟩,
      ⟨(some 1), .mov (.t 4), none⟩] (some [1]))
  .ret)) }
noncomputable def a101 : AFn := { ntmps := 63, results := [.tmp 2], body :=
  (.seq (.reg [⟨(some 1), .u2 .box (.t 0), none⟩,
      ⟨(some 2), .mov (.c (.bool false)), none⟩] (some [1]))
  (.seq (.seq (.reg [⟨(some 3), .u1 (.faddr 0) (.t 1), none⟩,
      ⟨(some 4), .u1 (.load none) (.t 3), none⟩,
      ⟨(some 5), .b2 (.eq true (.simple .str)) (.t 4) (.c (.str [])), none⟩] (some [1, 5]))
  (.cond (.t 5)
    (.seq (.reg [⟨(some 6), .u1 (.faddr 0) (.t 1), none⟩,
        ⟨(some 7), .u1 (.load none) (.t 6), none⟩,
        ⟨(some 8), .call (.c (.fn 119 [] [])) [(.t 7)], none⟩,
        ⟨(some 9), .mov (.t 8), none⟩,
        ⟨(some 10), .u1 (.faddr 4) (.t 1), (some (9, true))⟩,
        ⟨(some 11), .u1 (.load none) (.t 10), (some (9, true))⟩,
        ⟨(some 12), .u2 (.un .not) (.t 11), (some (9, true))⟩,
        ⟨(some 13), .o3 (.pick (.t 9) (.t 12) (.c (.bool false))), none⟩,
        ⟨(some 14), .mov (.t 13), none⟩,
        ⟨(some 15), .u1 (.faddr 1) (.t 1), (some (14, true))⟩,
        ⟨(some 16), .u1 (.load none) (.t 15), (some (14, true))⟩,
        ⟨(some 17), .u1 (.len .sl) (.t 16), (some (14, true))⟩,
        ⟨(some 18), .u1 (.faddr 2) (.t 1), (some (14, true))⟩,
        ⟨(some 19), .u1 (.load none) (.t 18), (some (14, true))⟩,
        ⟨(some 20), .u1 (.len .sl) (.t 19), (some (14, true))⟩,
        ⟨(some 21), .b2 (.bin .add) (.t 17) (.t 20), (some (14, true))⟩,
        ⟨(some 22), .u1 (.faddr 3) (.t 1), (some (14, true))⟩,
        ⟨(some 23), .u1 (.load none) (.t 22), (some (14, true))⟩,
        ⟨(some 24), .u1 (.len .sl) (.t 23), (some (14, true))⟩,
        ⟨(some 25), .b2 (.bin .add) (.t 21) (.t 24), (some (14, true))⟩,
        ⟨(some 26), .u1 (.faddr 5) (.t 1), (some (14, true))⟩,
        ⟨(some 27), .u1 (.load none) (.t 26), (some (14, true))⟩,
        ⟨(some 28), .u1 (.len .sl) (.t 27), (some (14, true))⟩,
        ⟨(some 29), .b2 (.bin .add) (.t 25) (.t 28), (some (14, true))⟩,
        ⟨(some 30), .u1 (.faddr 6) (.t 1), (some (14, true))⟩,
        ⟨(some 31), .u1 (.load none) (.t 30), (some (14, true))⟩,
        ⟨(some 32), .u1 (.len .sl) (.t 31), (some (14, true))⟩,
        ⟨(some 33), .b2 (.bin .add) (.t 29) (.t 32), (some (14, true))⟩,
        ⟨(some 34), .b2 (.eq false (.simple .int)) (.t 33) (.c (.int .i64 0)), (some (14, true))⟩,
        ⟨(some 35), .o3 (.pick (.t 14) (.t 34) (.c (.bool false))), none⟩,
        ⟨(some 2), .mov (.t 35), none⟩] (some [2]))
    .ret)
    .skip))
  (.seq (.reg [⟨(some 36), .u1 (.faddr 1) (.t 1), none⟩,
      ⟨(some 37), .u1 (.load none) (.t 36), none⟩,
      ⟨(some 38), .u1 (.len .sl) (.t 37), none⟩,
      ⟨(some 39), .b2 (.bin .leq) (.t 38) (.c (.int .i64 1)), none⟩,
      ⟨(some 40), .mov (.t 39), none⟩,
      ⟨(some 41), .u1 (.faddr 1) (.t 1), (some (40, true))⟩,
      ⟨(some 42), .u1 (.load none) (.t 41), (some (40, true))⟩,
      ⟨(some 43), .u1 (.len .sl) (.t 42), (some (40, true))⟩,
      ⟨(some 44), .b2 (.eq false (.simple .int)) (.t 43) (.c (.int .i64 0)), (some (40, true))⟩,
      ⟨(some 45), .mov (.t 44), (some (40, true))⟩,
      ⟨(some 46), .u1 (.faddr 1) (.t 1), (some (45, false))⟩,
      ⟨(some 47), .u1 (.load none) (.t 46), (some (45, false))⟩,
      ⟨(some 48), .b2 (.iaddr 8) (.t 47) (.c (.int .i64 0)), (some (45, false))⟩,
      ⟨(some 49), .u1 (.load (some 8)) (.t 48), (some (45, false))⟩,
      ⟨(some 50), .call (.c (.fn 120 [] [])) [(.t 49), (.c (.bool true))], (some (45, false))⟩,
      ⟨(some 51), .o3 (.pick (.t 45) (.c (.bool true)) (.t 50)), (some (40, true))⟩,
      ⟨(some 52), .o3 (.pick (.t 40) (.t 51) (.c (.bool false))), none⟩,
      ⟨(some 53), .mov (.t 52), none⟩,
      ⟨(some 54), .u1 (.faddr 4) (.t 1), (some (53, true))⟩,
      ⟨(some 55), .u1 (.load none) (.t 54), (some (53, true))⟩,
      ⟨(some 56), .mov (.t 55), (some (53, true))⟩,
      ⟨(some 57), .u1 (.faddr 5) (.t 1), (some (56, false))⟩,
      ⟨(some 58), .u1 (.load none) (.t 57), (some (56, false))⟩,
      ⟨(some 59), .u1 (.len .sl) (.t 58), (some (56, false))⟩,
      ⟨(some 60), .b2 (.eq false (.simple .int)) (.t 59) (.c (.int .i64 0)), (some (56, false))⟩,
      ⟨(some 61), .o3 (.pick (.t 56) (.c (.bool true)) (.t 60)), (some (53, true))⟩,
      ⟨(some 62), .o3 (.pick (.t 53) (.t 61) (.c (.bool false))), none⟩,
      ⟨(some 2), .mov (.t 62), none⟩] (some [2]))
  .ret))) }
noncomputable def a102 : AFn := { ntmps := 5, results := [.tmp 1], body :=
  (.seq (.reg [⟨(some 1), .mov (.c (.bool false)), none⟩] (some [0]))
  (.seq (.reg [⟨(some 2), .u1 (.faddr 16) (.t 0), none⟩,
      ⟨(some 3), .u1 (.load (some 5)) (.t 2), none⟩,
      ⟨(some 4), .call (.c (.fn 103 [] [])) [(.t 3)], none⟩,
      ⟨(some 1), .mov (.t 4), none⟩] (some [1]))
  .ret)) }
noncomputable def a103 : AFn := { ntmps := 113, results := [.tmp 2], body :=
  (.seq (.reg [⟨(some 1), .u2 .box (.t 0), none⟩,
      ⟨(some 2), .mov (.c (.bool false)), none⟩] (some [1]))
  (.seq (.seq (.reg [⟨(some 6), .u1 (.faddr 1) (.t 1), none⟩,
      ⟨(some 7), .u1 (.load none) (.t 6), none⟩,
      ⟨(some 8), .u1 (.len .sl) (.t 7), none⟩,
      ⟨(some 9), .b2 (.eq false (.simple .int)) (.t 8) (.c (.int .i64 0)), none⟩] (some [1, 9]))
  (.cond (.t 9)
    (.seq (.reg [⟨(some 2), .mov (.c (.bool false)), none⟩] (some [2]))
    .ret)
    .skip))
  (.seq (.seq (.reg [⟨(some 10), .u1 (.faddr 1) (.t 1), none⟩,
      ⟨(some 11), .u1 (.load none) (.t 10), none⟩,
      ⟨(some 12), .u1 (.len .sl) (.t 11), none⟩,
      ⟨(some 13), .mov (.c (.int .i64 0)), none⟩] (some [1, 11, 12, 13]))
  (.block 0
    (.loop
      (.seq (.reg [⟨(some 14), .b2 (.bin .lss) (.t 13) (.t 12), none⟩] (some [1, 11, 12, 13, 14]))
      (.seq (.cond (.t 14)
        .skip
        (.exit 0))
      (.seq (.block 1
        (.seq (.reg [⟨(some 15), .b2 (.iaddr 1) (.t 11) (.t 13), none⟩,
            ⟨(some 16), .u1 (.load none) (.t 15), none⟩,
            ⟨(some 4), .mov (.t 16), none⟩] (some [1, 4, 11, 12, 13]))
        (.seq (.reg [⟨(some 17), .mov (.t 4), none⟩,
            ⟨(some 18), .call (.c (.fn 119 [] [])) [(.t 17)], none⟩,
            ⟨(some 19), .u2 (.un .not) (.t 18), none⟩] (some [1, 11, 12, 13, 19]))
        (.cond (.t 19)
          (.seq (.reg [⟨(some 2), .mov (.c (.bool false)), none⟩] (some [2]))
          .ret)
          .skip))))
      (.reg [⟨(some 20), .b2 (.bin .add) (.t 13) (.c (.int .i64 1)), none⟩,
          ⟨(some 13), .mov (.t 20), none⟩] (some [1, 11, 12, 13]))))))))
  (.seq (.reg [⟨(some 21), .u1 (.faddr 2) (.t 1), none⟩,
      ⟨(some 22), .u1 (.load none) (.t 21), none⟩,
      ⟨(some 23), .u1 (.len .sl) (.t 22), none⟩,
      ⟨(some 24), .b2 (.eq false (.simple .int)) (.t 23) (.c (.int .i64 0)), none⟩,
      ⟨(some 5), .mov (.t 24), none⟩] (some [1, 5]))
  (.seq (.seq (.reg [⟨(some 25), .u1 (.faddr 0) (.t 1), none⟩,
      ⟨(some 26), .u1 (.load none) (.t 25), none⟩] (some [1, 5, 26]))
  (.block 2
    (.seq (.reg [⟨(some 28), .b2 (.eq false (.simple .int)) (.t 26) (.c (.int .i64 1)), none⟩,
        ⟨(some 27), .mov (.t 28), none⟩] (some [1, 5, 26, 27]))
    (.cond (.t 27)
      (.seq (.reg [⟨(some 29), .mov (.t 5), none⟩,
          ⟨(some 30), .mov (.t 29), none⟩,
          ⟨(some 31), .u1 (.faddr 3) (.t 1), (some (30, true))⟩,
          ⟨(some 32), .u1 (.load none) (.t 31), (some (30, true))⟩,
          ⟨(some 33), .u1 (.len .sl) (.t 32), (some (30, true))⟩,
          ⟨(some 34), .b2 (.eq false (.simple .int)) (.t 33) (.c (.int .i64 0)), (some (30, true))⟩,
          ⟨(some 35), .o3 (.pick (.t 30) (.t 34) (.c (.bool false))), none⟩,
          ⟨(some 36), .mov (.t 35), none⟩,
          ⟨(some 37), .u1 (.faddr 4) (.t 1), (some (36, true))⟩,
          ⟨(some 38), .u1 (.load none) (.t 37), (some (36, true))⟩,
          ⟨(some 39), .u1 (.len .sl) (.t 38), (some (36, true))⟩,
          ⟨(some 40), .b2 (.eq false (.simple .int)) (.t 39) (.c (.int .i64 1)), (some (36, true))⟩,
          ⟨(some 41), .o3 (.pick (.t 36) (.t 40) (.c (.bool false))), none⟩,
          ⟨(some 2), .mov (.t 41), none⟩] (some [2]))
      .ret)
      (.seq (.seq (.reg [⟨(some 43), .b2 (.eq false (.simple .int)) (.t 26) (.c (.int .i64 2)), none⟩,
          ⟨(some 42), .mov (.t 43), none⟩] (some [1, 5, 26, 42]))
      (.cond (.t 42)
        .skip
        (.seq (.reg [⟨(some 44), .b2 (.eq false (.simple .int)) (.t 26) (.c (.int .i64 3)), none⟩,
            ⟨(some 42), .mov (.t 44), none⟩] (some [1, 5, 26, 42]))
        (.cond (.t 42)
          .skip
          (.seq (.reg [⟨(some 45), .b2 (.eq false (.simple .int)) (.t 26) (.c (.int .i64 4)), none⟩,
              ⟨(some 42), .mov (.t 45), none⟩] (some [1, 5, 26, 42]))
          (.cond (.t 42)
            .skip
            (.reg [⟨(some 46), .b2 (.eq false (.simple .int)) (.t 26) (.c (.int .i64 7)), none⟩,
                ⟨(some 42), .mov (.t 46), none⟩] (some [1, 5, 26, 42]))))))))
      (.cond (.t 42)
        (.seq (.reg [⟨(some 47), .mov (.t 5), none⟩,
            ⟨(some 48), .mov (.t 47), none⟩,
            ⟨(some 49), .u1 (.load (some 5)) (.t 1), (some (48, true))⟩,
            ⟨(some 50), .call (.c (.fn 121 [] [])) [(.t 49)], (some (48, true))⟩,
            ⟨(some 51), .o3 (.pick (.t 48) (.t 50) (.c (.bool false))), none⟩,
            ⟨(some 2), .mov (.t 51), none⟩] (some [2]))
        .ret)
        (.seq (.reg [⟨(some 53), .b2 (.eq false (.simple .int)) (.t 26) (.c (.int .i64 5)), none⟩,
            ⟨(some 52), .mov (.t 53), none⟩] (some [1, 5, 26, 52]))
        (.cond (.t 52)
          (.seq (.reg [⟨(some 54), .u1 (.faddr 2) (.t 1), none⟩,
              ⟨(some 55), .u1 (.load none) (.t 54), none⟩,
              ⟨(some 56), .u1 (.len .sl) (.t 55), none⟩,
              ⟨(some 57), .b2 (.bin .leq) (.t 56) (.c (.int .i64 1)), none⟩,
              ⟨(some 58), .mov (.t 57), none⟩,
              ⟨(some 59), .u1 (.load (some 5)) (.t 1), (some (58, true))⟩,
              ⟨(some 60), .call (.c (.fn 121 [] [])) [(.t 59)], (some (58, true))⟩,
              ⟨(some 61), .o3 (.pick (.t 58) (.t 60) (.c (.bool false))), none⟩,
              ⟨(some 2), .mov (.t 61), none⟩] (some [2]))
          .ret)
          (.seq (.reg [⟨(some 63), .b2 (.eq false (.simple .int)) (.t 26) (.c (.int .i64 6)), none⟩,
              ⟨(some 62), .mov (.t 63), none⟩] (some [1, 5, 26, 62]))
          (.cond (.t 62)
            (.seq (.reg [⟨(some 64), .u1 (.faddr 2) (.t 1), none⟩,
                ⟨(some 65), .u1 (.load none) (.t 64), none⟩,
                ⟨(some 66), .u1 (.len .sl) (.t 65), none⟩,
                ⟨(some 67), .b2 (.bin .leq) (.t 66) (.c (.int .i64 1)), none⟩,
                ⟨(some 68), .mov (.t 67), none⟩,
                ⟨(some 69), .u1 (.faddr 3) (.t 1), (some (68, true))⟩,
                ⟨(some 70), .u1 (.load none) (.t 69), (some (68, true))⟩,
                ⟨(some 71), .call (.c (.fn 122 [] [])) [(.t 70)], (some (68, true))⟩,
                ⟨(some 72), .o3 (.pick (.t 68) (.t 71) (.c (.bool false))), none⟩,
                ⟨(some 73), .mov (.t 72), none⟩,
                ⟨(some 74), .u1 (.faddr 4) (.t 1), (some (73, true))⟩,
                ⟨(some 75), .u1 (.load none) (.t 74), (some (73, true))⟩,
                ⟨(some 76), .u1 (.len .sl) (.t 75), (some (73, true))⟩,
                ⟨(some 77), .b2 (.eq false (.simple .int)) (.t 76) (.c (.int .i64 0)), (some (73, true))⟩,
                ⟨(some 78), .o3 (.pick (.t 73) (.t 77) (.c (.bool false))), none⟩,
                ⟨(some 2), .mov (.t 78), none⟩] (some [2]))
            .ret)
            (.seq (.seq (.reg [⟨(some 80), .b2 (.eq false (.simple .int)) (.t 26) (.c (.int .i64 8)), none⟩,
                ⟨(some 79), .mov (.t 80), none⟩] (some [1, 5, 26, 79]))
            (.cond (.t 79)
              .skip
              (.reg [⟨(some 81), .b2 (.eq false (.simple .int)) (.t 26) (.c (.int .i64 9)), none⟩,
                  ⟨(some 79), .mov (.t 81), none⟩] (some [1, 5, 26, 79]))))
            (.cond (.t 79)
              (.seq (.reg [⟨(some 82), .mov (.t 5), none⟩,
                  ⟨(some 83), .mov (.t 82), none⟩,
                  ⟨(some 84), .u1 (.faddr 3) (.t 1), (some (83, true))⟩,
                  ⟨(some 85), .u1 (.load none) (.t 84), (some (83, true))⟩,
                  ⟨(some 86), .call (.c (.fn 122 [] [])) [(.t 85)], (some (83, true))⟩,
                  ⟨(some 87), .o3 (.pick (.t 83) (.t 86) (.c (.bool false))), none⟩,
                  ⟨(some 88), .mov (.t 87), none⟩,
                  ⟨(some 89), .u1 (.faddr 4) (.t 1), (some (88, true))⟩,
                  ⟨(some 90), .u1 (.load none) (.t 89), (some (88, true))⟩,
                  ⟨(some 91), .u1 (.len .sl) (.t 90), (some (88, true))⟩,
                  ⟨(some 92), .b2 (.eq false (.simple .int)) (.t 91) (.c (.int .i64 0)), (some (88, true))⟩,
                  ⟨(some 93), .o3 (.pick (.t 88) (.t 92) (.c (.bool false))), none⟩,
                  ⟨(some 2), .mov (.t 93), none⟩] (some [2]))
              .ret)
              (.seq (.reg [⟨(some 95), .b2 (.eq false (.simple .int)) (.t 26) (.c (.int .i64 10)), none⟩,
                  ⟨(some 94), .mov (.t 95), none⟩] (some [1, 5, 94]))
              (.cond (.t 94)
                (.seq (.reg [⟨(some 96), .mov (.t 5), none⟩,
                    ⟨(some 97), .mov (.t 96), none⟩,
                    ⟨(some 98), .u1 (.faddr 3) (.t 1), (some (97, true))⟩,
                    ⟨(some 99), .u1 (.load none) (.t 98), (some (97, true))⟩,
                    ⟨(some 100), .u1 (.len .sl) (.t 99), (some (97, true))⟩,
                    ⟨(some 101), .u1 (.faddr 4) (.t 1), (some (97, true))⟩,
                    ⟨(some 102), .u1 (.load none) (.t 101), (some (97, true))⟩,
                    ⟨(some 103), .u1 (.len .sl) (.t 102), (some (97, true))⟩,
                    ⟨(some 104), .b2 (.bin .add) (.t 100) (.t 103), (some (97, true))⟩,
                    ⟨(some 105), .b2 (.eq false (.simple .int)) (.t 104) (.c (.int .i64 0)), (some (97, true))⟩,
                    ⟨(some 106), .o3 (.pick (.t 97) (.t 105) (.c (.bool false))), none⟩,
                    ⟨(some 107), .mov (.t 106), none⟩,
                    ⟨(some 108), .u1 (.faddr 1) (.t 1), (some (107, true))⟩,
                    ⟨(some 109), .u1 (.load none) (.t 108), (some (107, true))⟩,
                    ⟨(some 110), .u1 (.len .sl) (.t 109), (some (107, true))⟩,
                    ⟨(some 111), .b2 (.eq false (.simple .int)) (.t 110) (.c (.int .i64 1)), (some (107, true))⟩,
                    ⟨(some 112), .o3 (.pick (.t 107) (.t 111) (.c (.bool false))), none⟩,
                    ⟨(some 2), .mov (.t 112), none⟩] (some [2]))
                .ret)
                .skip))))))))))))))
  (.seq (.reg [⟨(some 2), .mov (.c (.bool false)), none⟩] (some [2]))
  .ret)))))) }
noncomputable def a107 : AFn := { ntmps := 19, results := [], body :=
  (.seq (.reg [⟨(some 6), .u1 (.load none) (.t 1), none⟩,
      ⟨(some 7), .u1 (.len .sl) (.t 6), none⟩,
      ⟨(some 8), .mov (.c (.int .i64 0)), none⟩] (some [0, 2, 6, 7, 8]))
  (.block 0
    (.loop
      (.seq (.reg [⟨(some 9), .b2 (.bin .lss) (.t 8) (.t 7), none⟩] (some [0, 2, 6, 7, 8, 9]))
      (.seq (.cond (.t 9)
        .skip
        (.exit 0))
      (.seq (.block 1
        (.seq (.reg [⟨(some 10), .b2 (.iaddr 8) (.t 6) (.t 8), none⟩,
            ⟨(some 11), .u1 (.load (some 8)) (.t 10), none⟩,
            ⟨(some 5), .o3 (.alloc [(.int .i64 0), (.int .i64 0), (.int .i64 0), (.int .i64 0), (.int .i64 0), (.str []), .nilsl, .nilsl]), none⟩,
            ⟨none, .b2 (.store 8) (.t 5) (.t 11), none⟩] (some [0, 2, 5, 6, 7, 8]))
        (.seq (.reg [⟨(some 12), .mov (.t 0), none⟩,
            ⟨(some 13), .u1 (.load none) (.t 2), none⟩,
            ⟨(some 14), .u1 (.load (some 8)) (.t 5), none⟩,
            ⟨(some 15), .call (.t 13) [(.t 14)], none⟩,
            ⟨(some 16), .call (.t 12) [(.t 15)], none⟩,
            ⟨(some 17), .u2 (.un .not) (.t 16), none⟩] (some [0, 2, 6, 7, 8, 17]))
        (.cond (.t 17)
          .ret
          .skip))))
      (.reg [⟨(some 18), .b2 (.bin .add) (.t 8) (.c (.int .i64 1)), none⟩,
          ⟨(some 8), .mov (.t 18), none⟩] (some [0, 2, 6, 7, 8])))))))) }
noncomputable def a108 : AFn := { ntmps := 19, results := [], body :=
  (.seq (.reg [⟨(some 6), .u1 (.load none) (.t 1), none⟩,
      ⟨(some 7), .u1 (.len .sl) (.t 6), none⟩,
      ⟨(some 8), .mov (.c (.int .i64 0)), none⟩] (some [0, 2, 6, 7, 8]))
  (.block 0
    (.loop
      (.seq (.reg [⟨(some 9), .b2 (.bin .lss) (.t 8) (.t 7), none⟩] (some [0, 2, 6, 7, 8, 9]))
      (.seq (.cond (.t 9)
        .skip
        (.exit 0))
      (.seq (.block 1
        (.seq (.reg [⟨(some 10), .b2 (.iaddr 5) (.t 6) (.t 8), none⟩,
            ⟨(some 11), .u1 (.load (some 5)) (.t 10), none⟩,
            ⟨(some 5), .o3 (.alloc [(.int .i64 0), .nilsl, .nilsl, .nilsl, .nilsl]), none⟩,
            ⟨none, .b2 (.store 5) (.t 5) (.t 11), none⟩] (some [0, 2, 5, 6, 7, 8]))
        (.seq (.reg [⟨(some 12), .mov (.t 0), none⟩,
            ⟨(some 13), .u1 (.load none) (.t 2), none⟩,
            ⟨(some 14), .u1 (.load (some 5)) (.t 5), none⟩,
            ⟨(some 15), .call (.t 13) [(.t 14)], none⟩,
            ⟨(some 16), .call (.t 12) [(.t 15)], none⟩,
            ⟨(some 17), .u2 (.un .not) (.t 16), none⟩] (some [0, 2, 6, 7, 8, 17]))
        (.cond (.t 17)
          .ret
          .skip))))
      (.reg [⟨(some 18), .b2 (.bin .add) (.t 8) (.c (.int .i64 1)), none⟩,
          ⟨(some 8), .mov (.t 18), none⟩] (some [0, 2, 6, 7, 8])))))))) }
noncomputable def a109 : AFn := { ntmps := 19, results := [], body :=
  (.seq (.reg [⟨(some 6), .u1 (.load none) (.t 1), none⟩,
      ⟨(some 7), .u1 (.len .sl) (.t 6), none⟩,
      ⟨(some 8), .mov (.c (.int .i64 0)), none⟩] (some [0, 2, 6, 7, 8]))
  (.block 0
    (.loop
      (.seq (.reg [⟨(some 9), .b2 (.bin .lss) (.t 8) (.t 7), none⟩] (some [0, 2, 6, 7, 8, 9]))
      (.seq (.cond (.t 9)
        .skip
        (.exit 0))
      (.seq (.block 1
        (.seq (.reg [⟨(some 10), .b2 (.iaddr 6) (.t 6) (.t 8), none⟩,
            ⟨(some 11), .u1 (.load (some 6)) (.t 10), none⟩,
            ⟨(some 5), .o3 (.alloc [(.int .i64 0), (.str []), .nilsl, .nilsl, (.bool false), .nilsl]), none⟩,
            ⟨none, .b2 (.store 6) (.t 5) (.t 11), none⟩] (some [0, 2, 5, 6, 7, 8]))
        (.seq (.reg [⟨(some 12), .mov (.t 0), none⟩,
            ⟨(some 13), .u1 (.load none) (.t 2), none⟩,
            ⟨(some 14), .u1 (.load (some 6)) (.t 5), none⟩,
            ⟨(some 15), .call (.t 13) [(.t 14)], none⟩,
            ⟨(some 16), .call (.t 12) [(.t 15)], none⟩,
            ⟨(some 17), .u2 (.un .not) (.t 16), none⟩] (some [0, 2, 6, 7, 8, 17]))
        (.cond (.t 17)
          .ret
          .skip))))
      (.reg [⟨(some 18), .b2 (.bin .add) (.t 8) (.c (.int .i64 1)), none⟩,
          ⟨(some 8), .mov (.t 18), none⟩] (some [0, 2, 6, 7, 8])))))))) }
noncomputable def a110 : AFn := { ntmps := 19, results := [], body :=
  (.seq (.reg [⟨(some 6), .u1 (.load none) (.t 1), none⟩,
      ⟨(some 7), .u1 (.len .sl) (.t 6), none⟩,
      ⟨(some 8), .mov (.c (.int .i64 0)), none⟩] (some [0, 2, 6, 7, 8]))
  (.block 0
    (.loop
      (.seq (.reg [⟨(some 9), .b2 (.bin .lss) (.t 8) (.t 7), none⟩] (some [0, 2, 6, 7, 8, 9]))
      (.seq (.cond (.t 9)
        .skip
        (.exit 0))
      (.seq (.block 1
        (.seq (.reg [⟨(some 10), .b2 (.iaddr 7) (.t 6) (.t 8), none⟩,
            ⟨(some 11), .u1 (.load (some 7)) (.t 10), none⟩,
            ⟨(some 5), .o3 (.alloc [(.str []), .nilsl, .nilsl, .nilsl, (.bool false), .nilsl, .nilsl]), none⟩,
            ⟨none, .b2 (.store 7) (.t 5) (.t 11), none⟩] (some [0, 2, 5, 6, 7, 8]))
        (.seq (.reg [⟨(some 12), .mov (.t 0), none⟩,
            ⟨(some 13), .u1 (.load none) (.t 2), none⟩,
            ⟨(some 14), .u1 (.load (some 7)) (.t 5), none⟩,
            ⟨(some 15), .call (.t 13) [(.t 14)], none⟩,
            ⟨(some 16), .call (.t 12) [(.t 15)], none⟩,
            ⟨(some 17), .u2 (.un .not) (.t 16), none⟩] (some [0, 2, 6, 7, 8, 17]))
        (.cond (.t 17)
          .ret
          .skip))))
      (.reg [⟨(some 18), .b2 (.bin .add) (.t 8) (.c (.int .i64 1)), none⟩,
          ⟨(some 8), .mov (.t 18), none⟩] (some [0, 2, 6, 7, 8])))))))) }
noncomputable def a112 : AFn := { ntmps := 31, results := [.cell 7 none], body :=
  (.seq (.reg [⟨(some 5), .u2 .box (.t 0), none⟩,
      ⟨(some 6), .u2 .box (.t 1), none⟩,
      ⟨(some 7), .o3 (.alloc [(.bool false)]), none⟩] (some [2, 3, 4, 5, 6, 7, 24]))
  (.seq (.dreg [⟨⟨(some 9), .u1 (.load none) (.t 2), none⟩, .look [0, 1]⟩,
      ⟨⟨(some 10), .u1 (.load (some 29)) (.t 5), none⟩, .look [0]⟩,
      ⟨⟨(some 11), .call (.c (.fn 113 [] [])) [(.t 10)], none⟩, .hard true⟩,
      ⟨⟨(some 12), .b2 (.bin .add) (.t 9) (.t 11), none⟩, .soft⟩,
      ⟨⟨none, .b2 (.store 1) (.t 2) (.t 12), none⟩, .hard true⟩] (some [2, 3, 4, 5, 6, 7, 24]))
  (.seq (.reg [⟨(some 13), .u1 (.load none) (.t 3), none⟩,
      ⟨(some 14), .u1 (.load none) (.t 6), none⟩,
      ⟨(some 15), .o3 (.mx true [(.t 13), (.t 14)]), none⟩,
      ⟨none, .b2 (.store 1) (.t 3) (.t 15), none⟩] (some [2, 4, 5, 6, 7, 24]))
  (.seq (.seq (.reg [⟨(some 16), .u1 (.load none) (.t 2), none⟩,
      ⟨(some 17), .b2 (.bin .gtr) (.t 16) (.c (.int .i64 2000)), none⟩,
      ⟨(some 18), .mov (.t 17), none⟩,
      ⟨(some 19), .u1 (.load none) (.t 6), (some (18, false))⟩,
      ⟨(some 20), .b2 (.bin .gtr) (.t 19) (.c (.int .i64 60)), (some (18, false))⟩,
      ⟨(some 21), .o3 (.pick (.t 18) (.c (.bool true)) (.t 20)), none⟩] (some [4, 5, 6, 7, 21, 24]))
  (.cond (.t 21)
    (.seq (.reg [⟨none, .b2 (.store 1) (.t 7) (.c (.bool false)), none⟩] (some [7]))
    .ret)
    .skip))
  (.seq (.seq (.reg [⟨(some 22), .u1 (.load (some 29)) (.t 5), none⟩,
      ⟨(some 23), .call (.c (.fn 67 [] [])) [(.t 22)], none⟩] (some [4, 6, 7, 23, 24]))
  (.block 0
    (.rf (.t 23) [24]
      (.reg [⟨(some 8), .o3 (.alloc [(.int .i64 0), (.int .i64 0), (.int .i64 0), (.int .i64 0), (.int .i64 0), (.int .i64 0), (.str []), .nilsl, .nilsl, (.str []), .nilsl, .nilsl, .nilsl, (.bool false), .nilsl, .nilsl, (.int .i64 0), .nilsl, .nilsl, .nilsl, .nilsl, (.int .i64 0), (.str []), .nilsl, .nilsl, (.bool false), .nilsl, .nilsl, .nilsl]), none⟩,
          ⟨none, .b2 (.store 29) (.t 8) (.t 24), none⟩] (some [4, 6, 7, 8]))
      (.block 1
        (.seq (.reg [⟨(some 25), .u1 (.load none) (.t 4), none⟩,
            ⟨(some 26), .u1 (.load (some 29)) (.t 8), none⟩,
            ⟨(some 27), .u1 (.load none) (.t 6), none⟩,
            ⟨(some 28), .b2 (.bin .add) (.t 27) (.c (.int .i64 1)), none⟩,
            ⟨(some 29), .call (.t 25) [(.t 26), (.t 28)], none⟩,
            ⟨(some 30), .u2 (.un .not) (.t 29), none⟩] (some [7, 30]))
        (.cond (.t 30)
          (.seq (.reg [⟨none, .b2 (.store 1) (.t 7) (.c (.bool false)), none⟩] (some [7]))
          .ret)
          .skip))))))
  (.seq (.reg [⟨none, .b2 (.store 1) (.t 7) (.c (.bool true)), none⟩] (some [7]))
  .ret)))))) }
noncomputable def a113 : AFn := { ntmps := 11, results := [.tmp 2], body :=
  (.seq (.reg [⟨(some 1), .u2 .box (.t 0), none⟩,
      ⟨(some 2), .mov (.c (.int .i64 0)), none⟩] (some [1]))
  (.seq (.seq (.reg [⟨(some 3), .u1 (.faddr 0) (.t 1), none⟩,
      ⟨(some 4), .u1 (.load none) (.t 3), none⟩,
      ⟨(some 5), .b2 (.eq false (.simple .int)) (.t 4) (.c (.int .i64 3)), none⟩] (some [1, 5]))
  (.cond (.t 5)
    (.seq (.reg [⟨(some 6), .u1 (.faddr 16) (.t 1), none⟩,
        ⟨(some 7), .u1 (.faddr 1) (.t 6), none⟩,
        ⟨(some 8), .u1 (.load none) (.t 7), none⟩,
        ⟨(some 9), .u1 (.len .sl) (.t 8), none⟩,
        ⟨(some 10), .b2 (.bin .add) (.c (.int .i64 1)) (.t 9), none⟩,
        ⟨(some 2), .mov (.t 10), none⟩] (some [2]))
    .ret)
    .skip))
  (.seq (.reg [⟨(some 2), .mov (.c (.int .i64 1)), none⟩] (some [2]))
  .ret))) }
noncomputable def a119 : AFn := { ntmps := 34, results := [.tmp 2], body :=
  (.seq (.reg [⟨(some 2), .mov (.c (.bool false)), none⟩] (some [0]))
  (.seq (.reg [⟨(some 7), .mov (.t 0), none⟩,
      ⟨(some 8), .call (.c (.fn 124 [] [])) [(.t 7)], none⟩,
      ⟨(some 6), .mov (.t 8), none⟩,
      ⟨(some 9), .u1 (.extract 0) (.t 6), none⟩,
      ⟨(some 10), .u1 (.extract 1) (.t 6), none⟩,
      ⟨(some 11), .u1 (.extract 2) (.t 6), none⟩,
      ⟨(some 3), .mov (.t 9), none⟩,
      ⟨(some 4), .mov (.t 10), none⟩,
      ⟨(some 5), .mov (.t 11), none⟩] (some [0, 3, 4]))
  (.seq (.reg [⟨(some 12), .mov (.t 4), none⟩,
      ⟨(some 13), .b2 (.eq false (.simple .int)) (.t 12) (.c (.int .i64 0)), none⟩,
      ⟨(some 14), .mov (.t 13), none⟩,
      ⟨(some 15), .mov (.t 3), (some (14, true))⟩,
      ⟨(some 16), .u1 (.len .sl) (.t 15), (some (14, true))⟩,
      ⟨(some 17), .b2 (.eq false (.simple .int)) (.t 16) (.c (.int .i64 1)), (some (14, true))⟩,
      ⟨(some 18), .o3 (.pick (.t 14) (.t 17) (.c (.bool false))), none⟩,
      ⟨(some 19), .mov (.t 18), none⟩,
      ⟨(some 20), .mov (.t 3), (some (19, true))⟩,
      ⟨(some 21), .b2 (.iaddr 5) (.t 20) (.c (.int .i64 0)), (some (19, true))⟩,
      ⟨(some 22), .u1 (.faddr 0) (.t 21), (some (19, true))⟩,
      ⟨(some 23), .u1 (.load none) (.t 22), (some (19, true))⟩,
      ⟨(some 24), .b2 (.eq false (.simple .int)) (.t 23) (.c (.int .i64 2)), (some (19, true))⟩,
      ⟨(some 25), .o3 (.pick (.t 19) (.t 24) (.c (.bool false))), none⟩,
      ⟨(some 26), .mov (.t 25), none⟩,
      ⟨(some 27), .mov (.t 3), (some (26, true))⟩,
      ⟨(some 28), .b2 (.iaddr 5) (.t 27) (.c (.int .i64 0)), (some (26, true))⟩,
      ⟨(some 29), .u1 (.faddr 1) (.t 28), (some (26, true))⟩,
      ⟨(some 30), .u1 (.load none) (.t 29), (some (26, true))⟩,
      ⟨(some 31), .mov (.t 0), (some (26, true))⟩,
      ⟨(some 32), .b2 (.eq false (.simple .str)) (.t 30) (.t 31), (some (26, true))⟩,
      ⟨(some 33), .o3 (.pick (.t 26) (.t 32) (.c (.bool false))), none⟩,
      ⟨(some 2), .mov (.t 33), none⟩] (some [2]))
  .ret))) }
noncomputable def a120 : AFn := { ntmps := 41, results := [.tmp 4], body :=
  (.seq (.reg [⟨(some 2), .u2 .box (.t 0), none⟩,
      ⟨(some 4), .mov (.c (.bool false)), none⟩] (some [1, 2]))
  (.seq (.seq (.reg [⟨(some 5), .u1 (.faddr 0) (.t 2), none⟩,
      ⟨(some 6), .u1 (.load none) (.t 5), none⟩] (some [1, 2, 6]))
  (.block 0
    (.seq (.seq (.reg [⟨(some 8), .b2 (.eq false (.simple .int)) (.t 6) (.c (.int .i64 8)), none⟩,
        ⟨(some 7), .mov (.t 8), none⟩] (some [1, 2, 6, 7]))
    (.cond (.t 7)
      .skip
      (.reg [⟨(some 9), .b2 (.eq false (.simple .int)) (.t 6) (.c (.int .i64 10)), none⟩,
          ⟨(some 7), .mov (.t 9), none⟩] (some [1, 2, 6, 7]))))
    (.cond (.t 7)
      (.seq (.reg [⟨(some 4), .mov (.c (.bool true)), none⟩] (some [4]))
      .ret)
      (.seq (.reg [⟨(some 11), .b2 (.eq false (.simple .int)) (.t 6) (.c (.int .i64 9)), none⟩,
          ⟨(some 10), .mov (.t 11), none⟩] (some [1, 2, 6, 10]))
      (.cond (.t 10)
        (.seq (.reg [⟨(some 12), .u1 (.faddr 6) (.t 2), none⟩,
            ⟨(some 13), .u1 (.load none) (.t 12), none⟩,
            ⟨(some 14), .u1 (.len .sl) (.t 13), none⟩,
            ⟨(some 15), .b2 (.eq false (.simple .int)) (.t 14) (.c (.int .i64 1)), none⟩,
            ⟨(some 16), .mov (.t 15), none⟩,
            ⟨(some 17), .u1 (.faddr 6) (.t 2), (some (16, true))⟩,
            ⟨(some 18), .u1 (.load none) (.t 17), (some (16, true))⟩,
            ⟨(some 19), .b2 (.iaddr 8) (.t 18) (.c (.int .i64 0)), (some (16, true))⟩,
            ⟨(some 20), .u1 (.load (some 8)) (.t 19), (some (16, true))⟩,
            ⟨(some 21), .mov (.t 1), (some (16, true))⟩,
            ⟨(some 22), .call (.c (.fn 120 [] [])) [(.t 20), (.t 21)], (some (16, true))⟩,
            ⟨(some 23), .o3 (.pick (.t 16) (.t 22) (.c (.bool false))), none⟩,
            ⟨(some 4), .mov (.t 23), none⟩] (some [4]))
        .ret)
        (.seq (.reg [⟨(some 25), .b2 (.eq false (.simple .int)) (.t 6) (.c (.int .i64 11)), none⟩,
            ⟨(some 24), .mov (.t 25), none⟩] (some [1, 2, 24]))
        (.cond (.t 24)
          (.seq (.reg [⟨(some 26), .mov (.t 1), none⟩,
              ⟨(some 27), .u2 (.un .not) (.t 26), none⟩,
              ⟨(some 28), .mov (.t 27), none⟩,
              ⟨(some 29), .u1 (.faddr 6) (.t 2), (some (28, true))⟩,
              ⟨(some 30), .u1 (.load none) (.t 29), (some (28, true))⟩,
              ⟨(some 31), .u1 (.len .sl) (.t 30), (some (28, true))⟩,
              ⟨(some 32), .b2 (.bin .gtr) (.t 31) (.c (.int .i64 0)), (some (28, true))⟩,
              ⟨(some 33), .o3 (.pick (.t 28) (.t 32) (.c (.bool false))), none⟩,
              ⟨(some 34), .mov (.t 33), none⟩,
              ⟨(some 35), .u1 (.faddr 6) (.t 2), (some (34, true))⟩,
              ⟨(some 36), .u1 (.load none) (.t 35), (some (34, true))⟩,
              ⟨(some 37), .b2 (.iaddr 8) (.t 36) (.c (.int .i64 0)), (some (34, true))⟩,
              ⟨(some 38), .u1 (.load (some 8)) (.t 37), (some (34, true))⟩,
              ⟨(some 39), .call (.c (.fn 120 [] [])) [(.t 38), (.c (.bool false))], (some (34, true))⟩,
              ⟨(some 40), .o3 (.pick (.t 34) (.t 39) (.c (.bool false))), none⟩,
              ⟨(some 4), .mov (.t 40), none⟩] (some [4]))
          .ret)
          .skip))))))))
  (.seq (.reg [⟨(some 4), .mov (.c (.bool false)), none⟩] (some [4]))
  .ret))) }
noncomputable def a121 : AFn := { ntmps := 24, results := [.tmp 2], body :=
  (.seq (.reg [⟨(some 1), .u2 .box (.t 0), none⟩,
      ⟨(some 2), .mov (.c (.bool false)), none⟩] (some [1]))
  (.seq (.reg [⟨(some 3), .u1 (.faddr 4) (.t 1), none⟩,
      ⟨(some 4), .u1 (.load none) (.t 3), none⟩,
      ⟨(some 5), .u1 (.len .sl) (.t 4), none⟩,
      ⟨(some 6), .b2 (.eq false (.simple .int)) (.t 5) (.c (.int .i64 0)), none⟩,
      ⟨(some 7), .mov (.t 6), none⟩,
      ⟨(some 8), .u1 (.faddr 3) (.t 1), (some (7, true))⟩,
      ⟨(some 9), .u1 (.load none) (.t 8), (some (7, true))⟩,
      ⟨(some 10), .call (.c (.fn 122 [] [])) [(.t 9)], (some (7, true))⟩,
      ⟨(some 11), .o3 (.pick (.t 7) (.t 10) (.c (.bool false))), none⟩,
      ⟨(some 12), .mov (.t 11), none⟩,
      ⟨(some 13), .u1 (.faddr 3) (.t 1), (some (12, false))⟩,
      ⟨(some 14), .u1 (.load none) (.t 13), (some (12, false))⟩,
      ⟨(some 15), .u1 (.len .sl) (.t 14), (some (12, false))⟩,
      ⟨(some 16), .b2 (.eq false (.simple .int)) (.t 15) (.c (.int .i64 0)), (some (12, false))⟩,
      ⟨(some 17), .mov (.t 16), (some (12, false))⟩,
      ⟨(some 18), .u1 (.faddr 4) (.t 1), (some (17, true))⟩,
      ⟨(some 19), .u1 (.load none) (.t 18), (some (17, true))⟩,
      ⟨(some 20), .u1 (.len .sl) (.t 19), (some (17, true))⟩,
      ⟨(some 21), .b2 (.eq false (.simple .int)) (.t 20) (.c (.int .i64 1)), (some (17, true))⟩,
      ⟨(some 22), .o3 (.pick (.t 17) (.t 21) (.c (.bool false))), (some (12, false))⟩,
      ⟨(some 23), .o3 (.pick (.t 12) (.c (.bool true)) (.t 22)), none⟩,
      ⟨(some 2), .mov (.t 23), none⟩] (some [2]))
  .ret)) }
noncomputable def a122 : AFn := { ntmps := 12, results := [.tmp 2], body :=
  (.seq (.reg [⟨(some 2), .mov (.c (.bool false)), none⟩] (some [0]))
  (.seq (.reg [⟨(some 3), .mov (.t 0), none⟩,
      ⟨(some 4), .u1 (.len .sl) (.t 3), none⟩,
      ⟨(some 5), .b2 (.eq false (.simple .int)) (.t 4) (.c (.int .i64 1)), none⟩,
      ⟨(some 6), .mov (.t 5), none⟩,
      ⟨(some 7), .mov (.t 0), (some (6, true))⟩,
      ⟨(some 8), .b2 (.iaddr 8) (.t 7) (.c (.int .i64 0)), (some (6, true))⟩,
      ⟨(some 9), .u1 (.load (some 8)) (.t 8), (some (6, true))⟩,
      ⟨(some 10), .call (.c (.fn 120 [] [])) [(.t 9), (.c (.bool true))], (some (6, true))⟩,
      ⟨(some 11), .o3 (.pick (.t 6) (.t 10) (.c (.bool false))), none⟩,
      ⟨(some 2), .mov (.t 11), none⟩] (some [2]))
  .ret)) }
noncomputable def a124 : AFn := { ntmps := 20, results := [.cell 2 none, .cell 3 none, .cell 4 none], body :=
  (.seq (.reg [⟨(some 2), .o3 (.alloc [.nilsl]), none⟩,
      ⟨(some 3), .o3 (.alloc [(.int .i64 0)]), none⟩,
      ⟨(some 4), .o3 (.alloc [(.int .i64 0)]), none⟩] (some [0, 2, 3, 4, 9]))
  (.seq (.reg [⟨(some 6), .o3 (.mkFn 125 [] [(.t 3), (.t 2)]), none⟩,
      ⟨none, .o3 (.defer (.t 6) []), none⟩] (some [0, 2, 3, 4, 9]))
  (.seq (.reg [⟨none, .o3 (.defer (.c (.fn 126 [] [])) [(.t 3), (.t 4)]), none⟩] (some [0, 2, 3, 4, 9]))
  (.seq (.seq (.reg [⟨(some 7), .mov (.t 0), none⟩,
      ⟨(some 8), .call (.c (.fn 127 [] [])) [(.t 7)], none⟩] (some [2, 3, 4, 8, 9]))
  (.block 0
    (.rf (.t 8) [9]
      (.reg [⟨(some 5), .o3 (.alloc [(.int .i64 0), (.str []), (.int .i64 0), (.int .i64 0), (.int .i64 0), (.int .i64 0), (.bool false)]), none⟩,
          ⟨none, .b2 (.store 7) (.t 5) (.t 9), none⟩] (some [2, 3, 4, 5]))
      (.block 1
        (.seq (.reg [⟨(some 10), .u1 (.faddr 0) (.t 5), none⟩,
            ⟨(some 11), .u1 (.faddr 0) (.t 10), none⟩,
            ⟨(some 12), .u1 (.load none) (.t 11), none⟩,
            ⟨(some 13), .b2 (.eq true (.simple .int)) (.t 12) (.c (.int .i64 0)), none⟩] (some [2, 3, 4, 5, 13]))
        (.cond (.t 13)
          (.reg [⟨(some 14), .u1 (.load none) (.t 2), none⟩,
              ⟨(some 15), .u1 (.faddr 0) (.t 5), none⟩,
              ⟨(some 16), .u1 (.load (some 5)) (.t 15), none⟩,
              ⟨(some 17), .o3 (.bslice 5 [(.t 16)]), none⟩,
              ⟨(some 18), .b2 (.append 5) (.t 14) (.t 17), none⟩,
              ⟨none, .b2 (.store 1) (.t 2) (.t 18), none⟩] (some [2, 3, 4]))
          .skip))))))
  (.seq (.reg [⟨(some 19), .u1 (.load none) (.t 2), none⟩,
      ⟨none, .b2 (.store 1) (.t 2) (.t 19), none⟩,
      ⟨none, .b2 (.store 1) (.t 3) (.c (.int .i64 0)), none⟩,
      ⟨none, .b2 (.store 1) (.t 4) (.c (.int .i64 0)), none⟩] (some [2, 3, 4]))
  .ret))))) }
noncomputable def a125 : AFn := { ntmps := 4, results := [], body :=
  (.seq (.reg [⟨(some 2), .u1 (.load none) (.t 0), none⟩,
      ⟨(some 3), .b2 (.eq true (.simple .int)) (.t 2) (.c (.int .i64 0)), none⟩] (some [1, 3]))
  (.cond (.t 3)
    (.reg [⟨none, .b2 (.store 1) (.t 1) (.c .nilsl), none⟩] (some []))
    .skip)) }
noncomputable def a126 : AFn := { ntmps := 21, results := [], body :=
  (.seq (.reg [⟨(some 7), .o3 .recover, none⟩] (some [0, 1, 7]))
  (.block 0
    (.seq (.reg [⟨(some 9), .b2 (.eq false (.simple .iface)) (.t 7) (.c .nilif), none⟩] (some [0, 1, 7, 9]))
    (.cond (.t 9)
      (.reg [⟨(some 4), .mov (.t 7), none⟩] (some []))
      (.seq (.reg [⟨(some 10), .u2 (.tassert 210 (.agg [(.int .i64 0), (.int .i64 0)])) (.t 7), none⟩,
          ⟨(some 11), .u1 (.extract 1) (.t 10), none⟩,
          ⟨(some 12), .u1 (.extract 0) (.t 10), none⟩] (some [0, 1, 7, 11, 12]))
      (.cond (.t 11)
        (.seq (.reg [⟨(some 5), .o3 (.alloc [(.int .i64 0), (.int .i64 0)]), none⟩,
            ⟨none, .b2 (.store 2) (.t 5) (.t 12), none⟩] (some [0, 1, 5]))
        (.dreg [⟨⟨(some 13), .mov (.t 0), none⟩, .soft⟩,
            ⟨⟨(some 14), .mov (.t 1), none⟩, .soft⟩,
            ⟨⟨(some 15), .u1 (.faddr 0) (.t 5), none⟩, .soft⟩,
            ⟨⟨(some 16), .u1 (.load none) (.t 15), none⟩, .look [0]⟩,
            ⟨⟨(some 17), .u1 (.faddr 1) (.t 5), none⟩, .soft⟩,
            ⟨⟨(some 18), .u1 (.load none) (.t 17), none⟩, .look [0, 1]⟩,
            ⟨⟨(some 19), .u1 .nilchk (.t 13), none⟩, .soft⟩,
            ⟨⟨none, .b2 (.store 1) (.t 19) (.t 16), none⟩, .hard true⟩,
            ⟨⟨(some 20), .u1 .nilchk (.t 14), none⟩, .soft⟩,
            ⟨⟨none, .b2 (.store 1) (.t 20) (.t 18), none⟩, .hard true⟩] (some [])))
        (.seq (.reg [⟨(some 6), .mov (.t 7), none⟩] (some [6]))
        (.reg [⟨(some 8), .mov (.t 6), none⟩,
            ⟨none, .u2 .panic (.t 8), none⟩] (some []))))))))) }
noncomputable def a127 : AFn := { ntmps := 10, results := [.tmp 2], body :=
  (.seq (.reg [⟨(some 2), .mov (.c .nilfn), none⟩] (some [0]))
  (.seq (.seq (.reg [⟨(some 3), .mov (.t 0), none⟩,
      ⟨(some 4), .u1 (.len .str) (.t 3), none⟩,
      ⟨(some 5), .b2 (.bin .gtr) (.t 4) (.c (.int .i64 1048576)), none⟩] (some [0, 5]))
  (.cond (.t 5)
    (.reg [⟨(some 6), .o3 (.build [(.int .i64 0), (.int .i64 0)] [(0, 1, (.c (.int .i64 2))), (1, 1, (.c (.int .i64 0)))]), none⟩,
        ⟨(some 7), .u2 (.mkIf 210) (.t 6), none⟩,
        ⟨none, .u2 .panic (.t 7), none⟩] (some [0]))
    .skip))
  (.seq (.reg [⟨(some 8), .mov (.t 0), none⟩,
      ⟨(some 9), .call (.c (.fn 128 [] [])) [(.t 8), (.c (.int .i64 0)), (.c (.bool false))], none⟩,
      ⟨(some 2), .mov (.t 9), none⟩] (some [2]))
  .ret))) }
noncomputable def a128 : AFn := { ntmps := 8, results := [.tmp 6], body :=
  (.seq (.reg [⟨(some 3), .u2 .box (.t 0), none⟩,
      ⟨(some 4), .u2 .box (.t 1), none⟩,
      ⟨(some 5), .u2 .box (.t 2), none⟩,
      ⟨(some 6), .mov (.c .nilfn), none⟩] (some [3, 4, 5]))
  (.seq (.reg [⟨(some 7), .o3 (.mkFn 129 [] [(.t 3), (.t 5), (.t 4)]), none⟩,
      ⟨(some 6), .mov (.t 7), none⟩] (some [6]))
  .ret)) }
noncomputable def a129 : AFn := { ntmps := 93, results := [], body :=
  (.scope (.seq (.reg [⟨(some 10), .call (.c (.fn 130 [] [])) [], none⟩,
      ⟨(some 5), .mov (.t 10), none⟩] (some [0, 1, 2, 3, 5]))
  (.seq (.reg [⟨(some 6), .mov (.c (.int .i64 0)), none⟩] (some [0, 1, 2, 3, 5, 6]))
  (.seq .skip
  (.block 0
    (.loop
      (.seq (.seq (.reg [⟨(some 11), .mov (.t 6), none⟩,
          ⟨(some 12), .u1 (.load none) (.t 1), none⟩,
          ⟨(some 13), .u1 (.len .str) (.t 12), none⟩,
          ⟨(some 14), .b2 (.bin .lss) (.t 11) (.t 13), none⟩] (some [0, 1, 2, 3, 5, 6, 14]))
      (.cond (.t 14)
        .skip
        (.exit 0)))
      (.block 1
        (.seq (.reg [⟨(some 15), .u1 (.load none) (.t 1), none⟩,
            ⟨(some 16), .mov (.t 6), none⟩,
            ⟨(some 17), .o3 (.slc true 1 (.t 15) (some (.t 16)) none none), none⟩,
            ⟨(some 18), .call (.c (.fn 131 [] [])) [(.t 17)], none⟩,
            ⟨(some 7), .mov (.t 18), none⟩] (some [0, 1, 2, 3, 5, 6, 7]))
        (.seq (.seq (.reg [⟨(some 19), .mov (.t 7), none⟩,
            ⟨(some 20), .b2 (.eq false (.simple .int)) (.t 19) (.c (.int .i64 6)), none⟩] (some [0, 1, 2, 3, 5, 6, 7, 20]))
        (.cond (.t 20)
          (.seq (.reg [⟨(some 21), .mov (.t 6), none⟩,
              ⟨(some 22), .b2 (.bin .add) (.t 21) (.c (.int .i64 1)), none⟩,
              ⟨(some 6), .mov (.t 22), none⟩] (some [0, 1, 2, 3, 5, 6]))
          (.exit 1))
          .skip))
        (.seq (.dreg [⟨⟨(some 23), .mov (.t 5), none⟩, .soft⟩,
            ⟨⟨(some 24), .mov (.t 7), none⟩, .soft⟩,
            ⟨⟨(some 25), .b2 (.lookup (.simple .int) .nilfn false) (.t 23) (.t 24), none⟩, .look [0]⟩,
            ⟨⟨(some 26), .u1 (.load none) (.t 1), none⟩, .look [0]⟩,
            ⟨⟨(some 27), .mov (.t 6), none⟩, .soft⟩,
            ⟨⟨(some 28), .o3 (.slc true 1 (.t 26) (some (.t 27)) none none), none⟩, .soft⟩,
            ⟨⟨(some 29), .call (.t 25) [(.t 28)], none⟩, .hard false⟩,
            ⟨⟨(some 8), .o3 (.alloc [(.int .i64 0), (.str []), (.int .i64 0), (.int .i64 0), (.int .i64 0), (.int .i64 0), (.bool false)]), none⟩, .pre [(.int .i64 0), (.str []), (.int .i64 0), (.int .i64 0), (.int .i64 0), (.int .i64 0), (.bool false)] [0, 1]⟩,
            ⟨⟨none, .b2 (.store 7) (.t 8) (.t 29), none⟩, .hard true⟩] (some [0, 1, 2, 3, 5, 6, 7, 8]))
        (.seq (.reg [⟨(some 30), .mov (.t 6), none⟩,
            ⟨(some 31), .mov (.t 6), none⟩,
            ⟨(some 32), .u1 (.faddr 0) (.t 8), none⟩,
            ⟨(some 33), .u1 (.faddr 4) (.t 32), none⟩,
            ⟨(some 34), .u1 (.load none) (.t 33), none⟩,
            ⟨(some 35), .b2 (.bin .add) (.t 31) (.t 34), none⟩,
            ⟨(some 36), .u1 (.faddr 0) (.t 8), none⟩,
            ⟨(some 37), .u1 (.faddr 3) (.t 36), none⟩,
            ⟨none, .b2 (.store 1) (.t 37) (.t 30), none⟩,
            ⟨(some 38), .u1 (.faddr 0) (.t 8), none⟩,
            ⟨(some 39), .u1 (.faddr 4) (.t 38), none⟩,
            ⟨none, .b2 (.store 1) (.t 39) (.t 35), none⟩] (some [0, 1, 2, 3, 5, 6, 7, 8]))
        (.seq (.reg [⟨(some 40), .mov (.t 7), none⟩,
            ⟨(some 41), .b2 (.eq false (.simple .int)) (.t 40) (.c (.int .i64 5)), none⟩,
            ⟨(some 42), .mov (.t 41), none⟩,
            ⟨(some 43), .u1 (.load none) (.t 2), (some (42, false))⟩,
            ⟨(some 44), .mov (.t 43), (some (42, false))⟩,
            ⟨(some 45), .u1 (.load none) (.t 1), (some (44, true))⟩,
            ⟨(some 46), .mov (.t 6), (some (44, true))⟩,
            ⟨(some 47), .o3 (.slc true 1 (.t 45) (some (.t 46)) none none), (some (44, true))⟩,
            ⟨(some 48), .b2 (.eq false (.simple .str)) (.t 47) (.c (.str [40])), (some (44, true))⟩,
            ⟨(some 49), .o3 (.pick (.t 44) (.t 48) (.c (.bool false))), (some (42, false))⟩,
            ⟨(some 50), .o3 (.pick (.t 42) (.c (.bool true)) (.t 49)), none⟩,
            ⟨(some 9), .mov (.t 50), none⟩] (some [0, 1, 2, 3, 5, 6, 8, 9]))
        (.seq (.block 2
          (.seq (.reg [⟨(some 52), .mov (.t 9), none⟩,
              ⟨(some 53), .u2 (.un .not) (.t 52), none⟩,
              ⟨(some 54), .mov (.t 53), none⟩,
              ⟨(some 55), .u1 (.load none) (.t 3), (some (54, true))⟩,
              ⟨(some 56), .b2 (.bin .geq) (.t 55) (.c (.int .i64 131072)), (some (54, true))⟩,
              ⟨(some 57), .o3 (.pick (.t 54) (.t 56) (.c (.bool false))), none⟩,
              ⟨(some 51), .mov (.t 57), none⟩] (some [0, 1, 2, 3, 5, 6, 8, 51]))
          (.cond (.t 51)
            (.reg [⟨(some 58), .mov (.t 6), none⟩,
                ⟨(some 59), .o3 (.build [(.int .i64 0), (.int .i64 0)] [(0, 1, (.c (.int .i64 2))), (1, 1, (.t 58))]), none⟩,
                ⟨(some 60), .u2 (.mkIf 210) (.t 59), none⟩,
                ⟨none, .u2 .panic (.t 60), none⟩] (some [0, 1, 2, 3, 5, 8]))
            (.seq (.reg [⟨(some 62), .u1 (.load none) (.t 2), none⟩,
                ⟨(some 63), .mov (.t 62), none⟩,
                ⟨(some 64), .u1 (.faddr 6) (.t 8), (some (63, true))⟩,
                ⟨(some 65), .u1 (.load none) (.t 64), (some (63, true))⟩,
                ⟨(some 66), .u2 (.un .not) (.t 65), (some (63, true))⟩,
                ⟨(some 67), .o3 (.pick (.t 63) (.t 66) (.c (.bool false))), none⟩,
                ⟨(some 61), .mov (.t 67), none⟩] (some [0, 1, 2, 3, 5, 6, 8, 61]))
            (.cond (.t 61)
              (.seq (.reg [⟨(some 68), .mov (.t 0), none⟩,
                  ⟨(some 69), .u1 (.load (some 7)) (.t 8), none⟩,
                  ⟨(some 70), .call (.t 68) [(.t 69)], none⟩] (some []))
              .ret)
              (.seq (.reg [⟨(some 72), .u1 (.faddr 5) (.t 8), none⟩,
                  ⟨(some 73), .u1 (.load none) (.t 72), none⟩,
                  ⟨(some 74), .b2 (.eq true (.simple .int)) (.t 73) (.c (.int .i64 0)), none⟩,
                  ⟨(some 71), .mov (.t 74), none⟩] (some [0, 1, 2, 3, 5, 6, 8, 71]))
              (.cond (.t 71)
                (.reg [⟨(some 75), .u1 (.faddr 5) (.t 8), none⟩,
                    ⟨(some 76), .u1 (.load none) (.t 75), none⟩,
                    ⟨(some 77), .mov (.t 6), none⟩,
                    ⟨(some 78), .o3 (.build [(.int .i64 0), (.int .i64 0)] [(0, 1, (.t 76)), (1, 1, (.t 77))]), none⟩,
                    ⟨(some 79), .u2 (.mkIf 210) (.t 78), none⟩,
                    ⟨none, .u2 .panic (.t 79), none⟩] (some [0, 1, 2, 3, 5, 8]))
                .skip)))))))
        (.seq (.seq (.reg [⟨(some 80), .u1 (.faddr 0) (.t 8), none⟩,
            ⟨(some 81), .u1 (.faddr 0) (.t 80), none⟩,
            ⟨(some 82), .u1 (.load none) (.t 81), none⟩,
            ⟨(some 83), .b2 (.eq true (.simple .int)) (.t 82) (.c (.int .i64 0)), none⟩] (some [0, 1, 2, 3, 5, 8, 83]))
        (.cond (.t 83)
          (.reg [⟨(some 84), .u1 (.load none) (.t 3), none⟩,
              ⟨(some 85), .b2 (.bin .add) (.t 84) (.c (.int .i64 1)), none⟩,
              ⟨none, .b2 (.store 1) (.t 3) (.t 85), none⟩] (some [0, 1, 2, 3, 5, 8]))
          .skip))
        (.seq (.seq (.reg [⟨(some 86), .mov (.t 0), none⟩,
            ⟨(some 87), .u1 (.load (some 7)) (.t 8), none⟩,
            ⟨(some 88), .call (.t 86) [(.t 87)], none⟩,
            ⟨(some 89), .u2 (.un .not) (.t 88), none⟩] (some [0, 1, 2, 3, 5, 8, 89]))
        (.cond (.t 89)
          .ret
          .skip))
        (.reg [⟨(some 90), .u1 (.faddr 0) (.t 8), none⟩,
            ⟨(some 91), .u1 (.faddr 4) (.t 90), none⟩,
            ⟨(some 92), .u1 (.load none) (.t 91), none⟩,
            ⟨(some 6), .mov (.t 92), none⟩] (some [0, 1, 2, 3, 5, 6])))))))))))))))))) }
noncomputable def a130 : AFn := { ntmps := 11, results := [.tmp 0], body :=
  (.seq (.reg [⟨(some 0), .mov (.c .nilmap), none⟩] (some []))
  (.seq (.reg [⟨(some 4), .call (.c (.fn 132 [] [])) [], none⟩,
      ⟨(some 5), .call (.c (.fn 133 [] [])) [], none⟩,
      ⟨(some 1), .o3 (.alloc [.nilsl]), none⟩,
      ⟨(some 2), .o3 (.alloc [.nilsl]), none⟩,
      ⟨none, .b2 (.store 1) (.t 1) (.t 4), none⟩,
      ⟨none, .b2 (.store 1) (.t 2) (.t 5), none⟩] (some [1, 2]))
  (.seq (.reg [⟨(some 6), .o3 (.mkFn 134 [] [(.t 2)]), none⟩,
      ⟨(some 3), .o3 (.alloc [.nilfn]), none⟩,
      ⟨none, .b2 (.store 1) (.t 3) (.t 6), none⟩] (some [1, 2, 3]))
  (.seq (.reg [⟨(some 7), .o3 .mkMap, none⟩,
      ⟨(some 8), .o3 (.mkFn 138 [] [(.t 1)]), none⟩,
      ⟨none, .o3 (.mapUpd (.simple .int) (.t 7) (.c (.int .i64 1)) (.t 8)), none⟩,
      ⟨none, .o3 (.mapUpd (.simple .int) (.t 7) (.c (.int .i64 2)) (.c (.fn 146 [] []))), none⟩,
      ⟨none, .o3 (.mapUpd (.simple .int) (.t 7) (.c (.int .i64 3)) (.c (.fn 147 [] []))), none⟩,
      ⟨none, .o3 (.mapUpd (.simple .int) (.t 7) (.c (.int .i64 4)) (.c (.fn 149 [] []))), none⟩,
      ⟨none, .o3 (.mapUpd (.simple .int) (.t 7) (.c (.int .i64 5)) (.c (.fn 151 [] []))), none⟩,
      ⟨(some 9), .o3 (.mkFn 153 [] [(.t 2), (.t 3)]), none⟩,
      ⟨none, .o3 (.mapUpd (.simple .int) (.t 7) (.c (.int .i64 0)) (.t 9)), none⟩,
      ⟨(some 10), .mov (.t 7), none⟩,
      ⟨(some 0), .mov (.t 10), none⟩] (some [0]))
  .ret)))) }
noncomputable def a131 : AFn := { ntmps := 37, results := [.tmp 2], body :=
  (.seq (.reg [⟨(some 2), .mov (.c (.int .i64 0)), none⟩] (some [0]))
  (.seq (.seq (.reg [⟨(some 4), .mov (.t 0), none⟩,
      ⟨(some 5), .b2 .idxStr (.t 4) (.c (.int .i64 0)), none⟩,
      ⟨(some 3), .mov (.t 5), none⟩] (some [0, 3]))
  (.block 0
    (.seq (.reg [⟨(some 7), .mov (.t 3), none⟩,
        ⟨(some 8), .b2 (.eq false (.simple .int)) (.t 7) (.c (.int .u8 40)), none⟩,
        ⟨(some 9), .mov (.t 8), none⟩,
        ⟨(some 10), .mov (.t 0), (some (9, true))⟩,
        ⟨(some 11), .call (.c (.fn 137 [] [])) [(.t 10), (.c (.str [40, 42]))], (some (9, true))⟩,
        ⟨(some 12), .o3 (.pick (.t 9) (.t 11) (.c (.bool false))), none⟩,
        ⟨(some 6), .mov (.t 12), none⟩] (some [0, 3, 6]))
    (.cond (.t 6)
      (.seq (.reg [⟨(some 2), .mov (.c (.int .i64 5)), none⟩] (some [2]))
      .ret)
      (.seq (.reg [⟨(some 14), .mov (.t 3), none⟩,
          ⟨(some 15), .b2 (.eq false (.simple .int)) (.t 14) (.c (.int .u8 39)), none⟩,
          ⟨(some 13), .mov (.t 15), none⟩] (some [0, 3, 13]))
      (.cond (.t 13)
        (.seq (.reg [⟨(some 2), .mov (.c (.int .i64 3)), none⟩] (some [2]))
        .ret)
        (.seq (.reg [⟨(some 17), .mov (.t 3), none⟩,
            ⟨(some 18), .b2 (.eq false (.simple .int)) (.t 17) (.c (.int .u8 34)), none⟩,
            ⟨(some 16), .mov (.t 18), none⟩] (some [0, 3, 16]))
        (.cond (.t 16)
          (.seq (.reg [⟨(some 2), .mov (.c (.int .i64 4)), none⟩] (some [2]))
          .ret)
          (.seq (.reg [⟨(some 20), .mov (.t 3), none⟩,
              ⟨(some 21), .b2 (.bin .geq) (.t 20) (.c (.int .u8 48)), none⟩,
              ⟨(some 22), .mov (.t 21), none⟩,
              ⟨(some 23), .mov (.t 3), (some (22, true))⟩,
              ⟨(some 24), .b2 (.bin .leq) (.t 23) (.c (.int .u8 57)), (some (22, true))⟩,
              ⟨(some 25), .o3 (.pick (.t 22) (.t 24) (.c (.bool false))), none⟩,
              ⟨(some 19), .mov (.t 25), none⟩] (some [0, 3, 19]))
          (.cond (.t 19)
            (.seq (.reg [⟨(some 2), .mov (.c (.int .i64 2)), none⟩] (some [2]))
            .ret)
            (.seq (.reg [⟨(some 27), .mov (.t 3), none⟩,
                ⟨(some 28), .call (.c (.fn 141 [] [])) [(.t 27)], none⟩,
                ⟨(some 26), .mov (.t 28), none⟩] (some [0, 26]))
            (.cond (.t 26)
              (.seq (.reg [⟨(some 2), .mov (.c (.int .i64 1)), none⟩] (some [2]))
              .ret)
              .skip))))))))))))
  (.seq (.seq (.reg [⟨(some 29), .mov (.t 0), none⟩,
      ⟨(some 30), .b2 .idxStr (.t 29) (.c (.int .i64 0)), none⟩] (some [30]))
  (.block 1
    (.seq (.block 3
      (.block 2
        (.seq (.seq (.seq (.seq (.reg [⟨(some 32), .b2 (.eq false (.simple .int)) (.t 30) (.c (.int .u8 9)), none⟩,
            ⟨(some 31), .mov (.t 32), none⟩] (some [30, 31]))
        (.cond (.t 31)
          .skip
          (.seq (.reg [⟨(some 33), .b2 (.eq false (.simple .int)) (.t 30) (.c (.int .u8 10)), none⟩,
              ⟨(some 31), .mov (.t 33), none⟩] (some [30, 31]))
          (.cond (.t 31)
            .skip
            (.reg [⟨(some 34), .b2 (.eq false (.simple .int)) (.t 30) (.c (.int .u8 13)), none⟩,
                ⟨(some 31), .mov (.t 34), none⟩] (some [30, 31]))))))
        (.cond (.t 31)
          (.exit 2)
          .skip))
        (.seq (.reg [⟨(some 36), .b2 (.eq false (.simple .int)) (.t 30) (.c (.int .u8 32)), none⟩,
            ⟨(some 35), .mov (.t 36), none⟩] (some [35]))
        (.cond (.t 35)
          (.exit 3)
          .skip)))
        (.exit 1))))
    (.seq (.seq (.reg [⟨(some 2), .mov (.c (.int .i64 6)), none⟩] (some [2]))
    .ret)
    (.exit 1)))))
  (.seq (.reg [⟨(some 2), .mov (.c (.int .i64 0)), none⟩] (some [2]))
  .ret)))) }
noncomputable def a132 : AFn := { ntmps := 2, results := [.tmp 0], body :=
  (.seq (.reg [⟨(some 0), .mov (.c .nilsl), none⟩] (some []))
  (.seq (.reg [⟨(some 1), .call (.c (.fn 154 [] [])) [(.c (.str [101, 110, 116, 101, 114, 32, 100, 111, 32, 101, 120, 105, 116, 32, 105, 110, 110, 101, 114, 32, 108, 101, 97, 118, 101, 32, 114, 101, 115, 116, 97, 114, 116, 32, 115, 117, 115, 112, 101, 110, 100, 32, 105, 102, 32, 116, 104, 101, 110, 32, 101, 108, 115, 101, 32, 102, 111, 114, 32, 114, 101, 112, 101, 97, 116, 32, 116, 104, 105, 115, 32, 110, 111, 110, 101, 32, 116, 114, 117, 101, 32, 102, 97, 108, 115, 101, 32, 110, 111, 116, 32, 97, 110, 100, 32, 111, 114, 32, 100, 105, 118, 32, 109, 111, 100, 32, 114, 97, 110, 103, 101, 32, 102, 111, 114, 107, 32, 112, 97, 117, 115, 101, 32, 119, 97, 105, 116, 32, 115, 105, 103, 110, 97, 108, 32, 115, 108, 111, 116, 32, 97, 116, 116, 114, 105, 98, 117, 116, 101, 115, 32, 100, 111, 112, 97, 114, 116, 32, 100, 101, 115, 99, 114, 105, 112, 116, 111, 114, 32, 111, 114, 105, 103, 105, 110, 32, 105, 110, 99, 108, 117, 100, 101, 32, 98, 111, 100, 121]))], none⟩,
      ⟨(some 0), .mov (.t 1), none⟩] (some [0]))
  .ret)) }
noncomputable def a133 : AFn := { ntmps := 2, results := [.tmp 0], body :=
  (.seq (.reg [⟨(some 0), .mov (.c .nilsl), none⟩] (some []))
  (.seq (.reg [⟨(some 1), .call (.c (.fn 154 [] [])) [(.c (.str [40, 35, 32, 35, 41, 32, 40, 32, 41, 32, 91, 32, 93, 32, 91, 93, 32, 58, 32, 58, 60, 32, 58, 58, 60, 32, 58, 58, 32, 64, 32, 64, 124, 32, 94, 32, 94, 124, 32, 35, 35, 32, 44, 32, 59, 32, 46, 32, 45, 62, 32, 47, 47, 32, 38, 32, 43, 32, 45, 32, 42, 32, 47, 32, 124, 124, 32, 61, 32, 60, 62, 32, 60, 32, 60, 61, 32, 62, 32, 62, 61, 32, 60, 60, 32, 62, 62]))], none⟩,
      ⟨(some 0), .mov (.t 1), none⟩] (some [0]))
  .ret)) }
noncomputable def a138 : AFn := { ntmps := 31, results := [.cell 3 (some 7)], body :=
  (.seq (.reg [⟨(some 3), .o3 (.alloc [(.int .i64 0), (.str []), (.int .i64 0), (.int .i64 0), (.int .i64 0), (.int .i64 0), (.bool false)]), none⟩] (some [0, 1, 3]))
  (.seq (.reg [⟨(some 5), .mov (.t 0), none⟩,
      ⟨(some 6), .call (.c (.fn 139 [] [])) [(.t 5), (.c (.fn 140 [] []))], none⟩,
      ⟨(some 4), .mov (.t 6), none⟩] (some [0, 1, 3, 4]))
  (.seq (.block 0
    (.seq (.dreg [⟨⟨(some 8), .u1 (.load none) (.t 1), none⟩, .look [0]⟩,
        ⟨⟨(some 9), .mov (.t 0), none⟩, .soft⟩,
        ⟨⟨(some 10), .mov (.t 4), none⟩, .soft⟩,
        ⟨⟨(some 11), .o3 (.slc true 1 (.t 9) none (some (.t 10)) none), none⟩, .soft⟩,
        ⟨⟨(some 12), .call (.c (.fn 143 [] [])) [(.t 8), (.t 11)], none⟩, .hard true⟩,
        ⟨⟨(some 7), .mov (.t 12), none⟩, .soft⟩] (some [0, 3, 4, 7]))
    (.cond (.t 7)
      (.seq (.reg [⟨(some 13), .mov (.t 0), none⟩,
          ⟨(some 14), .mov (.t 4), none⟩,
          ⟨(some 15), .mov (.t 4), none⟩,
          ⟨(some 16), .mov (.t 0), none⟩,
          ⟨(some 17), .u1 (.len .str) (.t 16), none⟩,
          ⟨(some 18), .b2 (.bin .lss) (.t 15) (.t 17), none⟩,
          ⟨(some 19), .call (.c (.fn 144 [] [])) [(.c (.int .i64 1)), (.t 13), (.t 14), (.t 18)], none⟩,
          ⟨none, .b2 (.store 7) (.t 3) (.t 19), none⟩] (some [3]))
      .ret)
      (.seq (.reg [⟨(some 21), .mov (.t 4), none⟩,
          ⟨(some 22), .b2 (.bin .gtr) (.t 21) (.c (.int .i64 16)), none⟩,
          ⟨(some 20), .mov (.t 22), none⟩] (some [0, 3, 4, 20]))
      (.cond (.t 20)
        (.seq (.reg [⟨(some 23), .call (.c (.fn 145 [] [])) [(.c (.int .i64 2)), (.c (.bool true))], none⟩,
            ⟨none, .b2 (.store 7) (.t 3) (.t 23), none⟩] (some [3]))
        .ret)
        .skip)))))
  (.seq (.reg [⟨(some 24), .mov (.t 0), none⟩,
      ⟨(some 25), .mov (.t 4), none⟩,
      ⟨(some 26), .mov (.t 4), none⟩,
      ⟨(some 27), .mov (.t 0), none⟩,
      ⟨(some 28), .u1 (.len .str) (.t 27), none⟩,
      ⟨(some 29), .b2 (.bin .lss) (.t 26) (.t 28), none⟩,
      ⟨(some 30), .call (.c (.fn 144 [] [])) [(.c (.int .i64 2)), (.t 24), (.t 25), (.t 29)], none⟩,
      ⟨none, .b2 (.store 7) (.t 3) (.t 30), none⟩] (some [3]))
  .ret)))) }
noncomputable def a139 : AFn := { ntmps := 20, results := [.tmp 4], body :=
  (.seq (.reg [⟨(some 4), .mov (.c (.int .i64 0)), none⟩] (some [0, 1]))
  (.seq (.reg [⟨(some 5), .mov (.c (.int .i64 0)), none⟩] (some [0, 1, 5]))
  (.seq (.block 0
    (.loop
      (.seq (.seq (.reg [⟨(some 6), .mov (.t 5), none⟩,
          ⟨(some 7), .mov (.t 0), none⟩,
          ⟨(some 8), .u1 (.len .str) (.t 7), none⟩,
          ⟨(some 9), .b2 (.bin .lss) (.t 6) (.t 8), none⟩,
          ⟨(some 10), .mov (.t 9), none⟩,
          ⟨(some 11), .mov (.t 1), (some (10, true))⟩,
          ⟨(some 12), .mov (.t 0), (some (10, true))⟩,
          ⟨(some 13), .mov (.t 5), (some (10, true))⟩,
          ⟨(some 14), .b2 .idxStr (.t 12) (.t 13), (some (10, true))⟩,
          ⟨(some 15), .call (.t 11) [(.t 14)], (some (10, true))⟩,
          ⟨(some 16), .o3 (.pick (.t 10) (.t 15) (.c (.bool false))), none⟩] (some [0, 1, 5, 16]))
      (.cond (.t 16)
        .skip
        (.exit 0)))
      (.block 1
        (.reg [⟨(some 17), .mov (.t 5), none⟩,
            ⟨(some 18), .b2 (.bin .add) (.t 17) (.c (.int .i64 1)), none⟩,
            ⟨(some 5), .mov (.t 18), none⟩] (some [0, 1, 5]))))))
  (.seq (.reg [⟨(some 19), .mov (.t 5), none⟩,
      ⟨(some 4), .mov (.t 19), none⟩] (some [4]))
  .ret)))) }
noncomputable def a140 : AFn := { ntmps := 9, results := [.tmp 2], body :=
  (.seq (.reg [⟨(some 2), .mov (.c (.bool false)), none⟩] (some [0]))
  (.seq (.reg [⟨(some 3), .mov (.t 0), none⟩,
      ⟨(some 4), .call (.c (.fn 141 [] [])) [(.t 3)], none⟩,
      ⟨(some 5), .mov (.t 4), none⟩,
      ⟨(some 6), .mov (.t 0), (some (5, false))⟩,
      ⟨(some 7), .call (.c (.fn 142 [] [])) [(.t 6)], (some (5, false))⟩,
      ⟨(some 8), .o3 (.pick (.t 5) (.c (.bool true)) (.t 7)), none⟩,
      ⟨(some 2), .mov (.t 8), none⟩] (some [2]))
  .ret)) }
noncomputable def a141 : AFn := { ntmps := 17, results := [.tmp 2], body :=
  (.seq (.reg [⟨(some 2), .mov (.c (.bool false)), none⟩] (some [0]))
  (.seq (.reg [⟨(some 3), .mov (.t 0), none⟩,
      ⟨(some 4), .b2 (.bin .geq) (.t 3) (.c (.int .u8 97)), none⟩,
      ⟨(some 5), .mov (.t 4), none⟩,
      ⟨(some 6), .mov (.t 0), (some (5, true))⟩,
      ⟨(some 7), .b2 (.bin .leq) (.t 6) (.c (.int .u8 122)), (some (5, true))⟩,
      ⟨(some 8), .o3 (.pick (.t 5) (.t 7) (.c (.bool false))), none⟩,
      ⟨(some 9), .mov (.t 8), none⟩,
      ⟨(some 10), .mov (.t 0), (some (9, false))⟩,
      ⟨(some 11), .b2 (.bin .geq) (.t 10) (.c (.int .u8 65)), (some (9, false))⟩,
      ⟨(some 12), .mov (.t 11), (some (9, false))⟩,
      ⟨(some 13), .mov (.t 0), (some (12, true))⟩,
      ⟨(some 14), .b2 (.bin .leq) (.t 13) (.c (.int .u8 90)), (some (12, true))⟩,
      ⟨(some 15), .o3 (.pick (.t 12) (.t 14) (.c (.bool false))), (some (9, false))⟩,
      ⟨(some 16), .o3 (.pick (.t 9) (.c (.bool true)) (.t 15)), none⟩,
      ⟨(some 2), .mov (.t 16), none⟩] (some [2]))
  .ret)) }
noncomputable def a143 : AFn := { ntmps := 9, results := [.tmp 4], body :=
  (.seq (.reg [⟨(some 4), .mov (.c (.bool false)), none⟩] (some [0, 1]))
  (.seq (.reg [⟨(some 5), .mov (.t 0), none⟩,
      ⟨(some 6), .mov (.t 1), none⟩,
      ⟨(some 7), .call (.c (.fn 49 [] [])) [(.t 5), (.t 6)], none⟩,
      ⟨(some 8), .b2 (.bin .geq) (.t 7) (.c (.int .i64 0)), none⟩,
      ⟨(some 4), .mov (.t 8), none⟩] (some [4]))
  .ret)) }
end Go.Proofs.YtobfakjhhpbdmaaGreatDoor

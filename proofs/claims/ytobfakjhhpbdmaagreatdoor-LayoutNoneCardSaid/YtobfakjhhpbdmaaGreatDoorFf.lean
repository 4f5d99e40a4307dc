/-
  FUNCTIONS IN THE ABSTRACT MACHINE's CODE: printed by wip/am/PrintAm.lean.
-/
import Derived.Test.YtobfakjhhpbdmaaGreatDoorAmBase
namespace Go.Proofs.YtobfakjhhpbdmaaGreatDoor
open Go Go.Am
noncomputable def a144 : AFn := { ntmps := 17, results := [.cell 8 (some 7)], body :=
  (.seq (.reg [⟨(some 8), .o3 (.alloc [(.int .i64 0), (.str []), (.int .i64 0), (.int .i64 0), (.int .i64 0), (.int .i64 0), (.bool false)]), none⟩] (some [0, 1, 2, 3, 8]))
  (.seq (.reg [⟨(some 9), .mov (.t 0), none⟩,
      ⟨(some 10), .mov (.t 1), none⟩,
      ⟨(some 11), .mov (.t 2), none⟩,
      ⟨(some 12), .o3 (.slc true 1 (.t 10) none (some (.t 11)) none), none⟩,
      ⟨(some 13), .mov (.t 2), none⟩,
      ⟨(some 14), .o3 (.build [(.int .i64 0), (.str []), (.int .i64 0), (.int .i64 0), (.int .i64 0)] [(0, 1, (.t 9)), (1, 1, (.t 12)), (4, 1, (.t 13))]), none⟩,
      ⟨(some 15), .mov (.t 3), none⟩,
      ⟨(some 16), .o3 (.build [(.int .i64 0), (.str []), (.int .i64 0), (.int .i64 0), (.int .i64 0), (.int .i64 0), (.bool false)] [(0, 5, (.t 14)), (6, 1, (.t 15))]), none⟩,
      ⟨none, .b2 (.store 7) (.t 8) (.t 16), none⟩] (some [8]))
  .ret)) }
noncomputable def a154 : AFn := { ntmps := 106, results := [.tmp 2], body :=
  (.seq (.reg [⟨(some 2), .mov (.c .nilsl), none⟩] (some [0]))
  (.seq (.reg [⟨(some 3), .mov (.c (.int .i64 0)), none⟩] (some [0, 3]))
  (.seq (.reg [⟨(some 4), .mov (.c (.int .i64 1)), none⟩] (some [0, 3, 4]))
  (.seq (.reg [⟨(some 5), .mov (.c (.int .u8 0)), none⟩] (some [0, 3, 4, 5]))
  (.seq (.seq (.reg [⟨(some 6), .mov (.c (.int .i64 0)), none⟩] (some [0, 3, 4, 5, 6]))
  (.block 0
    (.loop
      (.seq (.seq (.reg [⟨(some 13), .mov (.t 6), none⟩,
          ⟨(some 14), .mov (.t 0), none⟩,
          ⟨(some 15), .u1 (.len .str) (.t 14), none⟩,
          ⟨(some 16), .b2 (.bin .lss) (.t 13) (.t 15), none⟩] (some [0, 3, 4, 5, 6, 16]))
      (.cond (.t 16)
        .skip
        (.exit 0)))
      (.seq (.block 1
        (.seq (.reg [⟨(some 19), .mov (.t 0), none⟩,
            ⟨(some 20), .mov (.t 6), none⟩,
            ⟨(some 21), .b2 .idxStr (.t 19) (.t 20), none⟩,
            ⟨(some 7), .mov (.t 21), none⟩] (some [0, 3, 4, 5, 6, 7]))
        (.seq (.reg [⟨(some 22), .mov (.t 5), none⟩,
            ⟨(some 23), .mov (.t 7), none⟩,
            ⟨(some 24), .b2 (.bin .or) (.t 22) (.t 23), none⟩,
            ⟨(some 5), .mov (.t 24), none⟩] (some [0, 3, 4, 5, 6, 7]))
        (.seq (.reg [⟨(some 25), .mov (.t 7), none⟩,
            ⟨(some 26), .b2 (.iaddrArr 256 1) (.c (.ep asciiA 0)) (.t 25), none⟩,
            ⟨(some 27), .u1 (.load none) (.t 26), none⟩,
            ⟨(some 28), .u2 (.cvInt .i64) (.t 27), none⟩,
            ⟨(some 8), .mov (.t 28), none⟩] (some [0, 3, 4, 5, 6, 8]))
        (.seq (.reg [⟨(some 29), .mov (.t 3), none⟩,
            ⟨(some 30), .mov (.t 4), none⟩,
            ⟨(some 31), .mov (.t 8), none⟩,
            ⟨(some 32), .u2 (.un .xor) (.t 31), none⟩,
            ⟨(some 33), .b2 (.bin .and) (.t 30) (.t 32), none⟩,
            ⟨(some 34), .b2 (.bin .add) (.t 29) (.t 33), none⟩,
            ⟨(some 3), .mov (.t 34), none⟩] (some [0, 3, 5, 6, 8]))
        (.reg [⟨(some 35), .mov (.t 8), none⟩,
            ⟨(some 4), .mov (.t 35), none⟩] (some [0, 3, 4, 5, 6])))))))
      (.reg [⟨(some 17), .mov (.t 6), none⟩,
          ⟨(some 18), .b2 (.bin .add) (.t 17) (.c (.int .i64 1)), none⟩,
          ⟨(some 6), .mov (.t 18), none⟩] (some [0, 3, 4, 5, 6])))))))
  (.seq (.seq (.reg [⟨(some 36), .mov (.t 5), none⟩,
      ⟨(some 37), .b2 (.bin .geq) (.t 36) (.c (.int .u8 128)), none⟩] (some [0, 3, 37]))
  (.cond (.t 37)
    (.seq (.reg [⟨(some 38), .mov (.t 0), none⟩,
        ⟨(some 39), .call (.c (.fn 158 [] [])) [(.t 38), (.c (.fn 159 [] []))], none⟩,
        ⟨(some 2), .mov (.t 39), none⟩] (some [2]))
    .ret)
    .skip))
  (.seq (.reg [⟨(some 40), .mov (.t 3), none⟩,
      ⟨(some 41), .b2 (.mkSlice [(.str [])]) (.t 40) (.t 40), none⟩,
      ⟨(some 9), .mov (.t 41), none⟩] (some [0, 9]))
  (.seq (.reg [⟨(some 10), .mov (.c (.int .i64 0)), none⟩] (some [0, 9, 10]))
  (.seq (.reg [⟨(some 11), .mov (.c (.int .i64 0)), none⟩] (some [0, 9, 10]))
  (.seq (.reg [⟨(some 12), .mov (.c (.int .i64 0)), none⟩] (some [0, 9, 10, 12]))
  (.seq (.block 2
    (.loop
      (.seq (.seq (.reg [⟨(some 42), .mov (.t 12), none⟩,
          ⟨(some 43), .mov (.t 0), none⟩,
          ⟨(some 44), .u1 (.len .str) (.t 43), none⟩,
          ⟨(some 45), .b2 (.bin .lss) (.t 42) (.t 44), none⟩,
          ⟨(some 46), .mov (.t 45), none⟩,
          ⟨(some 47), .mov (.t 0), (some (46, true))⟩,
          ⟨(some 48), .mov (.t 12), (some (46, true))⟩,
          ⟨(some 49), .b2 .idxStr (.t 47) (.t 48), (some (46, true))⟩,
          ⟨(some 50), .b2 (.iaddrArr 256 1) (.c (.ep asciiA 0)) (.t 49), (some (46, true))⟩,
          ⟨(some 51), .u1 (.load none) (.t 50), (some (46, true))⟩,
          ⟨(some 52), .b2 (.eq true (.simple .int)) (.t 51) (.c (.int .u8 0)), (some (46, true))⟩,
          ⟨(some 53), .o3 (.pick (.t 46) (.t 52) (.c (.bool false))), none⟩] (some [0, 9, 10, 12, 53]))
      (.cond (.t 53)
        .skip
        (.exit 2)))
      (.block 3
        (.reg [⟨(some 54), .mov (.t 12), none⟩,
            ⟨(some 55), .b2 (.bin .add) (.t 54) (.c (.int .i64 1)), none⟩,
            ⟨(some 12), .mov (.t 55), none⟩] (some [0, 9, 10, 12]))))))
  (.seq (.reg [⟨(some 56), .mov (.t 12), none⟩,
      ⟨(some 11), .mov (.t 56), none⟩] (some [0, 9, 10, 11, 12]))
  (.seq (.block 4
    (.loop
      (.seq (.seq (.reg [⟨(some 57), .mov (.t 12), none⟩,
          ⟨(some 58), .mov (.t 0), none⟩,
          ⟨(some 59), .u1 (.len .str) (.t 58), none⟩,
          ⟨(some 60), .b2 (.bin .lss) (.t 57) (.t 59), none⟩] (some [0, 9, 10, 11, 12, 60]))
      (.cond (.t 60)
        .skip
        (.exit 4)))
      (.block 5
        (.seq (.seq (.reg [⟨(some 61), .mov (.t 0), none⟩,
            ⟨(some 62), .mov (.t 12), none⟩,
            ⟨(some 63), .b2 .idxStr (.t 61) (.t 62), none⟩,
            ⟨(some 64), .b2 (.iaddrArr 256 1) (.c (.ep asciiA 0)) (.t 63), none⟩,
            ⟨(some 65), .u1 (.load none) (.t 64), none⟩,
            ⟨(some 66), .b2 (.eq false (.simple .int)) (.t 65) (.c (.int .u8 0)), none⟩] (some [0, 9, 10, 11, 12, 66]))
        (.cond (.t 66)
          (.seq (.reg [⟨(some 67), .mov (.t 12), none⟩,
              ⟨(some 68), .b2 (.bin .add) (.t 67) (.c (.int .i64 1)), none⟩,
              ⟨(some 12), .mov (.t 68), none⟩] (some [0, 9, 10, 11, 12]))
          (.exit 5))
          .skip))
        (.seq (.reg [⟨(some 69), .mov (.t 9), none⟩,
            ⟨(some 70), .mov (.t 10), none⟩,
            ⟨(some 71), .mov (.t 0), none⟩,
            ⟨(some 72), .mov (.t 11), none⟩,
            ⟨(some 73), .mov (.t 12), none⟩,
            ⟨(some 74), .o3 (.slc true 1 (.t 71) (some (.t 72)) (some (.t 73)) none), none⟩,
            ⟨(some 75), .b2 (.iaddr 1) (.t 69) (.t 70), none⟩,
            ⟨none, .b2 (.store 1) (.t 75) (.t 74), none⟩] (some [0, 9, 10, 12]))
        (.seq (.reg [⟨(some 76), .mov (.t 10), none⟩,
            ⟨(some 77), .b2 (.bin .add) (.t 76) (.c (.int .i64 1)), none⟩,
            ⟨(some 10), .mov (.t 77), none⟩] (some [0, 9, 10, 12]))
        (.seq (.reg [⟨(some 78), .mov (.t 12), none⟩,
            ⟨(some 79), .b2 (.bin .add) (.t 78) (.c (.int .i64 1)), none⟩,
            ⟨(some 12), .mov (.t 79), none⟩] (some [0, 9, 10, 12]))
        (.seq (.block 6
          (.loop
            (.seq (.seq (.reg [⟨(some 80), .mov (.t 12), none⟩,
                ⟨(some 81), .mov (.t 0), none⟩,
                ⟨(some 82), .u1 (.len .str) (.t 81), none⟩,
                ⟨(some 83), .b2 (.bin .lss) (.t 80) (.t 82), none⟩,
                ⟨(some 84), .mov (.t 83), none⟩,
                ⟨(some 85), .mov (.t 0), (some (84, true))⟩,
                ⟨(some 86), .mov (.t 12), (some (84, true))⟩,
                ⟨(some 87), .b2 .idxStr (.t 85) (.t 86), (some (84, true))⟩,
                ⟨(some 88), .b2 (.iaddrArr 256 1) (.c (.ep asciiA 0)) (.t 87), (some (84, true))⟩,
                ⟨(some 89), .u1 (.load none) (.t 88), (some (84, true))⟩,
                ⟨(some 90), .b2 (.eq true (.simple .int)) (.t 89) (.c (.int .u8 0)), (some (84, true))⟩,
                ⟨(some 91), .o3 (.pick (.t 84) (.t 90) (.c (.bool false))), none⟩] (some [0, 9, 10, 12, 91]))
            (.cond (.t 91)
              .skip
              (.exit 6)))
            (.block 7
              (.reg [⟨(some 92), .mov (.t 12), none⟩,
                  ⟨(some 93), .b2 (.bin .add) (.t 92) (.c (.int .i64 1)), none⟩,
                  ⟨(some 12), .mov (.t 93), none⟩] (some [0, 9, 10, 12]))))))
        (.reg [⟨(some 94), .mov (.t 12), none⟩,
            ⟨(some 11), .mov (.t 94), none⟩] (some [0, 9, 10, 11, 12])))))))))))
  (.seq (.seq (.reg [⟨(some 95), .mov (.t 11), none⟩,
      ⟨(some 96), .mov (.t 0), none⟩,
      ⟨(some 97), .u1 (.len .str) (.t 96), none⟩,
      ⟨(some 98), .b2 (.bin .lss) (.t 95) (.t 97), none⟩] (some [0, 9, 10, 11, 98]))
  (.cond (.t 98)
    (.reg [⟨(some 99), .mov (.t 9), none⟩,
        ⟨(some 100), .mov (.t 10), none⟩,
        ⟨(some 101), .mov (.t 0), none⟩,
        ⟨(some 102), .mov (.t 11), none⟩,
        ⟨(some 103), .o3 (.slc true 1 (.t 101) (some (.t 102)) none none), none⟩,
        ⟨(some 104), .b2 (.iaddr 1) (.t 99) (.t 100), none⟩,
        ⟨none, .b2 (.store 1) (.t 104) (.t 103), none⟩] (some [9]))
    .skip))
  (.seq (.reg [⟨(some 105), .mov (.t 9), none⟩,
      ⟨(some 2), .mov (.t 105), none⟩] (some [2]))
  .ret))))))))))))))) }
end Go.Proofs.YtobfakjhhpbdmaaGreatDoor

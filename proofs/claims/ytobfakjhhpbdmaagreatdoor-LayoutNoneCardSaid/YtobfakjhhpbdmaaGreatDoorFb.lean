/-
  FUNCTIONS IN THE ABSTRACT MACHINE's CODE: printed by wip/am/PrintAm.lean.
-/
import Derived.Test.YtobfakjhhpbdmaaGreatDoorAmBase
namespace Go.Proofs.YtobfakjhhpbdmaaGreatDoor
open Go Go.Am
noncomputable def a23 : AFn := { ntmps := 8, results := [.tmp 2], body :=
  (.seq (.reg [⟨(some 2), .mov (.c .nilsl), none⟩] (some [0]))
  (.seq (.seq (.reg [⟨(some 3), .mov (.t 0), none⟩,
      ⟨(some 4), .b2 (.eq false (.simple .sl)) (.t 3) (.c .nilsl), none⟩] (some [0, 4]))
  (.cond (.t 4)
    (.seq (.reg [⟨(some 2), .mov (.c .nilsl), none⟩] (some [2]))
    .ret)
    .skip))
  (.seq (.reg [⟨(some 5), .o3 (.bslice 1 []), none⟩,
      ⟨(some 6), .mov (.t 0), none⟩,
      ⟨(some 7), .b2 (.append 1) (.t 5) (.t 6), none⟩,
      ⟨(some 2), .mov (.t 7), none⟩] (some [2]))
  .ret))) }
noncomputable def a24 : AFn := { ntmps := 8, results := [.tmp 2], body :=
  (.seq (.reg [⟨(some 2), .mov (.c .nilsl), none⟩] (some [0]))
  (.seq (.seq (.reg [⟨(some 3), .mov (.t 0), none⟩,
      ⟨(some 4), .b2 (.eq false (.simple .sl)) (.t 3) (.c .nilsl), none⟩] (some [0, 4]))
  (.cond (.t 4)
    (.seq (.reg [⟨(some 2), .mov (.c .nilsl), none⟩] (some [2]))
    .ret)
    .skip))
  (.seq (.reg [⟨(some 5), .o3 (.bslice 5 []), none⟩,
      ⟨(some 6), .mov (.t 0), none⟩,
      ⟨(some 7), .b2 (.append 5) (.t 5) (.t 6), none⟩,
      ⟨(some 2), .mov (.t 7), none⟩] (some [2]))
  .ret))) }
noncomputable def a25 : AFn := { ntmps := 97, results := [.cell 2 none, .cell 3 none], body :=
  (.seq (.reg [⟨(some 1), .u2 .box (.t 0), none⟩,
      ⟨(some 2), .o3 (.alloc [.nilptr]), none⟩,
      ⟨(some 3), .o3 (.alloc [(.int .i64 0)]), none⟩] (some [1, 2, 3]))
  (.seq (.seq (.reg [⟨(some 13), .u1 (.load (some 7)) (.t 1), none⟩,
      ⟨(some 14), .call (.c (.fn 37 [] [])) [(.t 13)], none⟩,
      ⟨(some 4), .mov (.t 14), none⟩] (some [1, 2, 3, 4]))
  (.seq (.reg [⟨(some 15), .mov (.t 4), none⟩,
      ⟨(some 16), .b2 (.eq true (.simple .int)) (.t 15) (.c (.int .i64 0)), none⟩] (some [1, 2, 3, 4, 16]))
  (.cond (.t 16)
    (.seq (.reg [⟨(some 17), .mov (.t 4), none⟩,
        ⟨none, .b2 (.store 1) (.t 2) (.c .nilptr), none⟩,
        ⟨none, .b2 (.store 1) (.t 3) (.t 17), none⟩] (some [2, 3]))
    .ret)
    .skip)))
  (.seq (.reg [⟨(some 18), .o3 (.mkFn 38 [] [(.t 2), (.t 3)]), none⟩,
      ⟨none, .o3 (.defer (.t 18) []), none⟩] (some [1, 2, 3]))
  (.seq (.reg [⟨(some 20), .u1 (.load (some 7)) (.t 1), none⟩,
      ⟨(some 21), .call (.c (.fn 39 [] [])) [(.t 20)], none⟩,
      ⟨(some 19), .mov (.t 21), none⟩,
      ⟨(some 22), .u1 (.extract 0) (.t 19), none⟩,
      ⟨(some 23), .u1 (.extract 1) (.t 19), none⟩,
      ⟨(some 5), .o3 (.alloc [(.str []), .nilsl, .nilsl, .nilsl, (.bool false), .nilsl, .nilsl]), none⟩,
      ⟨none, .b2 (.store 7) (.t 5) (.t 22), none⟩,
      ⟨(some 6), .mov (.t 23), none⟩] (some [2, 3, 5]))
  (.seq (.reg [⟨(some 24), .o3 (.build [.nilsl, .nilmap, .nilsl] []), none⟩,
      ⟨(some 25), .u2 .box (.t 24), none⟩,
      ⟨(some 7), .mov (.t 25), none⟩] (some [2, 3, 5, 7]))
  (.seq (.dreg [⟨⟨(some 26), .mov (.t 7), none⟩, .soft⟩,
      ⟨⟨(some 27), .u1 .nilchk (.t 26), none⟩, .soft⟩,
      ⟨⟨(some 28), .u1 (.faddr 0) (.t 27), none⟩, .soft⟩,
      ⟨⟨(some 29), .u1 (.load (some 7)) (.t 5), none⟩, .look [0]⟩,
      ⟨⟨(some 30), .call (.c (.fn 40 [] [])) [(.t 28), (.t 29)], none⟩, .hard true⟩] (some [2, 3, 7]))
  (.seq (.seq (.reg [⟨(some 31), .mov (.t 7), none⟩,
      ⟨(some 32), .u1 .nilchk (.t 31), none⟩,
      ⟨(some 33), .u1 (.faddr 0) (.t 32), none⟩,
      ⟨(some 34), .u1 (.faddr 0) (.t 33), none⟩,
      ⟨(some 35), .u1 (.load none) (.t 34), none⟩,
      ⟨(some 36), .u1 (.len .sl) (.t 35), none⟩,
      ⟨(some 37), .mov (.c (.int .i64 0)), none⟩] (some [2, 3, 7, 36, 37]))
  (.block 0
    (.loop
      (.seq (.reg [⟨(some 38), .b2 (.bin .lss) (.t 37) (.t 36), none⟩] (some [2, 3, 7, 36, 37, 38]))
      (.seq (.cond (.t 38)
        .skip
        (.exit 0))
      (.seq (.block 1
        (.seq (.reg [⟨(some 39), .mov (.t 37), none⟩,
            ⟨(some 8), .mov (.t 39), none⟩] (some [2, 3, 7, 8, 36, 37]))
        (.reg [⟨(some 40), .mov (.t 7), none⟩,
            ⟨(some 41), .u1 .nilchk (.t 40), none⟩,
            ⟨(some 42), .u1 (.faddr 0) (.t 41), none⟩,
            ⟨(some 43), .mov (.t 8), none⟩,
            ⟨(some 44), .call (.c (.fn 32 [] [])) [(.t 42), (.t 43)], none⟩] (some [2, 3, 7, 36, 37]))))
      (.reg [⟨(some 45), .b2 (.bin .add) (.t 37) (.c (.int .i64 1)), none⟩,
          ⟨(some 37), .mov (.t 45), none⟩] (some [2, 3, 7, 36, 37]))))))))
  (.seq (.seq (.reg [⟨(some 46), .mov (.t 7), none⟩,
      ⟨(some 47), .u1 .nilchk (.t 46), none⟩,
      ⟨(some 48), .u1 (.faddr 0) (.t 47), none⟩,
      ⟨(some 49), .u1 (.faddr 0) (.t 48), none⟩,
      ⟨(some 50), .u1 (.load none) (.t 49), none⟩,
      ⟨(some 51), .u1 (.len .sl) (.t 50), none⟩,
      ⟨(some 52), .mov (.c (.int .i64 0)), none⟩] (some [2, 3, 7, 50, 51, 52]))
  (.block 2
    (.loop
      (.seq (.reg [⟨(some 53), .b2 (.bin .lss) (.t 52) (.t 51), none⟩] (some [2, 3, 7, 50, 51, 52, 53]))
      (.seq (.cond (.t 53)
        .skip
        (.exit 2))
      (.seq (.block 3
        (.seq (.reg [⟨(some 54), .mov (.t 52), none⟩,
            ⟨(some 55), .b2 (.iaddr 1) (.t 50) (.t 52), none⟩,
            ⟨(some 56), .u1 (.load none) (.t 55), none⟩,
            ⟨(some 9), .mov (.t 54), none⟩,
            ⟨(some 10), .mov (.t 56), none⟩] (some [2, 3, 7, 9, 10, 50, 51, 52]))
        (.seq (.reg [⟨(some 57), .mov (.t 7), none⟩,
            ⟨(some 58), .u1 .nilchk (.t 57), none⟩,
            ⟨(some 59), .u1 (.faddr 0) (.t 58), none⟩,
            ⟨(some 60), .mov (.t 10), none⟩,
            ⟨(some 61), .call (.c (.fn 41 [] [])) [(.t 59), (.t 60)], none⟩] (some [2, 3, 7, 9, 50, 51, 52]))
        (.reg [⟨(some 62), .mov (.t 7), none⟩,
            ⟨(some 63), .u1 .nilchk (.t 62), none⟩,
            ⟨(some 64), .u1 (.faddr 0) (.t 63), none⟩,
            ⟨(some 65), .mov (.t 9), none⟩,
            ⟨(some 66), .call (.c (.fn 42 [] [])) [(.t 64), (.t 65)], none⟩] (some [2, 3, 7, 50, 51, 52])))))
      (.reg [⟨(some 67), .b2 (.bin .add) (.t 52) (.c (.int .i64 1)), none⟩,
          ⟨(some 52), .mov (.t 67), none⟩] (some [2, 3, 7, 50, 51, 52]))))))))
  (.seq (.seq (.reg [⟨(some 68), .mov (.t 7), none⟩,
      ⟨(some 69), .u1 .nilchk (.t 68), none⟩,
      ⟨(some 70), .u1 (.faddr 0) (.t 69), none⟩,
      ⟨(some 71), .u1 (.faddr 0) (.t 70), none⟩,
      ⟨(some 72), .u1 (.load none) (.t 71), none⟩,
      ⟨(some 73), .u1 (.len .sl) (.t 72), none⟩,
      ⟨(some 74), .mov (.c (.int .i64 0)), none⟩] (some [2, 3, 7, 72, 73, 74]))
  (.block 4
    (.loop
      (.seq (.reg [⟨(some 75), .b2 (.bin .lss) (.t 74) (.t 73), none⟩] (some [2, 3, 7, 72, 73, 74, 75]))
      (.seq (.cond (.t 75)
        .skip
        (.exit 4))
      (.seq (.block 5
        (.seq (.reg [⟨(some 76), .b2 (.iaddr 1) (.t 72) (.t 74), none⟩,
            ⟨(some 77), .u1 (.load none) (.t 76), none⟩,
            ⟨(some 12), .mov (.t 77), none⟩] (some [2, 3, 7, 12, 72, 73, 74]))
        (.dreg [⟨⟨(some 78), .mov (.t 7), none⟩, .soft⟩,
            ⟨⟨(some 79), .mov (.t 7), none⟩, .soft⟩,
            ⟨⟨(some 80), .u1 .nilchk (.t 79), none⟩, .soft⟩,
            ⟨⟨(some 81), .u1 (.faddr 2) (.t 80), none⟩, .soft⟩,
            ⟨⟨(some 82), .u1 (.load none) (.t 81), none⟩, .look [0, 1]⟩,
            ⟨⟨(some 83), .mov (.t 7), none⟩, .soft⟩,
            ⟨⟨(some 84), .u1 .nilchk (.t 83), none⟩, .soft⟩,
            ⟨⟨(some 85), .u1 (.faddr 0) (.t 84), none⟩, .soft⟩,
            ⟨⟨(some 86), .mov (.t 12), none⟩, .soft⟩,
            ⟨⟨(some 87), .u1 .nilchk (.t 86), none⟩, .soft⟩,
            ⟨⟨(some 88), .u1 (.faddr 15) (.t 87), none⟩, .soft⟩,
            ⟨⟨(some 89), .u1 (.load none) (.t 88), none⟩, .look [0]⟩,
            ⟨⟨(some 90), .call (.c (.fn 43 [] [])) [(.t 85), (.t 89)], none⟩, .hard true⟩,
            ⟨⟨(some 91), .o3 (.bslice 1 [(.t 90)]), none⟩, .soft⟩,
            ⟨⟨(some 92), .b2 (.append 1) (.t 82) (.t 91), none⟩, .hard true⟩,
            ⟨⟨(some 93), .u1 .nilchk (.t 78), none⟩, .soft⟩,
            ⟨⟨(some 94), .u1 (.faddr 2) (.t 93), none⟩, .soft⟩,
            ⟨⟨none, .b2 (.store 1) (.t 94) (.t 92), none⟩, .hard true⟩] (some [2, 3, 7, 72, 73, 74]))))
      (.reg [⟨(some 95), .b2 (.bin .add) (.t 74) (.c (.int .i64 1)), none⟩,
          ⟨(some 74), .mov (.t 95), none⟩] (some [2, 3, 7, 72, 73, 74]))))))))
  (.seq (.reg [⟨(some 96), .mov (.t 7), none⟩,
      ⟨none, .b2 (.store 1) (.t 2) (.t 96), none⟩,
      ⟨none, .b2 (.store 1) (.t 3) (.c (.int .i64 0)), none⟩] (some [2, 3]))
  .ret)))))))))) }
noncomputable def a26 : AFn := { ntmps := 43, results := [.cell 0 (some 7)], body :=
  (.seq (.reg [⟨(some 0), .o3 (.alloc [(.str []), .nilsl, .nilsl, .nilsl, (.bool false), .nilsl, .nilsl]), none⟩] (some [0]))
  (.seq (.reg [⟨(some 6), .o3 (.bslice 1 [(.c (.str [86]))]), none⟩,
      ⟨(some 7), .call (.c (.fn 29 [] [])) [(.c (.str [121]))], none⟩,
      ⟨(some 8), .o3 (.bslice 5 [(.t 7)]), none⟩,
      ⟨(some 9), .o3 (.build [(.str []), .nilsl, .nilsl, .nilsl, (.bool false), .nilsl, .nilsl] [(2, 1, (.t 8))]), none⟩,
      ⟨(some 10), .o3 (.bslice 7 [(.t 9)]), none⟩,
      ⟨(some 11), .o3 (.build [(.int .i64 0), .nilsl, .nilsl, .nilsl, .nilsl] [(0, 1, (.c (.int .i64 2))), (1, 1, (.t 6)), (4, 1, (.t 10))]), none⟩,
      ⟨(some 1), .o3 (.alloc [(.int .i64 0), .nilsl, .nilsl, .nilsl, .nilsl]), none⟩,
      ⟨none, .b2 (.store 5) (.t 1) (.t 11), none⟩] (some [0, 1]))
  (.seq (.reg [⟨(some 12), .o3 (.bslice 1 [(.c (.str [86]))]), none⟩,
      ⟨(some 13), .call (.c (.fn 29 [] [])) [(.c (.str [119]))], none⟩,
      ⟨(some 14), .o3 (.bslice 5 [(.t 13)]), none⟩,
      ⟨(some 15), .o3 (.build [(.str []), .nilsl, .nilsl, .nilsl, (.bool false), .nilsl, .nilsl] [(2, 1, (.t 14))]), none⟩,
      ⟨(some 16), .o3 (.bslice 7 [(.t 15)]), none⟩,
      ⟨(some 17), .o3 (.build [(.int .i64 0), .nilsl, .nilsl, .nilsl, .nilsl] [(0, 1, (.c (.int .i64 3))), (1, 1, (.t 12)), (4, 1, (.t 16))]), none⟩,
      ⟨(some 2), .o3 (.alloc [(.int .i64 0), .nilsl, .nilsl, .nilsl, .nilsl]), none⟩,
      ⟨none, .b2 (.store 5) (.t 2) (.t 17), none⟩] (some [0, 1, 2]))
  (.seq (.dreg [⟨⟨(some 18), .o3 (.bslice 1 [(.c (.str [80]))]), none⟩, .soft⟩,
      ⟨⟨(some 19), .call (.c (.fn 29 [] [])) [(.c (.str [120]))], none⟩, .hard false⟩,
      ⟨⟨(some 20), .u1 (.load (some 5)) (.t 1), none⟩, .look [0, 1]⟩,
      ⟨⟨(some 21), .o3 (.bslice 5 [(.t 19), (.t 20)]), none⟩, .soft⟩,
      ⟨⟨(some 22), .o3 (.build [(.str []), .nilsl, .nilsl, .nilsl, (.bool false), .nilsl, .nilsl] [(2, 1, (.t 21))]), none⟩, .soft⟩,
      ⟨⟨(some 23), .o3 (.bslice 7 [(.t 22)]), none⟩, .soft⟩,
      ⟨⟨(some 24), .o3 (.build [(.int .i64 0), .nilsl, .nilsl, .nilsl, .nilsl] [(0, 1, (.c (.int .i64 1))), (1, 1, (.t 18)), (4, 1, (.t 23))]), none⟩, .soft⟩,
      ⟨⟨(some 3), .o3 (.alloc [(.int .i64 0), .nilsl, .nilsl, .nilsl, .nilsl]), none⟩, .pre [(.int .i64 0), .nilsl, .nilsl, .nilsl, .nilsl] [0, 1]⟩,
      ⟨⟨none, .b2 (.store 5) (.t 3) (.t 24), none⟩, .hard true⟩] (some [0, 2, 3]))
  (.seq (.dreg [⟨⟨(some 25), .o3 (.bslice 1 [(.c (.str [81]))]), none⟩, .soft⟩,
      ⟨⟨(some 26), .call (.c (.fn 28 [] [])) [(.c (.str [80]))], none⟩, .hard false⟩,
      ⟨⟨(some 27), .o3 (.bslice 8 [(.t 26)]), none⟩, .soft⟩,
      ⟨⟨(some 28), .call (.c (.fn 29 [] [])) [(.c (.str [122]))], none⟩, .hard false⟩,
      ⟨⟨(some 29), .u1 (.load (some 5)) (.t 2), none⟩, .look [0, 1, 2]⟩,
      ⟨⟨(some 30), .o3 (.bslice 5 [(.t 28), (.t 29)]), none⟩, .soft⟩,
      ⟨⟨(some 31), .o3 (.build [(.str []), .nilsl, .nilsl, .nilsl, (.bool false), .nilsl, .nilsl] [(1, 1, (.t 27)), (2, 1, (.t 30))]), none⟩, .soft⟩,
      ⟨⟨(some 32), .o3 (.bslice 7 [(.t 31)]), none⟩, .soft⟩,
      ⟨⟨(some 33), .o3 (.build [(.int .i64 0), .nilsl, .nilsl, .nilsl, .nilsl] [(0, 1, (.c (.int .i64 1))), (1, 1, (.t 25)), (4, 1, (.t 32))]), none⟩, .soft⟩,
      ⟨⟨(some 4), .o3 (.alloc [(.int .i64 0), .nilsl, .nilsl, .nilsl, .nilsl]), none⟩, .pre [(.int .i64 0), .nilsl, .nilsl, .nilsl, .nilsl] [0, 1, 2]⟩,
      ⟨⟨none, .b2 (.store 5) (.t 4) (.t 33), none⟩, .hard true⟩] (some [0, 3, 4]))
  (.seq (.reg [⟨(some 34), .o3 (.bslice 1 [(.c (.str [113]))]), none⟩,
      ⟨(some 35), .call (.c (.fn 28 [] [])) [(.c (.str [81]))], none⟩,
      ⟨(some 36), .o3 (.bslice 8 [(.t 35)]), none⟩,
      ⟨(some 37), .o3 (.build [(.int .i64 0), .nilsl, .nilsl, .nilsl, .nilsl] [(0, 1, (.c (.int .i64 5))), (1, 1, (.t 34)), (3, 1, (.t 36))]), none⟩,
      ⟨(some 5), .o3 (.alloc [(.int .i64 0), .nilsl, .nilsl, .nilsl, .nilsl]), none⟩,
      ⟨none, .b2 (.store 5) (.t 5) (.t 37), none⟩] (some [0, 3, 4, 5]))
  (.seq (.reg [⟨(some 38), .u1 (.load (some 5)) (.t 3), none⟩,
      ⟨(some 39), .u1 (.load (some 5)) (.t 4), none⟩,
      ⟨(some 40), .u1 (.load (some 5)) (.t 5), none⟩,
      ⟨(some 41), .o3 (.bslice 5 [(.t 38), (.t 39), (.t 40)]), none⟩,
      ⟨(some 42), .o3 (.build [(.str []), .nilsl, .nilsl, .nilsl, (.bool false), .nilsl, .nilsl] [(2, 1, (.t 41))]), none⟩,
      ⟨none, .b2 (.store 7) (.t 0) (.t 42), none⟩] (some [0]))
  .ret))))))) }
noncomputable def a27 : AFn := { ntmps := 26, results := [.tmp 4], body :=
  (.seq (.reg [⟨(some 4), .mov (.c (.bool false)), none⟩] (some [0, 1]))
  (.seq (.seq (.reg [⟨(some 6), .mov (.t 0), none⟩,
      ⟨(some 7), .u1 (.len .sl) (.t 6), none⟩,
      ⟨(some 8), .mov (.t 1), none⟩,
      ⟨(some 9), .u1 (.len .sl) (.t 8), none⟩,
      ⟨(some 10), .b2 (.eq true (.simple .int)) (.t 7) (.t 9), none⟩] (some [0, 1, 10]))
  (.cond (.t 10)
    (.seq (.reg [⟨(some 4), .mov (.c (.bool false)), none⟩] (some [4]))
    .ret)
    .skip))
  (.seq (.seq (.reg [⟨(some 5), .mov (.c (.int .i64 0)), none⟩] (some [0, 1, 5]))
  (.block 0
    (.loop
      (.seq (.seq (.reg [⟨(some 11), .mov (.t 5), none⟩,
          ⟨(some 12), .mov (.t 0), none⟩,
          ⟨(some 13), .u1 (.len .sl) (.t 12), none⟩,
          ⟨(some 14), .b2 (.bin .lss) (.t 11) (.t 13), none⟩] (some [0, 1, 5, 14]))
      (.cond (.t 14)
        .skip
        (.exit 0)))
      (.seq (.block 1
        (.seq (.dreg [⟨⟨(some 17), .mov (.t 0), none⟩, .soft⟩,
            ⟨⟨(some 18), .mov (.t 5), none⟩, .soft⟩,
            ⟨⟨(some 19), .b2 (.iaddr 1) (.t 17) (.t 18), none⟩, .soft⟩,
            ⟨⟨(some 20), .u1 (.load none) (.t 19), none⟩, .look [0]⟩,
            ⟨⟨(some 21), .mov (.t 1), none⟩, .soft⟩,
            ⟨⟨(some 22), .mov (.t 5), none⟩, .soft⟩,
            ⟨⟨(some 23), .b2 (.iaddr 1) (.t 21) (.t 22), none⟩, .soft⟩,
            ⟨⟨(some 24), .u1 (.load none) (.t 23), none⟩, .look [0]⟩,
            ⟨⟨(some 25), .b2 (.eq true (.simple .int)) (.t 20) (.t 24), none⟩, .soft⟩] (some [0, 1, 5, 25]))
        (.cond (.t 25)
          (.seq (.reg [⟨(some 4), .mov (.c (.bool false)), none⟩] (some [4]))
          .ret)
          .skip)))
      (.reg [⟨(some 15), .mov (.t 5), none⟩,
          ⟨(some 16), .b2 (.bin .add) (.t 15) (.c (.int .i64 1)), none⟩,
          ⟨(some 5), .mov (.t 16), none⟩] (some [0, 1, 5])))))))
  (.seq (.reg [⟨(some 4), .mov (.c (.bool true)), none⟩] (some [4]))
  .ret)))) }
noncomputable def a28 : AFn := { ntmps := 5, results := [.cell 2 (some 8)], body :=
  (.seq (.reg [⟨(some 2), .o3 (.alloc [(.int .i64 0), (.int .i64 0), (.int .i64 0), (.int .i64 0), (.int .i64 0), (.str []), .nilsl, .nilsl]), none⟩] (some [0, 2]))
  (.seq (.reg [⟨(some 3), .mov (.t 0), none⟩,
      ⟨(some 4), .o3 (.build [(.int .i64 0), (.int .i64 0), (.int .i64 0), (.int .i64 0), (.int .i64 0), (.str []), .nilsl, .nilsl] [(0, 1, (.c (.int .i64 8))), (5, 1, (.t 3))]), none⟩,
      ⟨none, .b2 (.store 8) (.t 2) (.t 4), none⟩] (some [2]))
  .ret)) }
noncomputable def a29 : AFn := { ntmps := 8, results := [.cell 2 (some 5)], body :=
  (.seq (.reg [⟨(some 2), .o3 (.alloc [(.int .i64 0), .nilsl, .nilsl, .nilsl, .nilsl]), none⟩] (some [0, 2]))
  (.seq (.reg [⟨(some 3), .mov (.t 0), none⟩,
      ⟨(some 4), .o3 (.bslice 1 [(.t 3)]), none⟩,
      ⟨(some 5), .call (.c (.fn 28 [] [])) [(.c (.str [105, 110, 116, 101, 103, 101, 114]))], none⟩,
      ⟨(some 6), .o3 (.bslice 8 [(.t 5)]), none⟩,
      ⟨(some 7), .o3 (.build [(.int .i64 0), .nilsl, .nilsl, .nilsl, .nilsl] [(0, 1, (.c (.int .i64 5))), (1, 1, (.t 4)), (3, 1, (.t 6))]), none⟩,
      ⟨none, .b2 (.store 5) (.t 2) (.t 7), none⟩] (some [2]))
  .ret)) }
noncomputable def a30 : AFn := { ntmps := 78, results := [.cell 6 (some 6)], body :=
  (.seq (.reg [⟨(some 5), .u2 .box (.t 2), none⟩,
      ⟨(some 6), .o3 (.alloc [(.int .i64 0), (.int .i64 0), (.int .i64 0), (.int .i64 0), (.int .i64 0), (.int .i64 0)]), none⟩] (some [0, 1, 5, 6]))
  (.seq (.dreg [⟨⟨(some 10), .mov (.t 0), none⟩, .soft⟩,
      ⟨⟨(some 11), .u1 .nilchk (.t 10), none⟩, .soft⟩,
      ⟨⟨(some 12), .u1 (.faddr 0) (.t 11), none⟩, .soft⟩,
      ⟨⟨(some 13), .u1 (.faddr 0) (.t 12), none⟩, .soft⟩,
      ⟨⟨(some 14), .u1 (.load none) (.t 13), none⟩, .look [0, 1]⟩,
      ⟨⟨(some 15), .mov (.t 0), none⟩, .soft⟩,
      ⟨⟨(some 16), .u1 .nilchk (.t 15), none⟩, .soft⟩,
      ⟨⟨(some 17), .u1 (.faddr 0) (.t 16), none⟩, .soft⟩,
      ⟨⟨(some 18), .mov (.t 1), none⟩, .soft⟩,
      ⟨⟨(some 19), .u1 (.faddr 0) (.t 5), none⟩, .soft⟩,
      ⟨⟨(some 20), .u1 (.load none) (.t 19), none⟩, .look [0]⟩,
      ⟨⟨(some 21), .call (.c (.fn 17 [] [])) [(.t 17), (.t 18), (.t 20)], none⟩, .hard false⟩,
      ⟨⟨(some 22), .b2 (.iaddr 1) (.t 14) (.t 21), none⟩, .soft⟩,
      ⟨⟨(some 23), .u1 (.load none) (.t 22), none⟩, .look [1]⟩,
      ⟨⟨(some 24), .u1 .nilchk (.t 23), none⟩, .soft⟩,
      ⟨⟨(some 25), .u1 (.faddr 15) (.t 24), none⟩, .soft⟩,
      ⟨⟨(some 26), .u1 (.load none) (.t 25), none⟩, .look [1]⟩,
      ⟨⟨(some 27), .u1 (.faddr 1) (.t 5), none⟩, .soft⟩,
      ⟨⟨(some 28), .u1 (.load none) (.t 27), none⟩, .look [0, 1]⟩,
      ⟨⟨(some 29), .b2 (.iaddr 1) (.t 26) (.t 28), none⟩, .soft⟩,
      ⟨⟨(some 30), .u1 (.load none) (.t 29), none⟩, .look [1]⟩,
      ⟨⟨(some 7), .mov (.t 30), none⟩, .soft⟩] (some [0, 5, 6, 7]))
  (.seq (.reg [⟨(some 31), .mov (.t 0), none⟩,
      ⟨(some 32), .u1 .nilchk (.t 31), none⟩,
      ⟨(some 33), .u1 (.faddr 0) (.t 32), none⟩,
      ⟨(some 34), .u1 (.faddr 0) (.t 33), none⟩,
      ⟨(some 35), .u1 (.load none) (.t 34), none⟩,
      ⟨(some 36), .mov (.t 7), none⟩,
      ⟨(some 37), .b2 (.iaddr 1) (.t 35) (.t 36), none⟩,
      ⟨(some 38), .u1 (.load none) (.t 37), none⟩,
      ⟨(some 8), .mov (.t 38), none⟩] (some [5, 6, 7, 8]))
  (.seq (.reg [⟨(some 39), .u1 (.faddr 0) (.t 5), none⟩,
      ⟨(some 40), .u1 (.load none) (.t 39), none⟩,
      ⟨(some 41), .u1 (.faddr 1) (.t 5), none⟩,
      ⟨(some 42), .u1 (.load none) (.t 41), none⟩,
      ⟨(some 43), .mov (.t 7), none⟩,
      ⟨(some 44), .u1 (.faddr 2) (.t 5), none⟩,
      ⟨(some 45), .u1 (.load none) (.t 44), none⟩,
      ⟨(some 46), .u1 (.faddr 3) (.t 5), none⟩,
      ⟨(some 47), .u1 (.load none) (.t 46), none⟩,
      ⟨(some 48), .o3 (.build [(.int .i64 0), (.int .i64 0), (.int .i64 0), (.int .i64 0), (.int .i64 0), (.int .i64 0)] [(0, 1, (.t 40)), (1, 1, (.t 42)), (2, 1, (.t 43)), (3, 1, (.t 45)), (4, 1, (.t 47)), (5, 1, (.c (.int .i64 (-1))))]), none⟩,
      ⟨(some 9), .o3 (.alloc [(.int .i64 0), (.int .i64 0), (.int .i64 0), (.int .i64 0), (.int .i64 0), (.int .i64 0)]), none⟩,
      ⟨none, .b2 (.store 6) (.t 9) (.t 48), none⟩] (some [5, 6, 8, 9]))
  (.seq (.seq (.dreg [⟨⟨(some 49), .mov (.t 8), none⟩, .soft⟩,
      ⟨⟨(some 50), .u1 .nilchk (.t 49), none⟩, .soft⟩,
      ⟨⟨(some 51), .u1 (.faddr 0) (.t 50), none⟩, .soft⟩,
      ⟨⟨(some 52), .u1 (.faddr 2) (.t 51), none⟩, .soft⟩,
      ⟨⟨(some 53), .u1 (.load none) (.t 52), none⟩, .look [0]⟩,
      ⟨⟨(some 54), .u1 (.faddr 2) (.t 5), none⟩, .soft⟩,
      ⟨⟨(some 55), .u1 (.load none) (.t 54), none⟩, .look [0]⟩,
      ⟨⟨(some 56), .b2 (.iaddr 5) (.t 53) (.t 55), none⟩, .soft⟩,
      ⟨⟨(some 57), .u1 (.load (some 5)) (.t 56), none⟩, .look [0]⟩,
      ⟨⟨(some 58), .call (.c (.fn 44 [] [])) [(.t 57)], none⟩, .hard true⟩] (some [5, 6, 8, 9, 58]))
  (.cond (.t 58)
    (.dreg [⟨⟨(some 59), .mov (.t 8), none⟩, .soft⟩,
        ⟨⟨(some 60), .u1 .nilchk (.t 59), none⟩, .soft⟩,
        ⟨⟨(some 61), .u1 (.faddr 17) (.t 60), none⟩, .soft⟩,
        ⟨⟨(some 62), .u1 (.load none) (.t 61), none⟩, .look [0, 1]⟩,
        ⟨⟨(some 63), .mov (.t 8), none⟩, .soft⟩,
        ⟨⟨(some 64), .u1 .nilchk (.t 63), none⟩, .soft⟩,
        ⟨⟨(some 65), .u1 (.faddr 0) (.t 64), none⟩, .soft⟩,
        ⟨⟨(some 66), .u1 (.faddr 2) (.t 65), none⟩, .soft⟩,
        ⟨⟨(some 67), .u1 (.load none) (.t 66), none⟩, .look [0]⟩,
        ⟨⟨(some 68), .u1 (.faddr 2) (.t 5), none⟩, .soft⟩,
        ⟨⟨(some 69), .u1 (.load none) (.t 68), none⟩, .look [0]⟩,
        ⟨⟨(some 70), .o3 (.slc false 5 (.t 67) none (some (.t 69)) none), none⟩, .soft⟩,
        ⟨⟨(some 71), .call (.c (.fn 45 [] [])) [(.t 70)], none⟩, .hard false⟩,
        ⟨⟨(some 72), .b2 (.bin .add) (.t 62) (.t 71), none⟩, .soft⟩,
        ⟨⟨(some 73), .u1 (.faddr 3) (.t 5), none⟩, .soft⟩,
        ⟨⟨(some 74), .u1 (.load none) (.t 73), none⟩, .look [0, 1]⟩,
        ⟨⟨(some 75), .b2 (.bin .add) (.t 72) (.t 74), none⟩, .soft⟩,
        ⟨⟨(some 76), .u1 (.faddr 5) (.t 9), none⟩, .soft⟩,
        ⟨⟨none, .b2 (.store 1) (.t 76) (.t 75), none⟩, .hard true⟩] (some [6, 9]))
    .skip))
  (.seq (.reg [⟨(some 77), .u1 (.load (some 6)) (.t 9), none⟩,
      ⟨none, .b2 (.store 6) (.t 6) (.t 77), none⟩] (some [6]))
  .ret)))))) }
noncomputable def a31 : AFn := { ntmps := 4, results := [.tmp 2], body :=
  (.seq (.reg [⟨(some 1), .u2 .box (.t 0), none⟩,
      ⟨(some 2), .mov (.c .nilfn), none⟩] (some [1]))
  (.seq (.reg [⟨(some 3), .o3 (.mkFn 46 [] [(.t 1)]), none⟩,
      ⟨(some 2), .mov (.t 3), none⟩] (some [2]))
  .ret)) }
noncomputable def a32 : AFn := { ntmps := 119, results := [.tmp 4], body :=
  (.seq (.reg [⟨(some 4), .mov (.c .nilptr), none⟩] (some [0, 1]))
  (.seq (.reg [⟨(some 13), .mov (.t 0), none⟩,
      ⟨(some 14), .u1 .nilchk (.t 13), none⟩,
      ⟨(some 15), .u1 (.faddr 0) (.t 14), none⟩,
      ⟨(some 16), .u1 (.load none) (.t 15), none⟩,
      ⟨(some 17), .mov (.t 1), none⟩,
      ⟨(some 18), .b2 (.iaddr 1) (.t 16) (.t 17), none⟩,
      ⟨(some 19), .u1 (.load none) (.t 18), none⟩,
      ⟨(some 5), .mov (.t 19), none⟩] (some [0, 1, 5]))
  (.seq (.seq (.reg [⟨(some 20), .mov (.t 5), none⟩,
      ⟨(some 21), .u1 .nilchk (.t 20), none⟩,
      ⟨(some 22), .u1 (.faddr 15) (.t 21), none⟩,
      ⟨(some 23), .u1 (.load none) (.t 22), none⟩,
      ⟨(some 24), .b2 (.eq true (.simple .sl)) (.t 23) (.c .nilsl), none⟩] (some [0, 1, 5, 24]))
  (.cond (.t 24)
    (.seq (.reg [⟨(some 25), .mov (.t 5), none⟩,
        ⟨(some 4), .mov (.t 25), none⟩] (some [4]))
    .ret)
    .skip))
  (.seq (.reg [⟨(some 26), .mov (.t 5), none⟩,
      ⟨(some 27), .u1 .nilchk (.t 26), none⟩,
      ⟨(some 28), .u1 (.faddr 14) (.t 27), none⟩,
      ⟨(some 29), .u1 (.load none) (.t 28), none⟩,
      ⟨(some 30), .u2 (.un .not) (.t 29), none⟩,
      ⟨(some 31), .call (.c (.fn 35 [] [])) [(.t 30), (.c (.int .i64 12))], none⟩] (some [0, 1, 5]))
  (.seq (.reg [⟨(some 32), .mov (.t 5), none⟩,
      ⟨(some 33), .u1 .nilchk (.t 32), none⟩,
      ⟨(some 34), .u1 (.faddr 14) (.t 33), none⟩,
      ⟨none, .b2 (.store 1) (.t 34) (.c (.bool true)), none⟩] (some [0, 1, 5]))
  (.seq (.reg [⟨(some 6), .mov (.c .nilsl), none⟩,
      ⟨(some 7), .mov (.c .nilsl), none⟩] (some [0, 1, 5, 6, 7]))
  (.seq (.reg [⟨(some 8), .mov (.c (.int .i64 0)), none⟩] (some [0, 1, 5, 6, 7, 8]))
  (.seq (.seq (.reg [⟨(some 35), .mov (.t 0), none⟩,
      ⟨(some 36), .mov (.t 5), none⟩,
      ⟨(some 37), .call (.c (.fn 47 [] [])) [(.t 35), (.t 36)], none⟩,
      ⟨(some 9), .o3 (.alloc [(.int .i64 0), (.int .i64 0), (.int .i64 0)]), none⟩,
      ⟨none, .b2 (.store 3) (.t 9) (.t 37), none⟩] (some [0, 1, 5, 6, 7, 8, 9]))
  (.seq (.reg [⟨(some 38), .u1 (.faddr 0) (.t 9), none⟩,
      ⟨(some 39), .u1 (.load none) (.t 38), none⟩,
      ⟨(some 40), .b2 (.bin .geq) (.t 39) (.c (.int .i64 0)), none⟩] (some [0, 1, 5, 6, 7, 8, 9, 40]))
  (.cond (.t 40)
    (.seq (.reg [⟨(some 41), .mov (.t 0), none⟩,
        ⟨(some 42), .u1 (.faddr 0) (.t 9), none⟩,
        ⟨(some 43), .u1 (.load none) (.t 42), none⟩,
        ⟨(some 44), .call (.c (.fn 32 [] [])) [(.t 41), (.t 43)], none⟩,
        ⟨(some 10), .mov (.t 44), none⟩] (some [0, 1, 5, 7, 9, 10]))
    (.seq (.reg [⟨(some 45), .mov (.t 10), none⟩,
        ⟨(some 46), .u1 .nilchk (.t 45), none⟩,
        ⟨(some 47), .u1 (.faddr 15) (.t 46), none⟩,
        ⟨(some 48), .u1 (.load none) (.t 47), none⟩,
        ⟨(some 49), .u1 (.len .sl) (.t 48), none⟩,
        ⟨(some 50), .b2 (.bin .lss) (.t 49) (.c (.int .i64 40)), none⟩,
        ⟨(some 51), .call (.c (.fn 35 [] [])) [(.t 50), (.c (.int .i64 2))], none⟩] (some [0, 1, 5, 7, 9, 10]))
    (.seq (.dreg [⟨⟨(some 52), .mov (.t 10), none⟩, .soft⟩,
        ⟨⟨(some 53), .u1 .nilchk (.t 52), none⟩, .soft⟩,
        ⟨⟨(some 54), .u1 (.faddr 15) (.t 53), none⟩, .soft⟩,
        ⟨⟨(some 55), .u1 (.load none) (.t 54), none⟩, .look [0]⟩,
        ⟨⟨(some 56), .call (.c (.fn 23 [] [])) [(.t 55)], none⟩, .hard false⟩,
        ⟨⟨(some 57), .mov (.t 10), none⟩, .soft⟩,
        ⟨⟨(some 58), .u1 .nilchk (.t 57), none⟩, .soft⟩,
        ⟨⟨(some 59), .u1 (.faddr 17) (.t 58), none⟩, .soft⟩,
        ⟨⟨(some 60), .u1 (.load none) (.t 59), none⟩, .look [0, 1]⟩,
        ⟨⟨(some 61), .mov (.t 10), none⟩, .soft⟩,
        ⟨⟨(some 62), .u1 .nilchk (.t 61), none⟩, .soft⟩,
        ⟨⟨(some 63), .u1 (.faddr 18) (.t 62), none⟩, .soft⟩,
        ⟨⟨(some 64), .u1 (.load none) (.t 63), none⟩, .look [0, 1]⟩,
        ⟨⟨(some 65), .b2 (.bin .add) (.t 60) (.t 64), none⟩, .soft⟩,
        ⟨⟨(some 6), .mov (.t 56), none⟩, .soft⟩,
        ⟨⟨(some 8), .mov (.t 65), none⟩, .soft⟩] (some [0, 1, 5, 6, 7, 8, 9, 10]))
    (.seq (.reg [⟨(some 66), .mov (.t 10), none⟩,
        ⟨(some 67), .u1 .nilchk (.t 66), none⟩,
        ⟨(some 68), .u1 (.faddr 16) (.t 67), none⟩,
        ⟨(some 69), .u1 (.load none) (.t 68), none⟩,
        ⟨(some 70), .u1 (.len .sl) (.t 69), none⟩,
        ⟨(some 71), .mov (.c (.int .i64 0)), none⟩] (some [0, 1, 5, 6, 7, 8, 9, 69, 70, 71]))
    (.block 0
      (.loop
        (.seq (.reg [⟨(some 72), .b2 (.bin .lss) (.t 71) (.t 70), none⟩] (some [0, 1, 5, 6, 7, 8, 9, 69, 70, 71, 72]))
        (.seq (.cond (.t 72)
          .skip
          (.exit 0))
        (.seq (.block 1
          (.seq (.reg [⟨(some 73), .b2 (.iaddr 1) (.t 69) (.t 71), none⟩,
              ⟨(some 74), .u1 (.load none) (.t 73), none⟩,
              ⟨(some 12), .mov (.t 74), none⟩] (some [0, 1, 5, 6, 7, 8, 9, 12, 69, 70, 71]))
          (.dreg [⟨⟨(some 75), .mov (.t 7), none⟩, .soft⟩,
              ⟨⟨(some 76), .mov (.t 0), none⟩, .soft⟩,
              ⟨⟨(some 77), .mov (.t 5), none⟩, .soft⟩,
              ⟨⟨(some 78), .u1 .nilchk (.t 77), none⟩, .soft⟩,
              ⟨⟨(some 79), .u1 (.faddr 8) (.t 78), none⟩, .soft⟩,
              ⟨⟨(some 80), .u1 (.load none) (.t 79), none⟩, .look [0]⟩,
              ⟨⟨(some 81), .u1 (.faddr 1) (.t 9), none⟩, .soft⟩,
              ⟨⟨(some 82), .u1 (.load (some 2)) (.t 81), none⟩, .look [0]⟩,
              ⟨⟨(some 83), .mov (.t 12), none⟩, .soft⟩,
              ⟨⟨(some 84), .call (.c (.fn 48 [] [])) [(.t 76), (.t 80), (.t 82), (.t 83)], none⟩, .hard true⟩,
              ⟨⟨(some 85), .u1 (.fld 0 none) (.t 84), none⟩, .soft⟩,
              ⟨⟨(some 86), .o3 (.bslice 1 [(.t 85)]), none⟩, .soft⟩,
              ⟨⟨(some 87), .b2 (.append 1) (.t 75) (.t 86), none⟩, .hard true⟩,
              ⟨⟨(some 7), .mov (.t 87), none⟩, .soft⟩] (some [0, 1, 5, 6, 7, 8, 9, 69, 70, 71]))))
        (.reg [⟨(some 88), .b2 (.bin .add) (.t 71) (.c (.int .i64 1)), none⟩,
            ⟨(some 71), .mov (.t 88), none⟩] (some [0, 1, 5, 6, 7, 8, 9, 69, 70, 71])))))))))))
    .skip)))
  (.seq (.reg [⟨(some 89), .mov (.t 5), none⟩,
      ⟨(some 90), .mov (.t 5), none⟩,
      ⟨(some 91), .mov (.t 8), none⟩,
      ⟨(some 92), .mov (.t 5), none⟩,
      ⟨(some 93), .u1 .nilchk (.t 92), none⟩,
      ⟨(some 94), .u1 (.faddr 0) (.t 93), none⟩,
      ⟨(some 95), .u1 (.faddr 2) (.t 94), none⟩,
      ⟨(some 96), .u1 (.load none) (.t 95), none⟩,
      ⟨(some 97), .call (.c (.fn 45 [] [])) [(.t 96)], none⟩,
      ⟨(some 98), .u1 .nilchk (.t 89), none⟩,
      ⟨(some 99), .u1 (.faddr 17) (.t 98), none⟩,
      ⟨none, .b2 (.store 1) (.t 99) (.t 91), none⟩,
      ⟨(some 100), .u1 .nilchk (.t 90), none⟩,
      ⟨(some 101), .u1 (.faddr 18) (.t 100), none⟩,
      ⟨none, .b2 (.store 1) (.t 101) (.t 97), none⟩] (some [1, 5, 6, 7]))
  (.seq (.reg [⟨(some 102), .mov (.t 5), none⟩,
      ⟨(some 103), .mov (.t 5), none⟩,
      ⟨(some 104), .mov (.t 6), none⟩,
      ⟨(some 105), .mov (.t 1), none⟩,
      ⟨(some 106), .o3 (.bslice 1 [(.t 105)]), none⟩,
      ⟨(some 107), .b2 (.append 1) (.t 104) (.t 106), none⟩,
      ⟨(some 108), .mov (.t 7), none⟩,
      ⟨(some 109), .o3 (.bslice 1 [(.c (.int .i64 0))]), none⟩,
      ⟨(some 110), .b2 (.append 1) (.t 108) (.t 109), none⟩,
      ⟨(some 111), .u1 .nilchk (.t 102), none⟩,
      ⟨(some 112), .u1 (.faddr 15) (.t 111), none⟩,
      ⟨none, .b2 (.store 1) (.t 112) (.t 107), none⟩,
      ⟨(some 113), .u1 .nilchk (.t 103), none⟩,
      ⟨(some 114), .u1 (.faddr 16) (.t 113), none⟩,
      ⟨none, .b2 (.store 1) (.t 114) (.t 110), none⟩] (some [5]))
  (.seq (.reg [⟨(some 115), .mov (.t 5), none⟩,
      ⟨(some 116), .u1 .nilchk (.t 115), none⟩,
      ⟨(some 117), .u1 (.faddr 14) (.t 116), none⟩,
      ⟨none, .b2 (.store 1) (.t 117) (.c (.bool false)), none⟩] (some [5]))
  (.seq (.reg [⟨(some 118), .mov (.t 5), none⟩,
      ⟨(some 4), .mov (.t 118), none⟩] (some [4]))
  .ret)))))))))))) }
noncomputable def a33 : AFn := { ntmps := 31, results := [.cell 4 (some 4), .tmp 5], body :=
  (.seq (.reg [⟨(some 4), .o3 (.alloc [(.int .i64 0), (.int .i64 0), (.int .i64 0), (.int .i64 0)]), none⟩,
      ⟨(some 5), .mov (.c (.bool false)), none⟩] (some [0, 1, 4]))
  (.seq (.seq (.reg [⟨(some 9), .mov (.t 0), none⟩,
      ⟨(some 10), .u1 .nilchk (.t 9), none⟩,
      ⟨(some 11), .u1 (.faddr 0) (.t 10), none⟩,
      ⟨(some 12), .u1 (.faddr 2) (.t 11), none⟩,
      ⟨(some 13), .u1 (.load none) (.t 12), none⟩,
      ⟨(some 14), .u1 (.len .sl) (.t 13), none⟩,
      ⟨(some 15), .mov (.c (.int .i64 0)), none⟩] (some [1, 4, 13, 14, 15]))
  (.block 0
    (.loop
      (.seq (.reg [⟨(some 16), .b2 (.bin .lss) (.t 15) (.t 14), none⟩] (some [1, 4, 13, 14, 15, 16]))
      (.seq (.cond (.t 16)
        .skip
        (.exit 0))
      (.seq (.block 1
        (.seq (.reg [⟨(some 17), .mov (.t 15), none⟩,
            ⟨(some 18), .b2 (.iaddr 5) (.t 13) (.t 15), none⟩,
            ⟨(some 19), .u1 (.load (some 5)) (.t 18), none⟩,
            ⟨(some 7), .o3 (.alloc [(.int .i64 0), .nilsl, .nilsl, .nilsl, .nilsl]), none⟩,
            ⟨(some 6), .mov (.t 17), none⟩,
            ⟨none, .b2 (.store 5) (.t 7) (.t 19), none⟩] (some [1, 4, 6, 7, 13, 14, 15]))
        (.seq (.reg [⟨(some 20), .u1 (.faddr 1) (.t 7), none⟩,
            ⟨(some 21), .u1 (.load none) (.t 20), none⟩,
            ⟨(some 22), .mov (.t 1), none⟩,
            ⟨(some 23), .call (.c (.fn 49 [] [])) [(.t 21), (.t 22)], none⟩,
            ⟨(some 8), .mov (.t 23), none⟩] (some [1, 4, 6, 8, 13, 14, 15]))
        (.seq (.reg [⟨(some 24), .mov (.t 8), none⟩,
            ⟨(some 25), .b2 (.bin .geq) (.t 24) (.c (.int .i64 0)), none⟩] (some [1, 4, 6, 8, 13, 14, 15, 25]))
        (.cond (.t 25)
          (.seq (.reg [⟨(some 26), .mov (.t 6), none⟩,
              ⟨(some 27), .mov (.t 8), none⟩,
              ⟨(some 28), .o3 (.build [(.int .i64 0), (.int .i64 0), (.int .i64 0), (.int .i64 0)] [(2, 1, (.t 26)), (3, 1, (.t 27))]), none⟩,
              ⟨none, .b2 (.store 4) (.t 4) (.t 28), none⟩,
              ⟨(some 5), .mov (.c (.bool true)), none⟩] (some [4, 5]))
          .ret)
          .skip)))))
      (.reg [⟨(some 29), .b2 (.bin .add) (.t 15) (.c (.int .i64 1)), none⟩,
          ⟨(some 15), .mov (.t 29), none⟩] (some [1, 4, 13, 14, 15]))))))))
  (.seq (.reg [⟨(some 30), .o3 (.build [(.int .i64 0), (.int .i64 0), (.int .i64 0), (.int .i64 0)] []), none⟩,
      ⟨none, .b2 (.store 4) (.t 4) (.t 30), none⟩,
      ⟨(some 5), .mov (.c (.bool false)), none⟩] (some [4, 5]))
  .ret))) }
noncomputable def a35 : AFn := { ntmps := 9, results := [], body :=
  (.seq (.reg [⟨(some 4), .mov (.t 0), none⟩,
      ⟨(some 5), .u2 (.un .not) (.t 4), none⟩] (some [1, 5]))
  (.cond (.t 5)
    (.reg [⟨(some 6), .mov (.t 1), none⟩,
        ⟨(some 7), .o3 (.build [(.int .i64 0)] [(0, 1, (.t 6))]), none⟩,
        ⟨(some 8), .u2 (.mkIf 105) (.t 7), none⟩,
        ⟨none, .u2 .panic (.t 8), none⟩] (some []))
    .skip)) }
noncomputable def a37 : AFn := { ntmps := 18, results := [.tmp 2], body :=
  (.seq (.reg [⟨(some 1), .u2 .box (.t 0), none⟩,
      ⟨(some 2), .mov (.c (.int .i64 0)), none⟩] (some [1]))
  (.seq (.reg [⟨(some 6), .u1 (.load (some 7)) (.t 1), none⟩,
      ⟨(some 7), .call (.c (.fn 50 [] [])) [(.t 6)], none⟩,
      ⟨(some 5), .mov (.t 7), none⟩,
      ⟨(some 8), .u1 (.extract 0) (.t 5), none⟩,
      ⟨(some 9), .u1 (.extract 1) (.t 5), none⟩,
      ⟨(some 3), .mov (.t 8), none⟩,
      ⟨(some 4), .mov (.t 9), none⟩] (some [3, 4]))
  (.seq (.seq (.reg [⟨(some 10), .mov (.t 4), none⟩,
      ⟨(some 11), .b2 (.eq false (.simple .int)) (.t 10) (.c (.int .i64 0)), none⟩,
      ⟨(some 12), .mov (.t 11), none⟩,
      ⟨(some 13), .mov (.t 3), (some (12, true))⟩,
      ⟨(some 14), .u1 (.len .sl) (.t 13), (some (12, true))⟩,
      ⟨(some 15), .b2 (.bin .gtr) (.t 14) (.c (.int .i64 0)), (some (12, true))⟩,
      ⟨(some 16), .o3 (.pick (.t 12) (.t 15) (.c (.bool false))), none⟩] (some [4, 16]))
  (.cond (.t 16)
    (.seq (.reg [⟨(some 2), .mov (.c (.int .i64 10)), none⟩] (some [2]))
    .ret)
    .skip))
  (.seq (.reg [⟨(some 17), .mov (.t 4), none⟩,
      ⟨(some 2), .mov (.t 17), none⟩] (some [2]))
  .ret)))) }
noncomputable def a38 : AFn := { ntmps := 18, results := [], body :=
  (.seq (.reg [⟨(some 5), .o3 .recover, none⟩,
      ⟨(some 2), .mov (.t 5), none⟩] (some [0, 1, 2]))
  (.seq (.reg [⟨(some 6), .mov (.t 2), none⟩,
      ⟨(some 7), .b2 (.eq true (.simple .iface)) (.t 6) (.c .nilif), none⟩] (some [0, 1, 2, 7]))
  (.cond (.t 7)
    (.seq (.reg [⟨(some 9), .mov (.t 2), none⟩,
        ⟨(some 10), .u2 (.tassert 105 (.agg [(.int .i64 0)])) (.t 9), none⟩,
        ⟨(some 8), .mov (.t 10), none⟩,
        ⟨(some 11), .u1 (.extract 0) (.t 8), none⟩,
        ⟨(some 12), .u1 (.extract 1) (.t 8), none⟩,
        ⟨(some 3), .o3 (.alloc [(.int .i64 0)]), none⟩,
        ⟨none, .b2 (.store 1) (.t 3) (.t 11), none⟩,
        ⟨(some 4), .mov (.t 12), none⟩] (some [0, 1, 2, 3, 4]))
    (.seq (.seq (.reg [⟨(some 13), .mov (.t 4), none⟩,
        ⟨(some 14), .u2 (.un .not) (.t 13), none⟩] (some [0, 1, 2, 3, 14]))
    (.cond (.t 14)
      (.reg [⟨(some 15), .mov (.t 2), none⟩,
          ⟨none, .u2 .panic (.t 15), none⟩] (some [0, 1, 3]))
      .skip))
    (.dreg [⟨⟨(some 16), .u1 (.faddr 0) (.t 3), none⟩, .soft⟩,
        ⟨⟨(some 17), .u1 (.load none) (.t 16), none⟩, .look [0, 1]⟩,
        ⟨⟨none, .b2 (.store 1) (.t 0) (.c .nilptr), none⟩, .hard true⟩,
        ⟨⟨none, .b2 (.store 1) (.t 1) (.t 17), none⟩, .hard true⟩] (some []))))
    .skip))) }
noncomputable def a39 : AFn := { ntmps := 15, results := [.cell 2 (some 7), .tmp 3], body :=
  (.seq (.reg [⟨(some 1), .u2 .box (.t 0), none⟩,
      ⟨(some 2), .o3 (.alloc [(.str []), .nilsl, .nilsl, .nilsl, (.bool false), .nilsl, .nilsl]), none⟩,
      ⟨(some 3), .mov (.c (.int .i64 0)), none⟩] (some [1, 2]))
  (.seq (.seq (.reg [⟨(some 5), .u1 (.load (some 7)) (.t 1), none⟩,
      ⟨(some 6), .call (.c (.fn 51 [] [])) [(.t 5)], none⟩,
      ⟨(some 4), .mov (.t 6), none⟩] (some [1, 2, 4]))
  (.seq (.reg [⟨(some 7), .mov (.t 4), none⟩,
      ⟨(some 8), .b2 (.eq true (.simple .int)) (.t 7) (.c (.int .i64 0)), none⟩] (some [1, 2, 4, 8]))
  (.cond (.t 8)
    (.seq (.reg [⟨(some 9), .o3 (.build [(.str []), .nilsl, .nilsl, .nilsl, (.bool false), .nilsl, .nilsl] []), none⟩,
        ⟨(some 10), .mov (.t 4), none⟩,
        ⟨none, .b2 (.store 7) (.t 2) (.t 9), none⟩,
        ⟨(some 3), .mov (.t 10), none⟩] (some [2, 3]))
    .ret)
    .skip)))
  (.seq (.reg [⟨(some 11), .u1 (.load (some 7)) (.t 1), none⟩,
      ⟨(some 12), .call (.c (.fn 53 [] [])) [(.t 11)], none⟩,
      ⟨(some 13), .call (.c (.fn 52 [] [])) [(.t 12)], none⟩,
      ⟨(some 14), .u1 (.fld 9 (some 7)) (.t 13), none⟩,
      ⟨none, .b2 (.store 7) (.t 2) (.t 14), none⟩,
      ⟨(some 3), .mov (.c (.int .i64 0)), none⟩] (some [2, 3]))
  .ret))) }
noncomputable def a40 : AFn := { ntmps := 19, results := [], body :=
  (.seq (.reg [⟨(some 2), .u2 .box (.t 0), none⟩,
      ⟨(some 3), .u2 .box (.t 1), none⟩] (some [2, 3]))
  (.seq (.reg [⟨(some 4), .o3 (.alloc [(.int .i64 0)]), none⟩,
      ⟨none, .b2 (.store 1) (.t 4) (.c (.int .i64 0)), none⟩] (some [2, 3, 4]))
  (.seq (.reg [⟨(some 8), .u1 (.load none) (.t 2), none⟩,
      ⟨(some 9), .o3 .mkMap, none⟩,
      ⟨(some 10), .u1 .nilchk (.t 8), none⟩,
      ⟨(some 11), .u1 (.faddr 1) (.t 10), none⟩,
      ⟨none, .b2 (.store 1) (.t 11) (.t 9), none⟩] (some [2, 3, 4]))
  (.seq (.reg [⟨(some 5), .o3 (.alloc [.nilfn]), none⟩] (some [2, 3, 4, 5]))
  (.seq (.reg [⟨(some 6), .o3 (.alloc [.nilfn]), none⟩] (some [2, 3, 4, 5, 6]))
  (.seq (.reg [⟨(some 7), .o3 (.alloc [.nilfn]), none⟩] (some [2, 3, 4, 5, 6, 7]))
  (.seq (.reg [⟨(some 12), .o3 (.mkFn 54 [] [(.t 4), (.t 5), (.t 7)]), none⟩,
      ⟨none, .b2 (.store 1) (.t 5) (.t 12), none⟩] (some [2, 3, 4, 5, 6, 7]))
  (.seq (.reg [⟨(some 13), .o3 (.mkFn 55 [] [(.t 4), (.t 5), (.t 6)]), none⟩,
      ⟨none, .b2 (.store 1) (.t 6) (.t 13), none⟩] (some [2, 3, 4, 5, 6, 7]))
  (.seq (.reg [⟨(some 14), .o3 (.mkFn 56 [] [(.t 2), (.t 4), (.t 5), (.t 7), (.t 6)]), none⟩,
      ⟨none, .b2 (.store 1) (.t 7) (.t 14), none⟩] (some [3, 7]))
  (.reg [⟨(some 15), .u1 (.load none) (.t 7), none⟩,
      ⟨(some 16), .u1 (.load (some 7)) (.t 3), none⟩,
      ⟨(some 17), .o3 (.build [(.int .i64 0), .nilsl, .nilsl, .nilsl, .nilsl] []), none⟩,
      ⟨(some 18), .call (.t 15) [(.t 16), (.c (.int .i64 (-1))), (.t 17)], none⟩] (some []))))))))))) }
noncomputable def a41 : AFn := { ntmps := 113, results := [], body :=
  (.seq (.dreg [⟨⟨(some 16), .mov (.t 1), none⟩, .soft⟩,
      ⟨⟨(some 17), .u1 .nilchk (.t 16), none⟩, .soft⟩,
      ⟨⟨(some 18), .u1 (.faddr 15) (.t 17), none⟩, .soft⟩,
      ⟨⟨(some 19), .u1 (.load none) (.t 18), none⟩, .look [0]⟩,
      ⟨⟨(some 20), .mov (.t 1), none⟩, .soft⟩,
      ⟨⟨(some 21), .u1 .nilchk (.t 20), none⟩, .soft⟩,
      ⟨⟨(some 22), .u1 (.faddr 15) (.t 21), none⟩, .soft⟩,
      ⟨⟨(some 23), .u1 (.load none) (.t 22), none⟩, .look [0]⟩,
      ⟨⟨(some 24), .u1 (.len .sl) (.t 23), none⟩, .soft⟩,
      ⟨⟨(some 25), .b2 (.bin .sub) (.t 24) (.c (.int .i64 1)), none⟩, .soft⟩,
      ⟨⟨(some 26), .o3 (.slc false 1 (.t 19) none (some (.t 25)) none), none⟩, .soft⟩,
      ⟨⟨(some 4), .mov (.t 26), none⟩, .soft⟩] (some [0, 1, 4]))
  (.seq (.reg [⟨(some 27), .mov (.t 1), none⟩,
      ⟨(some 28), .u1 .nilchk (.t 27), none⟩,
      ⟨(some 29), .u1 (.faddr 0) (.t 28), none⟩,
      ⟨(some 30), .u1 (.faddr 2) (.t 29), none⟩,
      ⟨(some 31), .u1 (.load none) (.t 30), none⟩,
      ⟨(some 32), .u1 (.len .sl) (.t 31), none⟩,
      ⟨(some 33), .mov (.c (.int .i64 0)), none⟩] (some [0, 1, 4, 31, 32, 33]))
  (.block 0
    (.loop
      (.seq (.reg [⟨(some 34), .b2 (.bin .lss) (.t 33) (.t 32), none⟩] (some [0, 1, 4, 31, 32, 33, 34]))
      (.seq (.cond (.t 34)
        .skip
        (.exit 0))
      (.seq (.block 1
        (.seq (.reg [⟨(some 35), .mov (.t 33), none⟩,
            ⟨(some 36), .b2 (.iaddr 5) (.t 31) (.t 33), none⟩,
            ⟨(some 37), .u1 (.load (some 5)) (.t 36), none⟩,
            ⟨(some 6), .o3 (.alloc [(.int .i64 0), .nilsl, .nilsl, .nilsl, .nilsl]), none⟩,
            ⟨(some 5), .mov (.t 35), none⟩,
            ⟨none, .b2 (.store 5) (.t 6) (.t 37), none⟩] (some [0, 1, 4, 5, 6, 31, 32, 33]))
        (.seq (.reg [⟨(some 38), .u1 (.faddr 1) (.t 6), none⟩,
            ⟨(some 39), .u1 (.load none) (.t 38), none⟩,
            ⟨(some 40), .u1 (.len .sl) (.t 39), none⟩,
            ⟨(some 41), .mov (.c (.int .i64 0)), none⟩] (some [0, 1, 4, 5, 6, 31, 32, 33, 39, 40, 41]))
        (.block 2
          (.loop
            (.seq (.reg [⟨(some 42), .b2 (.bin .lss) (.t 41) (.t 40), none⟩] (some [0, 1, 4, 5, 6, 31, 32, 33, 39, 40, 41, 42]))
            (.seq (.cond (.t 42)
              .skip
              (.exit 2))
            (.seq (.block 3
              (.seq (.reg [⟨(some 43), .mov (.t 41), none⟩,
                  ⟨(some 44), .b2 (.iaddr 1) (.t 39) (.t 41), none⟩,
                  ⟨(some 45), .u1 (.load none) (.t 44), none⟩,
                  ⟨(some 7), .mov (.t 43), none⟩,
                  ⟨(some 8), .mov (.t 45), none⟩] (some [0, 1, 4, 5, 6, 7, 8, 31, 32, 33, 39, 40, 41]))
              (.seq (.reg [⟨(some 47), .mov (.t 1), none⟩,
                  ⟨(some 48), .mov (.t 8), none⟩,
                  ⟨(some 49), .call (.c (.fn 33 [] [])) [(.t 47), (.t 48)], none⟩,
                  ⟨(some 46), .mov (.t 49), none⟩,
                  ⟨(some 50), .u1 (.extract 0) (.t 46), none⟩,
                  ⟨(some 51), .u1 (.extract 1) (.t 46), none⟩,
                  ⟨(some 9), .o3 (.alloc [(.int .i64 0), (.int .i64 0), (.int .i64 0), (.int .i64 0)]), none⟩,
                  ⟨none, .b2 (.store 4) (.t 9) (.t 50), none⟩,
                  ⟨(some 10), .mov (.t 51), none⟩] (some [0, 1, 4, 5, 6, 7, 8, 9, 31, 32, 33, 39, 40, 41]))
              (.seq (.reg [⟨(some 52), .u1 (.faddr 2) (.t 9), none⟩,
                  ⟨(some 53), .u1 (.load none) (.t 52), none⟩,
                  ⟨(some 54), .mov (.t 5), none⟩,
                  ⟨(some 55), .b2 (.eq false (.simple .int)) (.t 53) (.t 54), none⟩,
                  ⟨(some 56), .mov (.t 55), none⟩,
                  ⟨(some 57), .u1 (.faddr 3) (.t 9), (some (56, true))⟩,
                  ⟨(some 58), .u1 (.load none) (.t 57), (some (56, true))⟩,
                  ⟨(some 59), .mov (.t 7), (some (56, true))⟩,
                  ⟨(some 60), .b2 (.eq false (.simple .int)) (.t 58) (.t 59), (some (56, true))⟩,
                  ⟨(some 61), .o3 (.pick (.t 56) (.t 60) (.c (.bool false))), none⟩,
                  ⟨(some 62), .call (.c (.fn 35 [] [])) [(.t 61), (.c (.int .i64 11))], none⟩] (some [0, 1, 4, 5, 6, 8, 31, 32, 33, 39, 40, 41]))
              (.seq (.reg [⟨(some 11), .mov (.c (.int .i64 0)), none⟩] (some [0, 1, 4, 5, 6, 8, 11, 31, 32, 33, 39, 40, 41]))
              (.seq (.seq (.reg [⟨(some 63), .mov (.t 4), none⟩,
                  ⟨(some 64), .u1 (.len .sl) (.t 63), none⟩,
                  ⟨(some 65), .mov (.c (.int .i64 0)), none⟩] (some [0, 1, 4, 5, 6, 8, 11, 31, 32, 33, 39, 40, 41, 63, 64, 65]))
              (.block 4
                (.loop
                  (.seq (.reg [⟨(some 66), .b2 (.bin .lss) (.t 65) (.t 64), none⟩] (some [0, 1, 4, 5, 6, 8, 11, 31, 32, 33, 39, 40, 41, 63, 64, 65, 66]))
                  (.seq (.cond (.t 66)
                    .skip
                    (.exit 4))
                  (.seq (.block 5
                    (.seq (.reg [⟨(some 67), .b2 (.iaddr 1) (.t 63) (.t 65), none⟩,
                        ⟨(some 68), .u1 (.load none) (.t 67), none⟩,
                        ⟨(some 13), .mov (.t 68), none⟩] (some [0, 1, 4, 5, 6, 8, 11, 13, 31, 32, 33, 39, 40, 41, 63, 64, 65]))
                    (.seq (.reg [⟨(some 70), .mov (.t 0), none⟩,
                        ⟨(some 71), .u1 .nilchk (.t 70), none⟩,
                        ⟨(some 72), .u1 (.faddr 0) (.t 71), none⟩,
                        ⟨(some 73), .u1 (.load none) (.t 72), none⟩,
                        ⟨(some 74), .mov (.t 13), none⟩,
                        ⟨(some 75), .b2 (.iaddr 1) (.t 73) (.t 74), none⟩,
                        ⟨(some 76), .u1 (.load none) (.t 75), none⟩,
                        ⟨(some 77), .mov (.t 8), none⟩,
                        ⟨(some 78), .call (.c (.fn 33 [] [])) [(.t 76), (.t 77)], none⟩,
                        ⟨(some 69), .mov (.t 78), none⟩,
                        ⟨(some 79), .u1 (.extract 0) (.t 69), none⟩,
                        ⟨(some 80), .u1 (.extract 1) (.t 69), none⟩,
                        ⟨(some 14), .o3 (.alloc [(.int .i64 0), (.int .i64 0), (.int .i64 0), (.int .i64 0)]), none⟩,
                        ⟨none, .b2 (.store 4) (.t 14) (.t 79), none⟩,
                        ⟨(some 15), .mov (.t 80), none⟩] (some [0, 1, 4, 5, 6, 8, 11, 13, 14, 15, 31, 32, 33, 39, 40, 41, 63, 64, 65]))
                    (.seq (.reg [⟨(some 81), .mov (.t 15), none⟩] (some [0, 1, 4, 5, 6, 8, 11, 13, 14, 31, 32, 33, 39, 40, 41, 63, 64, 65, 81]))
                    (.cond (.t 81)
                      (.dreg [⟨⟨(some 82), .mov (.t 0), none⟩, .soft⟩,
                          ⟨⟨(some 83), .u1 .nilchk (.t 82), none⟩, .soft⟩,
                          ⟨⟨(some 84), .u1 (.faddr 0) (.t 83), none⟩, .soft⟩,
                          ⟨⟨(some 85), .u1 (.load none) (.t 84), none⟩, .look [0]⟩,
                          ⟨⟨(some 86), .mov (.t 13), none⟩, .soft⟩,
                          ⟨⟨(some 87), .b2 (.iaddr 1) (.t 85) (.t 86), none⟩, .soft⟩,
                          ⟨⟨(some 88), .u1 (.load none) (.t 87), none⟩, .look [0]⟩,
                          ⟨⟨(some 89), .u1 .nilchk (.t 88), none⟩, .soft⟩,
                          ⟨⟨(some 90), .u1 (.faddr 0) (.t 89), none⟩, .soft⟩,
                          ⟨⟨(some 91), .u1 (.faddr 2) (.t 90), none⟩, .soft⟩,
                          ⟨⟨(some 92), .u1 (.load none) (.t 91), none⟩, .look [0]⟩,
                          ⟨⟨(some 93), .u1 (.faddr 2) (.t 14), none⟩, .soft⟩,
                          ⟨⟨(some 94), .u1 (.load none) (.t 93), none⟩, .look [0]⟩,
                          ⟨⟨(some 95), .b2 (.iaddr 5) (.t 92) (.t 94), none⟩, .soft⟩,
                          ⟨⟨(some 96), .u1 (.faddr 0) (.t 95), none⟩, .soft⟩,
                          ⟨⟨(some 97), .u1 (.load none) (.t 96), none⟩, .look [0]⟩,
                          ⟨⟨(some 11), .mov (.t 97), none⟩, .soft⟩] (some [0, 1, 4, 5, 6, 8, 11, 31, 32, 33, 39, 40, 41, 63, 64, 65]))
                      .skip)))))
                  (.reg [⟨(some 98), .b2 (.bin .add) (.t 65) (.c (.int .i64 1)), none⟩,
                      ⟨(some 65), .mov (.t 98), none⟩] (some [0, 1, 4, 5, 6, 8, 11, 31, 32, 33, 39, 40, 41, 63, 64, 65]))))))))
              (.seq (.reg [⟨(some 99), .u1 (.load (some 5)) (.t 6), none⟩,
                  ⟨(some 100), .call (.c (.fn 57 [] [])) [(.t 99)], none⟩] (some [0, 1, 4, 5, 6, 11, 31, 32, 33, 39, 40, 41, 100]))
              (.cond (.t 100)
                (.reg [⟨(some 101), .mov (.t 11), none⟩,
                    ⟨(some 102), .b2 (.eq false (.simple .int)) (.t 101) (.c (.int .i64 2)), none⟩,
                    ⟨(some 103), .mov (.t 102), none⟩,
                    ⟨(some 104), .mov (.t 11), (some (103, false))⟩,
                    ⟨(some 105), .b2 (.eq false (.simple .int)) (.t 104) (.c (.int .i64 3)), (some (103, false))⟩,
                    ⟨(some 106), .o3 (.pick (.t 103) (.c (.bool true)) (.t 105)), none⟩,
                    ⟨(some 107), .call (.c (.fn 35 [] [])) [(.t 106), (.c (.int .i64 11))], none⟩] (some [0, 1, 4, 5, 6, 31, 32, 33, 39, 40, 41]))
                (.reg [⟨(some 108), .mov (.t 11), none⟩,
                    ⟨(some 109), .b2 (.eq false (.simple .int)) (.t 108) (.c (.int .i64 0)), none⟩,
                    ⟨(some 110), .call (.c (.fn 35 [] [])) [(.t 109), (.c (.int .i64 11))], none⟩] (some [0, 1, 4, 5, 6, 31, 32, 33, 39, 40, 41]))))))))))
            (.reg [⟨(some 111), .b2 (.bin .add) (.t 41) (.c (.int .i64 1)), none⟩,
                ⟨(some 41), .mov (.t 111), none⟩] (some [0, 1, 4, 5, 6, 31, 32, 33, 39, 40, 41]))))))))))
      (.reg [⟨(some 112), .b2 (.bin .add) (.t 33) (.c (.int .i64 1)), none⟩,
          ⟨(some 33), .mov (.t 112), none⟩] (some [0, 1, 4, 31, 32, 33]))))))))) }
noncomputable def a42 : AFn := { ntmps := 193, results := [], body :=
  (.seq (.reg [⟨(some 16), .mov (.t 0), none⟩,
      ⟨(some 17), .u1 .nilchk (.t 16), none⟩,
      ⟨(some 18), .u1 (.faddr 0) (.t 17), none⟩,
      ⟨(some 19), .u1 (.load none) (.t 18), none⟩,
      ⟨(some 20), .mov (.t 1), none⟩,
      ⟨(some 21), .b2 (.iaddr 1) (.t 19) (.t 20), none⟩,
      ⟨(some 22), .u1 (.load none) (.t 21), none⟩,
      ⟨(some 4), .mov (.t 22), none⟩] (some [0, 1, 4]))
  (.seq (.reg [⟨(some 23), .mov (.t 4), none⟩,
      ⟨(some 24), .u1 .nilchk (.t 23), none⟩,
      ⟨(some 25), .u1 (.faddr 15) (.t 24), none⟩,
      ⟨(some 26), .u1 (.load none) (.t 25), none⟩,
      ⟨(some 27), .u1 (.len .sl) (.t 26), none⟩,
      ⟨(some 28), .b2 (.bin .sub) (.t 27) (.c (.int .i64 1)), none⟩,
      ⟨(some 5), .mov (.t 28), none⟩] (some [0, 1, 4, 5]))
  (.seq (.reg [⟨(some 29), .mov (.t 4), none⟩,
      ⟨(some 30), .u1 .nilchk (.t 29), none⟩,
      ⟨(some 31), .u1 (.faddr 0) (.t 30), none⟩,
      ⟨(some 32), .u1 (.faddr 2) (.t 31), none⟩,
      ⟨(some 33), .u1 (.load none) (.t 32), none⟩,
      ⟨(some 34), .u1 (.len .sl) (.t 33), none⟩,
      ⟨(some 35), .mov (.c (.int .i64 0)), none⟩] (some [0, 1, 4, 5, 33, 34, 35]))
  (.block 0
    (.loop
      (.seq (.reg [⟨(some 36), .b2 (.bin .lss) (.t 35) (.t 34), none⟩] (some [0, 1, 4, 5, 33, 34, 35, 36]))
      (.seq (.cond (.t 36)
        .skip
        (.exit 0))
      (.seq (.block 1
        (.seq (.reg [⟨(some 37), .b2 (.iaddr 5) (.t 33) (.t 35), none⟩,
            ⟨(some 38), .u1 (.load (some 5)) (.t 37), none⟩,
            ⟨(some 7), .o3 (.alloc [(.int .i64 0), .nilsl, .nilsl, .nilsl, .nilsl]), none⟩,
            ⟨none, .b2 (.store 5) (.t 7) (.t 38), none⟩] (some [0, 1, 4, 5, 7, 33, 34, 35]))
        (.seq (.seq (.reg [⟨(some 39), .u1 (.faddr 0) (.t 7), none⟩,
            ⟨(some 40), .u1 (.load none) (.t 39), none⟩,
            ⟨(some 41), .b2 (.eq false (.simple .int)) (.t 40) (.c (.int .i64 2)), none⟩,
            ⟨(some 42), .mov (.t 41), none⟩,
            ⟨(some 43), .u1 (.faddr 3) (.t 7), (some (42, true))⟩,
            ⟨(some 44), .u1 (.load none) (.t 43), (some (42, true))⟩,
            ⟨(some 45), .u1 (.len .sl) (.t 44), (some (42, true))⟩,
            ⟨(some 46), .b2 (.eq false (.simple .int)) (.t 45) (.c (.int .i64 1)), (some (42, true))⟩,
            ⟨(some 47), .o3 (.pick (.t 42) (.t 46) (.c (.bool false))), none⟩] (some [0, 1, 4, 5, 7, 33, 34, 35, 47]))
        (.cond (.t 47)
          (.reg [⟨(some 48), .mov (.t 0), none⟩,
              ⟨(some 49), .mov (.t 1), none⟩,
              ⟨(some 50), .u1 (.faddr 3) (.t 7), none⟩,
              ⟨(some 51), .u1 (.load none) (.t 50), none⟩,
              ⟨(some 52), .b2 (.iaddr 8) (.t 51) (.c (.int .i64 0)), none⟩,
              ⟨(some 53), .u1 (.load (some 8)) (.t 52), none⟩,
              ⟨(some 54), .call (.c (.fn 58 [] [])) [(.t 48), (.t 49), (.t 53)], none⟩] (some [0, 1, 4, 5, 7, 33, 34, 35]))
          .skip))
        (.seq (.seq (.reg [⟨(some 55), .u1 (.load (some 5)) (.t 7), none⟩,
            ⟨(some 56), .call (.c (.fn 57 [] [])) [(.t 55)], none⟩,
            ⟨(some 57), .u2 (.un .not) (.t 56), none⟩,
            ⟨(some 58), .mov (.t 57), none⟩,
            ⟨(some 59), .u1 (.faddr 4) (.t 7), (some (58, false))⟩,
            ⟨(some 60), .u1 (.load none) (.t 59), (some (58, false))⟩,
            ⟨(some 61), .u1 (.len .sl) (.t 60), (some (58, false))⟩,
            ⟨(some 62), .b2 (.eq false (.simple .int)) (.t 61) (.c (.int .i64 1)), (some (58, false))⟩,
            ⟨(some 63), .mov (.t 62), (some (58, false))⟩,
            ⟨(some 64), .u1 (.faddr 4) (.t 7), (some (63, true))⟩,
            ⟨(some 65), .u1 (.load none) (.t 64), (some (63, true))⟩,
            ⟨(some 66), .b2 (.iaddr 7) (.t 65) (.c (.int .i64 0)), (some (63, true))⟩,
            ⟨(some 67), .u1 (.faddr 1) (.t 66), (some (63, true))⟩,
            ⟨(some 68), .u1 (.load none) (.t 67), (some (63, true))⟩,
            ⟨(some 69), .u1 (.len .sl) (.t 68), (some (63, true))⟩,
            ⟨(some 70), .b2 (.eq false (.simple .int)) (.t 69) (.c (.int .i64 0)), (some (63, true))⟩,
            ⟨(some 71), .o3 (.pick (.t 63) (.t 70) (.c (.bool false))), (some (58, false))⟩,
            ⟨(some 72), .o3 (.pick (.t 58) (.c (.bool true)) (.t 71)), none⟩] (some [0, 1, 4, 5, 7, 33, 34, 35, 72]))
        (.cond (.t 72)
          (.exit 1)
          .skip))
        (.seq (.reg [⟨(some 73), .u1 (.faddr 1) (.t 7), none⟩,
            ⟨(some 74), .u1 (.load none) (.t 73), none⟩,
            ⟨(some 75), .u1 (.len .sl) (.t 74), none⟩,
            ⟨(some 76), .mov (.c (.int .i64 0)), none⟩] (some [0, 1, 4, 5, 33, 34, 35, 74, 75, 76]))
        (.block 2
          (.loop
            (.seq (.reg [⟨(some 77), .b2 (.bin .lss) (.t 76) (.t 75), none⟩] (some [0, 1, 4, 5, 33, 34, 35, 74, 75, 76, 77]))
            (.seq (.cond (.t 77)
              .skip
              (.exit 2))
            (.seq (.block 3
              (.seq (.reg [⟨(some 78), .b2 (.iaddr 1) (.t 74) (.t 76), none⟩,
                  ⟨(some 79), .u1 (.load none) (.t 78), none⟩,
                  ⟨(some 9), .mov (.t 79), none⟩] (some [0, 1, 4, 5, 9, 33, 34, 35, 74, 75, 76]))
              (.seq (.reg [⟨(some 80), .mov (.t 0), none⟩,
                  ⟨(some 81), .mov (.t 4), none⟩,
                  ⟨(some 82), .u1 .nilchk (.t 81), none⟩,
                  ⟨(some 83), .u1 (.faddr 15) (.t 82), none⟩,
                  ⟨(some 84), .u1 (.load none) (.t 83), none⟩,
                  ⟨(some 85), .mov (.t 5), none⟩,
                  ⟨(some 86), .o3 (.slc false 1 (.t 84) none (some (.t 85)) none), none⟩,
                  ⟨(some 87), .mov (.t 9), none⟩,
                  ⟨(some 88), .call (.c (.fn 59 [] [])) [(.t 80), (.t 86), (.t 87)], none⟩,
                  ⟨(some 10), .mov (.t 88), none⟩] (some [0, 1, 4, 5, 9, 10, 33, 34, 35, 74, 75, 76]))
              (.seq (.reg [⟨(some 89), .mov (.t 10), none⟩,
                  ⟨(some 90), .u1 (.len .sl) (.t 89), none⟩,
                  ⟨(some 91), .b2 (.bin .gtr) (.t 90) (.c (.int .i64 0)), none⟩,
                  ⟨(some 92), .call (.c (.fn 35 [] [])) [(.t 91), (.c (.int .i64 11))], none⟩] (some [0, 1, 4, 5, 9, 10, 33, 34, 35, 74, 75, 76]))
              (.seq (.reg [⟨(some 93), .mov (.t 10), none⟩,
                  ⟨(some 94), .mov (.t 10), none⟩,
                  ⟨(some 95), .u1 (.len .sl) (.t 94), none⟩,
                  ⟨(some 96), .b2 (.bin .sub) (.t 95) (.c (.int .i64 1)), none⟩,
                  ⟨(some 97), .b2 (.iaddr 1) (.t 93) (.t 96), none⟩,
                  ⟨(some 98), .u1 (.load none) (.t 97), none⟩,
                  ⟨(some 11), .mov (.t 98), none⟩] (some [0, 1, 4, 5, 9, 11, 33, 34, 35, 74, 75, 76]))
              (.seq (.dreg [⟨⟨(some 99), .mov (.t 0), none⟩, .soft⟩,
                  ⟨⟨(some 100), .mov (.t 4), none⟩, .soft⟩,
                  ⟨⟨(some 101), .u1 .nilchk (.t 100), none⟩, .soft⟩,
                  ⟨⟨(some 102), .u1 (.faddr 15) (.t 101), none⟩, .soft⟩,
                  ⟨⟨(some 103), .u1 (.load none) (.t 102), none⟩, .look [0]⟩,
                  ⟨⟨(some 104), .mov (.t 11), none⟩, .soft⟩,
                  ⟨⟨(some 105), .mov (.t 9), none⟩, .soft⟩,
                  ⟨⟨(some 106), .call (.c (.fn 60 [] [])) [(.t 99), (.t 103), (.t 104), (.t 105)], none⟩, .hard false⟩,
                  ⟨⟨(some 107), .mov (.t 0), none⟩, .soft⟩,
                  ⟨⟨(some 108), .mov (.t 4), none⟩, .soft⟩,
                  ⟨⟨(some 109), .u1 .nilchk (.t 108), none⟩, .soft⟩,
                  ⟨⟨(some 110), .u1 (.faddr 15) (.t 109), none⟩, .soft⟩,
                  ⟨⟨(some 111), .u1 (.load none) (.t 110), none⟩, .look [0, 1]⟩,
                  ⟨⟨(some 112), .mov (.t 5), none⟩, .soft⟩,
                  ⟨⟨(some 113), .mov (.t 9), none⟩, .soft⟩,
                  ⟨⟨(some 114), .call (.c (.fn 60 [] [])) [(.t 107), (.t 111), (.t 112), (.t 113)], none⟩, .hard false⟩,
                  ⟨⟨(some 12), .o3 (.alloc [(.int .i64 0), (.int .i64 0), (.int .i64 0)]), none⟩, .pre [(.int .i64 0), (.int .i64 0), (.int .i64 0)] [0, 1, 2]⟩,
                  ⟨⟨(some 13), .o3 (.alloc [(.int .i64 0), (.int .i64 0), (.int .i64 0)]), none⟩, .pre [(.int .i64 0), (.int .i64 0), (.int .i64 0)] [0, 1, 2]⟩,
                  ⟨⟨none, .b2 (.store 3) (.t 12) (.t 106), none⟩, .hard true⟩,
                  ⟨⟨none, .b2 (.store 3) (.t 13) (.t 114), none⟩, .hard true⟩] (some [0, 1, 4, 5, 11, 12, 13, 33, 34, 35, 74, 75, 76]))
              (.seq (.seq (.reg [⟨(some 115), .u1 (.faddr 0) (.t 12), none⟩,
                  ⟨(some 116), .u1 (.load none) (.t 115), none⟩,
                  ⟨(some 117), .b2 (.bin .lss) (.t 116) (.c (.int .i64 0)), none⟩] (some [0, 1, 4, 5, 11, 12, 13, 33, 34, 35, 74, 75, 76, 117]))
              (.cond (.t 117)
                (.exit 3)
                .skip))
              (.seq (.reg [⟨(some 118), .u1 (.faddr 0) (.t 13), none⟩,
                  ⟨(some 119), .u1 (.load none) (.t 118), none⟩,
                  ⟨(some 120), .b2 (.bin .geq) (.t 119) (.c (.int .i64 0)), none⟩,
                  ⟨(some 121), .mov (.t 120), none⟩,
                  ⟨(some 122), .mov (.t 0), (some (121, true))⟩,
                  ⟨(some 123), .u1 (.faddr 0) (.t 13), (some (121, true))⟩,
                  ⟨(some 124), .u1 (.load none) (.t 123), (some (121, true))⟩,
                  ⟨(some 125), .u1 (.faddr 0) (.t 12), (some (121, true))⟩,
                  ⟨(some 126), .u1 (.load none) (.t 125), (some (121, true))⟩,
                  ⟨(some 127), .call (.c (.fn 21 [] [])) [(.t 122), (.t 124), (.t 126)], (some (121, true))⟩,
                  ⟨(some 128), .o3 (.pick (.t 121) (.t 127) (.c (.bool false))), none⟩,
                  ⟨(some 129), .call (.c (.fn 35 [] [])) [(.t 128), (.c (.int .i64 11))], none⟩] (some [0, 1, 4, 5, 11, 12, 13, 33, 34, 35, 74, 75, 76]))
              (.seq (.reg [⟨(some 130), .mov (.t 5), none⟩,
                  ⟨(some 131), .o3 (.build [(.int .i64 0), (.int .i64 0)] [(0, 1, (.c (.int .i64 0))), (1, 1, (.t 130))]), none⟩,
                  ⟨(some 14), .o3 (.alloc [(.int .i64 0), (.int .i64 0)]), none⟩,
                  ⟨none, .b2 (.store 2) (.t 14) (.t 131), none⟩] (some [0, 1, 4, 5, 11, 12, 13, 14, 33, 34, 35, 74, 75, 76]))
              (.seq (.seq (.reg [⟨(some 132), .u1 (.faddr 1) (.t 13), none⟩,
                  ⟨(some 133), .u1 (.faddr 0) (.t 132), none⟩,
                  ⟨(some 134), .u1 (.load none) (.t 133), none⟩,
                  ⟨(some 135), .b2 (.bin .gtr) (.t 134) (.c (.int .i64 0)), none⟩] (some [0, 1, 4, 5, 11, 12, 13, 14, 33, 34, 35, 74, 75, 76, 135]))
              (.cond (.t 135)
                (.dreg [⟨⟨(some 136), .mov (.t 0), none⟩, .soft⟩,
                    ⟨⟨(some 137), .mov (.t 1), none⟩, .soft⟩,
                    ⟨⟨(some 138), .u1 (.load (some 2)) (.t 14), none⟩, .look [0]⟩,
                    ⟨⟨(some 139), .u1 (.faddr 1) (.t 13), none⟩, .soft⟩,
                    ⟨⟨(some 140), .u1 (.faddr 0) (.t 139), none⟩, .soft⟩,
                    ⟨⟨(some 141), .u1 (.load none) (.t 140), none⟩, .look [0]⟩,
                    ⟨⟨(some 142), .call (.c (.fn 48 [] [])) [(.t 136), (.t 137), (.t 138), (.t 141)], none⟩, .hard false⟩,
                    ⟨⟨(some 143), .u1 (.fld 0 none) (.t 142), none⟩, .soft⟩,
                    ⟨⟨(some 144), .u1 (.faddr 1) (.t 13), none⟩, .soft⟩,
                    ⟨⟨(some 145), .u1 (.faddr 1) (.t 144), none⟩, .soft⟩,
                    ⟨⟨(some 146), .u1 (.load none) (.t 145), none⟩, .look [0, 1]⟩,
                    ⟨⟨(some 147), .o3 (.build [(.int .i64 0), (.int .i64 0)] [(0, 1, (.t 143)), (1, 1, (.t 146))]), none⟩, .soft⟩,
                    ⟨⟨none, .b2 (.store 2) (.t 14) (.t 147), none⟩, .hard true⟩] (some [0, 1, 4, 5, 11, 12, 13, 14, 33, 34, 35, 74, 75, 76]))
                .skip))
              (.seq (.dreg [⟨⟨(some 148), .mov (.t 0), none⟩, .soft⟩,
                  ⟨⟨(some 149), .u1 .nilchk (.t 148), none⟩, .soft⟩,
                  ⟨⟨(some 150), .u1 (.faddr 0) (.t 149), none⟩, .soft⟩,
                  ⟨⟨(some 151), .u1 (.load none) (.t 150), none⟩, .look [0]⟩,
                  ⟨⟨(some 152), .u1 (.faddr 0) (.t 13), none⟩, .soft⟩,
                  ⟨⟨(some 153), .u1 (.load none) (.t 152), none⟩, .look [0]⟩,
                  ⟨⟨(some 154), .b2 (.iaddr 1) (.t 151) (.t 153), none⟩, .soft⟩,
                  ⟨⟨(some 155), .u1 (.load none) (.t 154), none⟩, .look [0]⟩,
                  ⟨⟨(some 156), .u1 .nilchk (.t 155), none⟩, .soft⟩,
                  ⟨⟨(some 157), .u1 (.faddr 16) (.t 156), none⟩, .soft⟩,
                  ⟨⟨(some 158), .u1 (.load none) (.t 157), none⟩, .look [0]⟩,
                  ⟨⟨(some 159), .mov (.t 0), none⟩, .soft⟩,
                  ⟨⟨(some 160), .u1 .nilchk (.t 159), none⟩, .soft⟩,
                  ⟨⟨(some 161), .u1 (.faddr 0) (.t 160), none⟩, .soft⟩,
                  ⟨⟨(some 162), .u1 (.load none) (.t 161), none⟩, .look [0]⟩,
                  ⟨⟨(some 163), .u1 (.faddr 0) (.t 12), none⟩, .soft⟩,
                  ⟨⟨(some 164), .u1 (.load none) (.t 163), none⟩, .look [0]⟩,
                  ⟨⟨(some 165), .b2 (.iaddr 1) (.t 162) (.t 164), none⟩, .soft⟩,
                  ⟨⟨(some 166), .u1 (.load none) (.t 165), none⟩, .look [0]⟩,
                  ⟨⟨(some 167), .u1 .nilchk (.t 166), none⟩, .soft⟩,
                  ⟨⟨(some 168), .u1 (.faddr 15) (.t 167), none⟩, .soft⟩,
                  ⟨⟨(some 169), .u1 (.load none) (.t 168), none⟩, .look [0]⟩,
                  ⟨⟨(some 170), .u1 (.len .sl) (.t 169), none⟩, .soft⟩,
                  ⟨⟨(some 171), .b2 (.bin .sub) (.t 170) (.c (.int .i64 1)), none⟩, .soft⟩,
                  ⟨⟨(some 172), .b2 (.iaddr 1) (.t 158) (.t 171), none⟩, .soft⟩,
                  ⟨⟨(some 173), .u1 (.load none) (.t 172), none⟩, .look [0]⟩,
                  ⟨⟨(some 15), .mov (.t 173), none⟩, .soft⟩] (some [0, 1, 4, 5, 11, 12, 14, 15, 33, 34, 35, 74, 75, 76]))
              (.dreg [⟨⟨(some 174), .mov (.t 0), none⟩, .soft⟩,
                  ⟨⟨(some 175), .mov (.t 1), none⟩, .soft⟩,
                  ⟨⟨(some 176), .u1 (.load (some 2)) (.t 14), none⟩, .look [0]⟩,
                  ⟨⟨(some 177), .mov (.t 15), none⟩, .soft⟩,
                  ⟨⟨(some 178), .call (.c (.fn 48 [] [])) [(.t 174), (.t 175), (.t 176), (.t 177)], none⟩, .hard false⟩,
                  ⟨⟨(some 179), .u1 (.fld 0 none) (.t 178), none⟩, .soft⟩,
                  ⟨⟨(some 180), .mov (.t 0), none⟩, .soft⟩,
                  ⟨⟨(some 181), .mov (.t 1), none⟩, .soft⟩,
                  ⟨⟨(some 182), .mov (.t 11), none⟩, .soft⟩,
                  ⟨⟨(some 183), .o3 (.build [(.int .i64 0), (.int .i64 0)] [(0, 1, (.c (.int .i64 0))), (1, 1, (.t 182))]), none⟩, .soft⟩,
                  ⟨⟨(some 184), .u1 (.faddr 1) (.t 12), none⟩, .soft⟩,
                  ⟨⟨(some 185), .u1 (.faddr 0) (.t 184), none⟩, .soft⟩,
                  ⟨⟨(some 186), .u1 (.load none) (.t 185), none⟩, .look [0, 1]⟩,
                  ⟨⟨(some 187), .call (.c (.fn 48 [] [])) [(.t 180), (.t 181), (.t 183), (.t 186)], none⟩, .hard true⟩,
                  ⟨⟨(some 188), .u1 (.fld 0 none) (.t 187), none⟩, .soft⟩,
                  ⟨⟨(some 189), .b2 (.eq false (.simple .int)) (.t 179) (.t 188), none⟩, .soft⟩,
                  ⟨⟨(some 190), .call (.c (.fn 35 [] [])) [(.t 189), (.c (.int .i64 11))], none⟩, .hard true⟩] (some [0, 1, 4, 5, 33, 34, 35, 74, 75, 76])))))))))))))
            (.reg [⟨(some 191), .b2 (.bin .add) (.t 76) (.c (.int .i64 1)), none⟩,
                ⟨(some 76), .mov (.t 191), none⟩] (some [0, 1, 4, 5, 33, 34, 35, 74, 75, 76]))))))))))))
      (.reg [⟨(some 192), .b2 (.bin .add) (.t 35) (.c (.int .i64 1)), none⟩,
          ⟨(some 35), .mov (.t 192), none⟩] (some [0, 1, 4, 5, 33, 34, 35])))))))))) }
end Go.Proofs.YtobfakjhhpbdmaaGreatDoor

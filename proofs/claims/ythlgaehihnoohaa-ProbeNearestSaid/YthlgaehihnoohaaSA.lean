/- The compact code of this seat's functions, printed by a program. -/
import Derived.Test.YthlgaehihnoohaaQD
import Derived.Sort.Defs
section
namespace Go.Q.S14
/- quiver/quiverlaw14.ProbeNearest -/
def b3 : AC :=
  (.seq (.reg [⟨(some 6), none, .mov (.con (.bool false))⟩])
  (.seq (.seq (.reg [⟨(some 17), none, .call 7 []⟩,
    ⟨(some 18), none, .un .not (.tmp 17)⟩])
  (.cond (.tmp 18)
   (.seq (.reg [⟨(some 6), none, .mov (.con (.bool false))⟩])
   .ret)
   .skip))
  (.seq (.reg [⟨(some 19), none, .mov (.tmp 0)⟩,
    ⟨(some 20), none, .call 8 [(.tmp 19)]⟩,
    ⟨(some 7), none, .mov (.tmp 20)⟩])
  (.seq (.seq (.reg [⟨(some 21), none, .mov (.tmp 1)⟩,
    ⟨(some 22), none, .len (.tmp 21)⟩,
    ⟨(some 23), none, .mov (.con (.int .i64 0))⟩])
  (.block 0 (.loop (.seq (.reg [⟨(some 24), none, .bin .lss (.tmp 23) (.tmp 22)⟩])
    (.seq (.cond (.tmp 24)
     .skip
     (.exit 0))
    (.seq (.block 1 (.seq (.reg [⟨(some 25), none, .mov (.tmp 23)⟩,
       ⟨(some 26), none, .iaddr 1 (.tmp 21) (.tmp 23)⟩,
       ⟨(some 27), none, .load false 1 (.tmp 26)⟩,
       ⟨(some 8), none, .mov (.tmp 25)⟩,
       ⟨(some 9), none, .mov (.tmp 27)⟩])
     (.seq (.seq (.reg [⟨(some 28), none, .mov (.tmp 8)⟩,
       ⟨(some 29), none, .bin .eql (.tmp 28) (.con (.int .i64 10))⟩])
     (.cond (.tmp 29)
      (.exit 0)
      .skip))
     (.seq (.reg [⟨(some 10), none, .mov (.con (.int .i64 1))⟩])
     (.seq (.seq (.reg [⟨(some 30), none, .mov (.tmp 2)⟩,
       ⟨(some 31), none, .len (.tmp 30)⟩,
       ⟨(some 32), none, .bin .gtr (.tmp 31) (.con (.int .i64 0))⟩])
     (.cond (.tmp 32)
      (.reg [⟨(some 33), none, .mov (.tmp 2)⟩,
        ⟨(some 34), none, .mov (.tmp 8)⟩,
        ⟨(some 35), none, .mov (.tmp 2)⟩,
        ⟨(some 36), none, .len (.tmp 35)⟩,
        ⟨(some 37), none, .bin .rem (.tmp 34) (.tmp 36)⟩,
        ⟨(some 38), none, .iaddr 1 (.tmp 33) (.tmp 37)⟩,
        ⟨(some 39), none, .load false 1 (.tmp 38)⟩,
        ⟨(some 10), none, .mov (.tmp 39)⟩])
      .skip))
     (.seq (.reg [⟨(some 40), none, .mov (.tmp 9)⟩,
       ⟨(some 41), none, .call 9 [(.tmp 40)]⟩,
       ⟨(some 11), none, .mov (.tmp 41)⟩])
     (.seq (.reg [⟨(some 43), none, .mov (.tmp 7)⟩,
       ⟨(some 44), none, .mov (.tmp 11)⟩,
       ⟨(some 45), none, .mov (.tmp 10)⟩,
       ⟨(some 46), none, .call 10 [(.tmp 43), (.tmp 44), (.tmp 45)]⟩,
       ⟨(some 42), none, .mov (.tmp 46)⟩,
       ⟨(some 47), none, .ext (.tmp 42) 0⟩,
       ⟨(some 48), none, .ext (.tmp 42) 1⟩,
       ⟨(some 12), none, .mov (.tmp 47)⟩,
       ⟨(some 13), none, .mov (.tmp 48)⟩])
     (.seq (.seq (.reg [⟨(some 49), none, .mov (.tmp 7)⟩,
       ⟨(some 50), none, .mov (.tmp 11)⟩,
       ⟨(some 51), none, .mov (.tmp 10)⟩,
       ⟨(some 52), none, .call 11 [(.tmp 49), (.tmp 50), (.tmp 51)]⟩,
       ⟨(some 14), none, .mov (.tmp 52)⟩])
     (.seq (.reg [⟨(some 53), none, .mov (.tmp 14)⟩,
       ⟨(some 54), none, .bin .neq (.tmp 53) (.con (.int .i64 0))⟩])
     (.cond (.tmp 54)
      (.seq (.seq (.reg [⟨(some 55), none, .mov (.tmp 13)⟩,
        ⟨(some 56), none, .mov (.tmp 14)⟩,
        ⟨(some 57), none, .bin .neq (.tmp 55) (.tmp 56)⟩,
        ⟨(some 58), none, .mov (.tmp 57)⟩,
        ⟨(some 59), (some (58, false)), .mov (.tmp 12)⟩,
        ⟨(some 60), (some (58, false)), .len (.tmp 59)⟩,
        ⟨(some 61), (some (58, false)), .bin .neq (.tmp 60) (.con (.int .i64 0))⟩,
        ⟨(some 62), none, .pick (.tmp 58) (.con (.bool true)) (.tmp 61)⟩])
      (.cond (.tmp 62)
       (.seq (.reg [⟨(some 6), none, .mov (.con (.bool false))⟩])
       .ret)
       .skip))
      (.exit 1))
      .skip)))
     (.seq (.reg [⟨(some 63), none, .mov (.tmp 7)⟩,
       ⟨(some 64), none, .mov (.tmp 11)⟩,
       ⟨(some 65), none, .mov (.tmp 10)⟩,
       ⟨(some 66), none, .call 12 [(.tmp 63), (.tmp 64), (.tmp 65)]⟩,
       ⟨(some 15), none, .mov (.tmp 66)⟩])
     (.seq (.seq (.reg [⟨(some 67), none, .mov (.tmp 13)⟩,
       ⟨(some 68), none, .bin .neq (.tmp 67) (.con (.int .i64 0))⟩,
       ⟨(some 69), none, .mov (.tmp 68)⟩,
       ⟨(some 70), (some (69, false)), .mov (.tmp 12)⟩,
       ⟨(some 71), (some (69, false)), .len (.tmp 70)⟩,
       ⟨(some 72), (some (69, false)), .mov (.tmp 15)⟩,
       ⟨(some 73), (some (69, false)), .len (.tmp 72)⟩,
       ⟨(some 74), (some (69, false)), .bin .neq (.tmp 71) (.tmp 73)⟩,
       ⟨(some 75), none, .pick (.tmp 69) (.con (.bool true)) (.tmp 74)⟩])
     (.cond (.tmp 75)
      (.seq (.reg [⟨(some 6), none, .mov (.con (.bool false))⟩])
      .ret)
      .skip))
     (.seq (.reg [⟨(some 76), none, .mov (.tmp 15)⟩,
       ⟨(some 77), none, .len (.tmp 76)⟩,
       ⟨(some 78), none, .mov (.con (.int .i64 0))⟩])
     (.block 2 (.loop (.seq (.reg [⟨(some 79), none, .bin .lss (.tmp 78) (.tmp 77)⟩])
       (.seq (.cond (.tmp 79)
        .skip
        (.exit 2))
       (.seq (.block 3 (.seq (.reg [⟨(some 80), none, .mov (.tmp 78)⟩,
          ⟨(some 16), none, .mov (.tmp 80)⟩])
        (.seq (.regd [⟨[⟨⟨(some 81), none, .mov (.tmp 12)⟩, true, false, false, 0, [], none⟩,
          ⟨⟨(some 82), none, .mov (.tmp 16)⟩, true, false, false, 0, [], none⟩,
          ⟨⟨(some 83), none, .iaddr 1 (.tmp 81) (.tmp 82)⟩, true, false, false, 0, [], none⟩,
          ⟨⟨(some 84), none, .load false 1 (.tmp 83)⟩, false, false, false, 0, [], none⟩,
          ⟨⟨(some 85), none, .mov (.tmp 15)⟩, true, false, false, 0, [], none⟩,
          ⟨⟨(some 86), none, .mov (.tmp 16)⟩, true, false, false, 0, [], none⟩,
          ⟨⟨(some 87), none, .iaddr 1 (.tmp 85) (.tmp 86)⟩, true, false, false, 0, [], none⟩,
          ⟨⟨(some 88), none, .load false 1 (.tmp 87)⟩, false, false, false, 0, [], none⟩], 0, [⟨(some 89), none, .bin .neq (.tmp 84) (.tmp 88)⟩]⟩])
        (.cond (.tmp 89)
         (.seq (.reg [⟨(some 6), none, .mov (.con (.bool false))⟩])
         .ret)
         .skip))))
       (.reg [⟨(some 90), none, .bin .add (.tmp 78) (.con (.int .i64 1))⟩,
         ⟨(some 78), none, .mov (.tmp 90)⟩])))))))))))))))))
    (.reg [⟨(some 91), none, .bin .add (.tmp 23) (.con (.int .i64 1))⟩,
      ⟨(some 23), none, .mov (.tmp 91)⟩])))))))
  (.seq (.reg [⟨(some 6), none, .mov (.con (.bool true))⟩])
  .ret)))))
def g3 : Fn := ⟨3, 92, [.tmp 6], b3⟩
/- quiver/quiverlaw14.wakes -/
def b7 : AC :=
  (.seq (.reg [⟨(some 0), none, .mov (.con (.bool false))⟩])
  (.seq (.reg [⟨(some 9), none, .lit 1 [(.con (.int .i32 0))]⟩,
    ⟨(some 10), none, .lit 1 [(.con (.int .i32 10))]⟩,
    ⟨(some 11), none, .lit 1 [(.con (.int .i32 20))]⟩,
    ⟨(some 12), none, .lit 1 [(.tmp 9), (.tmp 10), (.tmp 11)]⟩,
    ⟨(some 1), none, .mov (.tmp 12)⟩])
  (.seq (.reg [⟨(some 13), none, .lit 1 [(.con (.int .i32 1))]⟩,
    ⟨(some 14), none, .build [(.int .u64 0), .nilS] [(0, 1, (.con (.int .u64 1))), (1, 1, (.tmp 13))]⟩,
    ⟨(some 15), none, .lit 1 [(.con (.int .i32 9))]⟩,
    ⟨(some 16), none, .build [(.int .u64 0), .nilS] [(0, 1, (.con (.int .u64 2))), (1, 1, (.tmp 15))]⟩,
    ⟨(some 17), none, .lit 1 [(.con (.int .i32 12))]⟩,
    ⟨(some 18), none, .build [(.int .u64 0), .nilS] [(0, 1, (.con (.int .u64 3))), (1, 1, (.tmp 17))]⟩,
    ⟨(some 19), none, .lit 1 [(.con (.int .i32 22))]⟩,
    ⟨(some 20), none, .build [(.int .u64 0), .nilS] [(0, 1, (.con (.int .u64 4))), (1, 1, (.tmp 19))]⟩,
    ⟨(some 21), none, .lit 2 [(.tmp 14), (.tmp 16), (.tmp 18), (.tmp 20)]⟩,
    ⟨(some 2), none, .mov (.tmp 21)⟩])
  (.seq (.reg [⟨(some 23), none, .mov (.tmp 2)⟩,
    ⟨(some 24), none, .mov (.tmp 1)⟩,
    ⟨(some 25), none, .lit 1 [(.con (.int .i32 6))]⟩,
    ⟨(some 26), none, .build [.nilS, (.int .i64 0)] [(0, 1, (.tmp 25)), (1, 1, (.con (.int .i64 3)))]⟩,
    ⟨(some 27), none, .build [.nilS, (.int .i64 0), (.int .u64 0), (.int .i64 0)] [(0, 2, (.tmp 26)), (3, 1, (.con (.int .i64 1)))]⟩,
    ⟨(some 28), none, .call 15 [(.tmp 23), (.tmp 24), (.tmp 27)]⟩,
    ⟨(some 22), none, .mov (.tmp 28)⟩,
    ⟨(some 29), none, .ext (.tmp 22) 0⟩,
    ⟨(some 30), none, .ext (.tmp 22) 1⟩,
    ⟨(some 3), none, .mov (.tmp 29)⟩,
    ⟨(some 4), none, .mov (.tmp 30)⟩])
  (.seq (.reg [⟨(some 32), none, .mov (.tmp 1)⟩,
    ⟨(some 33), none, .lit 1 [(.con (.int .i32 6))]⟩,
    ⟨(some 34), none, .call 10 [(.tmp 32), (.tmp 33), (.con (.int .i64 2))]⟩,
    ⟨(some 31), none, .mov (.tmp 34)⟩,
    ⟨(some 35), none, .ext (.tmp 31) 0⟩,
    ⟨(some 36), none, .ext (.tmp 31) 1⟩,
    ⟨(some 5), none, .mov (.tmp 35)⟩,
    ⟨(some 6), none, .mov (.tmp 36)⟩])
  (.seq (.reg [⟨(some 38), none, .mov (.tmp 2)⟩,
    ⟨(some 39), none, .lit 1 [(.con (.int .i32 6))]⟩,
    ⟨(some 40), none, .build [.nilS, (.int .i64 0)] [(0, 1, (.tmp 39)), (1, 1, (.con (.int .i64 3)))]⟩,
    ⟨(some 41), none, .build [.nilS, (.int .i64 0), (.int .u64 0), (.int .i64 0)] [(0, 2, (.tmp 40)), (3, 1, (.con (.int .i64 1)))]⟩,
    ⟨(some 42), none, .call 15 [(.tmp 38), (.con .nilS), (.tmp 41)]⟩,
    ⟨(some 37), none, .mov (.tmp 42)⟩,
    ⟨(some 43), none, .ext (.tmp 37) 0⟩,
    ⟨(some 44), none, .ext (.tmp 37) 1⟩,
    ⟨(some 7), none, .mov (.tmp 43)⟩,
    ⟨(some 8), none, .mov (.tmp 44)⟩])
  (.seq (.reg [⟨(some 45), none, .mov (.tmp 4)⟩,
    ⟨(some 46), none, .bin .eql (.tmp 45) (.con (.int .i64 0))⟩,
    ⟨(some 47), none, .mov (.tmp 46)⟩,
    ⟨(some 48), (some (47, true)), .mov (.tmp 6)⟩,
    ⟨(some 49), (some (47, true)), .bin .eql (.tmp 48) (.con (.int .i64 0))⟩,
    ⟨(some 50), none, .pick (.tmp 47) (.tmp 49) (.con (.bool false))⟩,
    ⟨(some 51), none, .mov (.tmp 50)⟩,
    ⟨(some 52), (some (51, true)), .mov (.tmp 8)⟩,
    ⟨(some 53), (some (51, true)), .bin .eql (.tmp 52) (.con (.int .i64 240))⟩,
    ⟨(some 54), none, .pick (.tmp 51) (.tmp 53) (.con (.bool false))⟩,
    ⟨(some 55), none, .mov (.tmp 54)⟩,
    ⟨(some 56), (some (55, true)), .mov (.tmp 3)⟩,
    ⟨(some 57), (some (55, true)), .len (.tmp 56)⟩,
    ⟨(some 58), (some (55, true)), .bin .eql (.tmp 57) (.con (.int .i64 2))⟩,
    ⟨(some 59), none, .pick (.tmp 55) (.tmp 58) (.con (.bool false))⟩,
    ⟨(some 60), none, .mov (.tmp 59)⟩,
    ⟨(some 61), (some (60, true)), .mov (.tmp 3)⟩,
    ⟨(some 62), (some (60, true)), .iaddr 2 (.tmp 61) (.con (.int .i64 0))⟩,
    ⟨(some 63), (some (60, true)), .load true 2 (.tmp 62)⟩,
    ⟨(some 64), (some (60, true)), .build [(.int .u64 0), (.int .u64 0)] [(0, 1, (.con (.int .u64 2))), (1, 1, (.con (.int .u64 9)))]⟩,
    ⟨(some 65), (some (60, true)), .eqA false [.int, .int] (.tmp 63) (.tmp 64)⟩,
    ⟨(some 66), none, .pick (.tmp 60) (.tmp 65) (.con (.bool false))⟩,
    ⟨(some 67), none, .mov (.tmp 66)⟩,
    ⟨(some 68), (some (67, true)), .mov (.tmp 5)⟩,
    ⟨(some 69), (some (67, true)), .len (.tmp 68)⟩,
    ⟨(some 70), (some (67, true)), .bin .eql (.tmp 69) (.con (.int .i64 2))⟩,
    ⟨(some 71), none, .pick (.tmp 67) (.tmp 70) (.con (.bool false))⟩,
    ⟨(some 72), none, .mov (.tmp 71)⟩,
    ⟨(some 73), (some (72, true)), .mov (.tmp 5)⟩,
    ⟨(some 74), (some (72, true)), .iaddr 1 (.tmp 73) (.con (.int .i64 0))⟩,
    ⟨(some 75), (some (72, true)), .load false 1 (.tmp 74)⟩,
    ⟨(some 76), (some (72, true)), .bin .eql (.tmp 75) (.con (.int .i64 1))⟩,
    ⟨(some 77), none, .pick (.tmp 72) (.tmp 76) (.con (.bool false))⟩,
    ⟨(some 0), none, .mov (.tmp 77)⟩])
  .ret)))))))
def g7 : Fn := ⟨0, 78, [.tmp 0], b7⟩
/- quiver/quiverlaw14.vecs -/
def b8 : AC :=
  (.seq (.reg [⟨(some 2), none, .mov (.con .nilS)⟩])
  (.seq (.reg [⟨(some 3), none, .mov (.con .nilS)⟩])
  (.seq (.seq (.reg [⟨(some 6), none, .mov (.tmp 0)⟩,
    ⟨(some 7), none, .len (.tmp 6)⟩,
    ⟨(some 8), none, .mov (.con (.int .i64 0))⟩])
  (.block 0 (.loop (.seq (.reg [⟨(some 9), none, .bin .lss (.tmp 8) (.tmp 7)⟩])
    (.seq (.cond (.tmp 9)
     .skip
     (.exit 0))
    (.seq (.block 1 (.seq (.reg [⟨(some 10), none, .mov (.tmp 8)⟩,
       ⟨(some 11), none, .iaddr 1 (.tmp 6) (.tmp 8)⟩,
       ⟨(some 12), none, .load false 1 (.tmp 11)⟩,
       ⟨(some 4), none, .mov (.tmp 10)⟩,
       ⟨(some 5), none, .mov (.tmp 12)⟩])
     (.seq (.reg [⟨(some 13), none, .mov (.tmp 4)⟩,
       ⟨(some 14), none, .bin .leq (.tmp 13) (.con (.int .i64 6))⟩])
     (.cond (.tmp 14)
      (.reg [⟨(some 15), none, .mov (.tmp 3)⟩,
        ⟨(some 16), none, .mov (.tmp 5)⟩,
        ⟨(some 17), none, .call 9 [(.tmp 16)]⟩,
        ⟨(some 18), none, .lit 1 [(.tmp 17)]⟩,
        ⟨(some 19), none, .append 1 24 (.tmp 15) (.tmp 18)⟩,
        ⟨(some 3), none, .mov (.tmp 19)⟩])
      .skip))))
    (.reg [⟨(some 20), none, .bin .add (.tmp 8) (.con (.int .i64 1))⟩,
      ⟨(some 8), none, .mov (.tmp 20)⟩])))))))
  (.seq (.reg [⟨(some 21), none, .mov (.tmp 3)⟩,
    ⟨(some 2), none, .mov (.tmp 21)⟩])
  .ret))))
def g8 : Fn := ⟨1, 22, [.tmp 2], b8⟩
/- quiver/quiverlaw14.vec -/
def b9 : AC :=
  (.seq (.reg [⟨(some 2), none, .mov (.con .nilS)⟩])
  (.seq (.reg [⟨(some 3), none, .lit 1 []⟩,
    ⟨(some 4), none, .mov (.tmp 0)⟩,
    ⟨(some 5), none, .mov (.tmp 0)⟩,
    ⟨(some 6), none, .len (.tmp 5)⟩,
    ⟨(some 7), none, .min [(.tmp 6), (.con (.int .i64 5))]⟩,
    ⟨(some 8), none, .slice 1 (.tmp 4) none (some (.tmp 7))⟩,
    ⟨(some 9), none, .append 1 4 (.tmp 3) (.tmp 8)⟩,
    ⟨(some 2), none, .mov (.tmp 9)⟩])
  .ret))
def g9 : Fn := ⟨1, 10, [.tmp 2], b9⟩
/- quiver/probe.Nearest -/
def b10 : AC :=
  (.seq (.reg [⟨(some 6), none, .mov (.con .nilS)⟩,
    ⟨(some 7), none, .mov (.con (.int .i64 0))⟩])
  (.seq (.seq (.reg [⟨(some 14), none, .mov (.tmp 2)⟩,
    ⟨(some 15), none, .call 21 [(.tmp 14)]⟩,
    ⟨(some 8), none, .mov (.tmp 15)⟩])
  (.seq (.reg [⟨(some 16), none, .mov (.tmp 8)⟩,
    ⟨(some 17), none, .bin .neq (.tmp 16) (.con (.int .i64 0))⟩])
  (.cond (.tmp 17)
   (.seq (.reg [⟨(some 18), none, .mov (.tmp 8)⟩,
     ⟨(some 6), none, .mov (.con .nilS)⟩,
     ⟨(some 7), none, .mov (.tmp 18)⟩])
   .ret)
   .skip)))
  (.seq (.seq (.reg [⟨(some 19), none, .mov (.tmp 1)⟩,
    ⟨(some 20), none, .call 22 [(.tmp 19)]⟩,
    ⟨(some 9), none, .mov (.tmp 20)⟩])
  (.seq (.reg [⟨(some 21), none, .mov (.tmp 9)⟩,
    ⟨(some 22), none, .bin .neq (.tmp 21) (.con (.int .i64 0))⟩])
  (.cond (.tmp 22)
   (.seq (.reg [⟨(some 23), none, .mov (.tmp 9)⟩,
     ⟨(some 6), none, .mov (.con .nilS)⟩,
     ⟨(some 7), none, .mov (.tmp 23)⟩])
   .ret)
   .skip)))
  (.seq (.seq (.reg [⟨(some 24), none, .mov (.tmp 0)⟩,
    ⟨(some 25), none, .call 23 [(.tmp 24)]⟩,
    ⟨(some 10), none, .mov (.tmp 25)⟩])
  (.seq (.reg [⟨(some 26), none, .mov (.tmp 10)⟩,
    ⟨(some 27), none, .bin .neq (.tmp 26) (.con (.int .i64 0))⟩])
  (.cond (.tmp 27)
   (.seq (.reg [⟨(some 28), none, .mov (.tmp 10)⟩,
     ⟨(some 6), none, .mov (.con .nilS)⟩,
     ⟨(some 7), none, .mov (.tmp 28)⟩])
   .ret)
   .skip)))
  (.seq (.seq (.reg [⟨(some 29), none, .mov (.tmp 0)⟩,
    ⟨(some 30), none, .iaddr 1 (.tmp 29) (.con (.int .i64 0))⟩,
    ⟨(some 31), none, .load false 1 (.tmp 30)⟩,
    ⟨(some 32), none, .len (.tmp 31)⟩,
    ⟨(some 33), none, .mov (.tmp 1)⟩,
    ⟨(some 34), none, .len (.tmp 33)⟩,
    ⟨(some 35), none, .bin .neq (.tmp 32) (.tmp 34)⟩])
  (.cond (.tmp 35)
   (.seq (.reg [⟨(some 6), none, .mov (.con .nilS)⟩,
     ⟨(some 7), none, .mov (.con (.int .i64 151))⟩])
   .ret)
   .skip))
  (.seq (.reg [⟨(some 36), none, .mov (.tmp 1)⟩,
    ⟨(some 37), none, .build [.nilS, (.int .i64 0)] [(0, 1, (.tmp 36))]⟩,
    ⟨(some 38), none, .mov (.tmp 2)⟩,
    ⟨(some 39), none, .build [.nilS, (.int .i64 0), (.int .u64 0), (.int .i64 0)] [(0, 2, (.tmp 37)), (3, 1, (.tmp 38))]⟩,
    ⟨(some 40), none, .mov (.tmp 0)⟩,
    ⟨(some 41), none, .build [.nilS, (.int .i64 0), (.int .u64 0), (.int .i64 0), .nilS] [(0, 4, (.tmp 39)), (4, 1, (.tmp 40))]⟩,
    ⟨(some 11), none, .alloc (.agg [.nilS, (.int .i64 0), (.int .u64 0), (.int .i64 0), .nilS])⟩,
    ⟨none, none, .store 5 (.tmp 11) (.tmp 41)⟩])
  (.seq (.reg [⟨(some 12), none, .alloc .nilS⟩])
  (.seq (.seq (.reg [⟨(some 42), none, .load true 5 (.tmp 11)⟩,
    ⟨(some 43), none, .call 24 [(.tmp 42)]⟩])
  (.block 0 (.rangeF (.tmp 43) [44]
    (.reg [⟨(some 13), none, .mov (.tmp 44)⟩])
    (.block 1 (.reg [⟨(some 45), none, .load false 1 (.tmp 12)⟩,
       ⟨(some 46), none, .mov (.tmp 13)⟩,
       ⟨(some 47), none, .lit 1 [(.tmp 46)]⟩,
       ⟨(some 48), none, .append 1 8 (.tmp 45) (.tmp 47)⟩,
       ⟨none, none, .store 1 (.tmp 12) (.tmp 48)⟩])))))
  (.seq (.reg [⟨(some 49), none, .load false 1 (.tmp 12)⟩,
    ⟨(some 6), none, .mov (.tmp 49)⟩,
    ⟨(some 7), none, .mov (.con (.int .i64 0))⟩])
  .ret)))))))))
def g10 : Fn := ⟨3, 50, [.tmp 6, .tmp 7], b10⟩
/- quiver/quiverref14.NearestError -/
def b11 : AC :=
  (.seq (.reg [⟨(some 6), none, .mov (.con (.int .i64 0))⟩])
  (.seq (.seq (.reg [⟨(some 7), none, .mov (.tmp 2)⟩,
    ⟨(some 8), none, .bin .lss (.tmp 7) (.con (.int .i64 1))⟩,
    ⟨(some 9), none, .mov (.tmp 8)⟩,
    ⟨(some 10), (some (9, false)), .mov (.tmp 2)⟩,
    ⟨(some 11), (some (9, false)), .bin .gtr (.tmp 10) (.con (.int .i64 1048576))⟩,
    ⟨(some 12), none, .pick (.tmp 9) (.con (.bool true)) (.tmp 11)⟩])
  (.cond (.tmp 12)
   (.seq (.reg [⟨(some 6), none, .mov (.con (.int .i64 2))⟩])
   .ret)
   .skip))
  (.seq (.seq (.reg [⟨(some 13), none, .mov (.tmp 1)⟩,
    ⟨(some 14), none, .call 25 [(.tmp 13)]⟩,
    ⟨(some 15), none, .un .not (.tmp 14)⟩])
  (.cond (.tmp 15)
   (.seq (.reg [⟨(some 6), none, .mov (.con (.int .i64 150))⟩])
   .ret)
   .skip))
  (.seq (.reg [⟨(some 16), none, .mov (.tmp 0)⟩,
    ⟨(some 17), none, .mov (.tmp 1)⟩,
    ⟨(some 18), none, .call 26 [(.tmp 16), (.tmp 17)]⟩,
    ⟨(some 6), none, .mov (.tmp 18)⟩])
  .ret))))
def g11 : Fn := ⟨3, 19, [.tmp 6], b11⟩
/- quiver/quiverref14.Nearest -/
def b12 : AC :=
  (.seq (.reg [⟨(some 6), none, .mov (.con .nilS)⟩])
  (.seq (.reg [⟨(some 7), none, .mov (.con .nilS)⟩])
  (.seq (.block 0 (.loop (.seq (.seq (.reg [⟨(some 10), none, .mov (.tmp 7)⟩,
      ⟨(some 11), none, .len (.tmp 10)⟩,
      ⟨(some 12), none, .mov (.tmp 2)⟩,
      ⟨(some 13), none, .mov (.tmp 0)⟩,
      ⟨(some 14), none, .len (.tmp 13)⟩,
      ⟨(some 15), none, .min [(.tmp 12), (.tmp 14)]⟩,
      ⟨(some 16), none, .bin .lss (.tmp 11) (.tmp 15)⟩])
    (.cond (.tmp 16)
     .skip
     (.exit 0)))
    (.block 1 (.seq (.reg [⟨(some 8), none, .mov (.con (.int .i64 (-1)))⟩])
     (.seq (.seq (.reg [⟨(some 17), none, .mov (.tmp 0)⟩,
       ⟨(some 18), none, .len (.tmp 17)⟩,
       ⟨(some 19), none, .mov (.con (.int .i64 0))⟩])
     (.block 2 (.loop (.seq (.reg [⟨(some 20), none, .bin .lss (.tmp 19) (.tmp 18)⟩])
       (.seq (.cond (.tmp 20)
        .skip
        (.exit 2))
       (.seq (.block 3 (.seq (.reg [⟨(some 21), none, .mov (.tmp 19)⟩,
          ⟨(some 9), none, .mov (.tmp 21)⟩])
        (.seq (.seq (.regd [⟨[⟨⟨(some 22), none, .mov (.tmp 7)⟩, true, false, false, 0, [], none⟩,
          ⟨⟨(some 23), none, .mov (.tmp 9)⟩, true, false, false, 0, [], none⟩], 0, [⟨(some 24), none, .call 27 [(.tmp 22), (.tmp 23)]⟩,
          ⟨(some 25), none, .mov (.tmp 24)⟩,
          ⟨(some 26), (some (25, false)), .mov (.tmp 8)⟩,
          ⟨(some 27), (some (25, false)), .bin .geq (.tmp 26) (.con (.int .i64 0))⟩,
          ⟨(some 28), (some (25, false)), .mov (.tmp 27)⟩]⟩,
         ⟨[⟨⟨(some 29), (some (28, true)), .mov (.tmp 0)⟩, true, false, false, 0, [], none⟩,
          ⟨⟨(some 30), (some (28, true)), .mov (.tmp 9)⟩, true, false, false, 0, [], none⟩,
          ⟨⟨(some 31), (some (28, true)), .iaddr 1 (.tmp 29) (.tmp 30)⟩, true, false, false, 0, [], none⟩,
          ⟨⟨(some 32), (some (28, true)), .load false 1 (.tmp 31)⟩, false, false, false, 0, [], none⟩,
          ⟨⟨(some 33), (some (28, true)), .mov (.tmp 1)⟩, true, false, false, 0, [], none⟩,
          ⟨⟨(some 34), (some (28, true)), .call 28 [(.tmp 32), (.tmp 33)]⟩, false, false, false, 0, [], none⟩,
          ⟨⟨(some 35), (some (28, true)), .mov (.tmp 0)⟩, true, false, false, 0, [], none⟩,
          ⟨⟨(some 36), (some (28, true)), .mov (.tmp 8)⟩, true, false, false, 0, [], none⟩,
          ⟨⟨(some 37), (some (28, true)), .iaddr 1 (.tmp 35) (.tmp 36)⟩, true, false, false, 0, [], none⟩,
          ⟨⟨(some 38), (some (28, true)), .load false 1 (.tmp 37)⟩, false, false, false, 0, [], none⟩,
          ⟨⟨(some 39), (some (28, true)), .mov (.tmp 1)⟩, true, false, false, 0, [], none⟩], 0, [⟨(some 40), (some (28, true)), .call 28 [(.tmp 38), (.tmp 39)]⟩,
          ⟨(some 41), (some (28, true)), .bin .geq (.tmp 34) (.tmp 40)⟩,
          ⟨(some 42), (some (25, false)), .pick (.tmp 28) (.tmp 41) (.con (.bool false))⟩,
          ⟨(some 43), none, .pick (.tmp 25) (.con (.bool true)) (.tmp 42)⟩]⟩])
        (.cond (.tmp 43)
         (.exit 3)
         .skip))
        (.reg [⟨(some 44), none, .mov (.tmp 9)⟩,
          ⟨(some 8), none, .mov (.tmp 44)⟩]))))
       (.reg [⟨(some 45), none, .bin .add (.tmp 19) (.con (.int .i64 1))⟩,
         ⟨(some 19), none, .mov (.tmp 45)⟩])))))))
     (.reg [⟨(some 46), none, .mov (.tmp 7)⟩,
       ⟨(some 47), none, .mov (.tmp 8)⟩,
       ⟨(some 48), none, .lit 1 [(.tmp 47)]⟩,
       ⟨(some 49), none, .append 1 8 (.tmp 46) (.tmp 48)⟩,
       ⟨(some 7), none, .mov (.tmp 49)⟩])))))))
  (.seq (.reg [⟨(some 50), none, .mov (.tmp 7)⟩,
    ⟨(some 6), none, .mov (.tmp 50)⟩])
  .ret))))
def g12 : Fn := ⟨3, 51, [.tmp 6], b12⟩
/- quiver/probe.Rows -/
def b15 : AC :=
  (.seq (.reg [⟨(some 5), none, .box (.tmp 2)⟩,
    ⟨(some 6), none, .mov (.con .nilS)⟩,
    ⟨(some 7), none, .mov (.con (.int .i64 0))⟩])
  (.seq (.seq (.reg [⟨(some 18), none, .load true 4 (.tmp 5)⟩,
    ⟨(some 19), none, .call 29 [(.tmp 18)]⟩,
    ⟨(some 8), none, .mov (.tmp 19)⟩])
  (.seq (.reg [⟨(some 20), none, .mov (.tmp 8)⟩,
    ⟨(some 21), none, .bin .neq (.tmp 20) (.con (.int .i64 0))⟩])
  (.cond (.tmp 21)
   (.seq (.reg [⟨(some 22), none, .mov (.tmp 8)⟩,
     ⟨(some 6), none, .mov (.con .nilS)⟩,
     ⟨(some 7), none, .mov (.tmp 22)⟩])
   .ret)
   .skip)))
  (.seq (.seq (.reg [⟨(some 23), none, .mov (.tmp 1)⟩,
    ⟨(some 24), none, .call 23 [(.tmp 23)]⟩,
    ⟨(some 9), none, .mov (.tmp 24)⟩])
  (.seq (.reg [⟨(some 25), none, .mov (.tmp 9)⟩,
    ⟨(some 26), none, .bin .neq (.tmp 25) (.con (.int .i64 0))⟩])
  (.cond (.tmp 26)
   (.seq (.reg [⟨(some 27), none, .mov (.tmp 9)⟩,
     ⟨(some 6), none, .mov (.con .nilS)⟩,
     ⟨(some 7), none, .mov (.tmp 27)⟩])
   .ret)
   .skip)))
  (.seq (.seq (.reg [⟨(some 28), none, .mov (.tmp 0)⟩,
    ⟨(some 29), none, .call 30 [(.tmp 28), (.con (.fn 31 []))]⟩])
  (.cond (.tmp 29)
   (.seq (.reg [⟨(some 6), none, .mov (.con .nilS)⟩,
     ⟨(some 7), none, .mov (.con (.int .i64 170))⟩])
   .ret)
   .skip))
  (.seq (.reg [⟨(some 30), none, .faddr (.tmp 5) 0⟩,
    ⟨(some 31), none, .faddr (.tmp 30) 0⟩,
    ⟨(some 32), none, .load false 1 (.tmp 31)⟩,
    ⟨(some 33), none, .len (.tmp 32)⟩,
    ⟨(some 10), none, .alloc (.int .i64 0)⟩,
    ⟨none, none, .store 1 (.tmp 10) (.tmp 33)⟩])
  (.seq (.seq (.regd [⟨[⟨⟨(some 34), none, .mov (.tmp 1)⟩, true, false, false, 0, [], none⟩,
    ⟨⟨(some 35), none, .iaddr 1 (.tmp 34) (.con (.int .i64 0))⟩, true, false, false, 0, [], none⟩,
    ⟨⟨(some 36), none, .load false 1 (.tmp 35)⟩, false, false, false, 0, [], none⟩,
    ⟨⟨(some 37), none, .len (.tmp 36)⟩, true, false, false, 0, [], none⟩,
    ⟨⟨(some 38), none, .load false 1 (.tmp 10)⟩, false, false, false, 0, [], none⟩], 0, [⟨(some 39), none, .bin .neq (.tmp 37) (.tmp 38)⟩,
    ⟨(some 40), none, .mov (.tmp 39)⟩]⟩,
   ⟨[⟨⟨(some 41), (some (40, false)), .mov (.tmp 0)⟩, true, false, false, 0, [], none⟩,
    ⟨⟨(some 42), (some (40, false)), .mkfn 33 [(.tmp 10)]⟩, true, false, false, 0, [], none⟩], 0, [⟨(some 43), (some (40, false)), .call 30 [(.tmp 41), (.tmp 42)]⟩,
    ⟨(some 44), none, .pick (.tmp 40) (.con (.bool true)) (.tmp 43)⟩]⟩])
  (.cond (.tmp 44)
   (.seq (.reg [⟨(some 6), none, .mov (.con .nilS)⟩,
     ⟨(some 7), none, .mov (.con (.int .i64 151))⟩])
   .ret)
   .skip))
  (.seq (.reg [⟨(some 45), none, .mkmap⟩,
    ⟨(some 11), none, .alloc .nilM⟩,
    ⟨none, none, .store 1 (.tmp 11) (.tmp 45)⟩])
  (.seq (.seq (.reg [⟨(some 46), none, .load true 4 (.tmp 5)⟩,
    ⟨(some 47), none, .mov (.tmp 1)⟩,
    ⟨(some 48), none, .build [.nilS, (.int .i64 0), (.int .u64 0), (.int .i64 0), .nilS] [(0, 4, (.tmp 46)), (4, 1, (.tmp 47))]⟩,
    ⟨(some 49), none, .call 24 [(.tmp 48)]⟩])
  (.block 0 (.rangeF (.tmp 49) [50]
    (.reg [⟨(some 12), none, .mov (.tmp 50)⟩])
    (.block 1 (.reg [⟨(some 51), none, .load false 1 (.tmp 11)⟩,
       ⟨(some 52), none, .mov (.tmp 12)⟩,
       ⟨none, none, .mupd (.one .int) (.tmp 51) (.tmp 52) (.con (.bool true))⟩])))))
  (.seq (.reg [⟨(some 13), none, .mov (.con .nilS)⟩])
  (.seq (.seq (.reg [⟨(some 53), none, .mov (.tmp 0)⟩,
    ⟨(some 54), none, .len (.tmp 53)⟩,
    ⟨(some 55), none, .mov (.con (.int .i64 0))⟩])
  (.block 2 (.loop (.seq (.reg [⟨(some 56), none, .bin .lss (.tmp 55) (.tmp 54)⟩])
    (.seq (.cond (.tmp 56)
     .skip
     (.exit 2))
    (.seq (.block 3 (.seq (.reg [⟨(some 57), none, .iaddr 2 (.tmp 53) (.tmp 55)⟩,
       ⟨(some 58), none, .load true 2 (.tmp 57)⟩,
       ⟨(some 15), none, .alloc (.agg [(.int .u64 0), .nilS])⟩,
       ⟨none, none, .store 2 (.tmp 15) (.tmp 58)⟩])
     (.seq (.reg [⟨(some 60), none, .mov (.tmp 1)⟩,
       ⟨(some 61), none, .faddr (.tmp 15) 1⟩,
       ⟨(some 62), none, .load false 1 (.tmp 61)⟩,
       ⟨(some 63), none, .call 18 [(.tmp 60), (.tmp 62)]⟩,
       ⟨(some 59), none, .mov (.tmp 63)⟩,
       ⟨(some 64), none, .ext (.tmp 59) 0⟩,
       ⟨(some 65), none, .ext (.tmp 59) 1⟩,
       ⟨(some 16), none, .mov (.tmp 64)⟩,
       ⟨(some 17), none, .mov (.tmp 65)⟩])
     (.seq (.reg [⟨(some 66), none, .mov (.tmp 17)⟩,
       ⟨(some 67), none, .bin .eql (.tmp 66) (.con (.int .i64 0))⟩,
       ⟨(some 68), none, .mov (.tmp 67)⟩,
       ⟨(some 69), (some (68, true)), .load false 1 (.tmp 11)⟩,
       ⟨(some 70), (some (68, true)), .mov (.tmp 16)⟩,
       ⟨(some 71), (some (68, true)), .mget false (.one .int) (.bool false) (.tmp 69) (.tmp 70)⟩,
       ⟨(some 72), none, .pick (.tmp 68) (.tmp 71) (.con (.bool false))⟩])
     (.cond (.tmp 72)
      (.reg [⟨(some 73), none, .mov (.tmp 13)⟩,
        ⟨(some 74), none, .load true 2 (.tmp 15)⟩,
        ⟨(some 75), none, .lit 2 [(.tmp 74)]⟩,
        ⟨(some 76), none, .append 2 32 (.tmp 73) (.tmp 75)⟩,
        ⟨(some 13), none, .mov (.tmp 76)⟩])
      .skip)))))
    (.reg [⟨(some 77), none, .bin .add (.tmp 55) (.con (.int .i64 1))⟩,
      ⟨(some 55), none, .mov (.tmp 77)⟩])))))))
  (.seq (.reg [⟨(some 78), none, .mov (.tmp 13)⟩,
    ⟨(some 79), none, .faddr (.tmp 5) 0⟩,
    ⟨(some 80), none, .load true 2 (.tmp 79)⟩,
    ⟨(some 81), none, .call 19 [(.tmp 78), (.tmp 80)]⟩,
    ⟨(some 82), none, .ext (.tmp 81) 0⟩,
    ⟨(some 83), none, .ext (.tmp 81) 1⟩,
    ⟨(some 6), none, .mov (.tmp 82)⟩,
    ⟨(some 7), none, .mov (.tmp 83)⟩])
  .ret)))))))))))
def g15 : Fn := ⟨3, 84, [.tmp 6, .tmp 7], b15⟩
/- quiver/vec.Compare -/
def b16 : AC :=
  (.seq (.reg [⟨(some 2), none, .box (.tmp 0)⟩,
    ⟨(some 3), none, .box (.tmp 1)⟩,
    ⟨(some 4), none, .mov (.con (.int .i64 0))⟩])
  (.seq (.regd [⟨[⟨⟨(some 5), none, .faddr (.tmp 2) 1⟩, true, false, false, 0, [], none⟩,
    ⟨⟨(some 6), none, .load false 1 (.tmp 5)⟩, false, false, false, 0, [], none⟩,
    ⟨⟨(some 7), none, .faddr (.tmp 3) 1⟩, true, false, false, 0, [], none⟩,
    ⟨⟨(some 8), none, .load false 1 (.tmp 7)⟩, false, false, false, 0, [], none⟩,
    ⟨⟨(some 9), none, .call 35 [(.tmp 6), (.tmp 8)]⟩, false, false, false, 0, [], none⟩,
    ⟨⟨(some 10), none, .faddr (.tmp 2) 0⟩, true, false, false, 0, [], none⟩,
    ⟨⟨(some 11), none, .load false 1 (.tmp 10)⟩, false, false, false, 0, [], none⟩,
    ⟨⟨(some 12), none, .faddr (.tmp 3) 0⟩, true, false, false, 0, [], none⟩,
    ⟨⟨(some 13), none, .load false 1 (.tmp 12)⟩, false, false, false, 0, [], none⟩], 0, [⟨(some 14), none, .call 35 [(.tmp 11), (.tmp 13)]⟩,
    ⟨(some 15), none, .lit 1 [(.tmp 9), (.tmp 14)]⟩,
    ⟨(some 16), none, .call 34 [(.tmp 15)]⟩,
    ⟨(some 4), none, .mov (.tmp 16)⟩]⟩])
  .ret))
def g16 : Fn := ⟨2, 17, [.tmp 4], b16⟩
/- quiver/vec.Dist -/
def b17 : AC :=
  (.seq (.reg [⟨(some 4), none, .mov (.con (.int .u64 0))⟩,
    ⟨(some 5), none, .mov (.con (.int .i64 0))⟩])
  (.seq (.seq (.reg [⟨(some 7), none, .mov (.tmp 0)⟩,
    ⟨(some 8), none, .mov (.tmp 1)⟩,
    ⟨(some 9), none, .lit 1 [(.tmp 7), (.tmp 8)]⟩,
    ⟨(some 10), none, .call 36 [(.tmp 9)]⟩,
    ⟨(some 6), none, .mov (.tmp 10)⟩])
  (.seq (.reg [⟨(some 11), none, .mov (.tmp 6)⟩,
    ⟨(some 12), none, .bin .neq (.tmp 11) (.con (.int .i64 0))⟩])
  (.cond (.tmp 12)
   (.seq (.reg [⟨(some 13), none, .mov (.tmp 6)⟩,
     ⟨(some 4), none, .mov (.con (.int .u64 0))⟩,
     ⟨(some 5), none, .mov (.tmp 13)⟩])
   .ret)
   .skip)))
  (.seq (.reg [⟨(some 14), none, .mov (.tmp 0)⟩,
    ⟨(some 15), none, .mov (.tmp 1)⟩,
    ⟨(some 16), none, .call 37 [(.tmp 14), (.tmp 15)]⟩,
    ⟨(some 4), none, .mov (.tmp 16)⟩,
    ⟨(some 5), none, .mov (.con (.int .i64 0))⟩])
  .ret)))
def g17 : Fn := ⟨2, 17, [.tmp 4, .tmp 5], b17⟩
/- quiver/vec.Nearest -/
def b18 : AC :=
  (.seq (.reg [⟨(some 4), none, .mov (.con (.int .i64 0))⟩,
    ⟨(some 5), none, .mov (.con (.int .i64 0))⟩])
  (.seq (.seq (.reg [⟨(some 11), none, .mov (.tmp 0)⟩,
    ⟨(some 12), none, .len (.tmp 11)⟩,
    ⟨(some 13), none, .bin .eql (.tmp 12) (.con (.int .i64 0))⟩])
  (.cond (.tmp 13)
   (.seq (.reg [⟨(some 4), none, .mov (.con (.int .i64 0))⟩,
     ⟨(some 5), none, .mov (.con (.int .i64 4))⟩])
   .ret)
   .skip))
  (.seq (.seq (.reg [⟨(some 14), none, .mov (.tmp 1)⟩,
    ⟨(some 15), none, .lit 1 [(.tmp 14)]⟩,
    ⟨(some 16), none, .mov (.tmp 0)⟩,
    ⟨(some 17), none, .append 1 24 (.tmp 15) (.tmp 16)⟩,
    ⟨(some 18), none, .call 36 [(.tmp 17)]⟩,
    ⟨(some 6), none, .mov (.tmp 18)⟩])
  (.seq (.reg [⟨(some 19), none, .mov (.tmp 6)⟩,
    ⟨(some 20), none, .bin .neq (.tmp 19) (.con (.int .i64 0))⟩])
  (.cond (.tmp 20)
   (.seq (.reg [⟨(some 21), none, .mov (.tmp 6)⟩,
     ⟨(some 4), none, .mov (.con (.int .i64 0))⟩,
     ⟨(some 5), none, .mov (.tmp 21)⟩])
   .ret)
   .skip)))
  (.seq (.reg [⟨(some 22), none, .mov (.tmp 0)⟩,
    ⟨(some 23), none, .iaddr 1 (.tmp 22) (.con (.int .i64 0))⟩,
    ⟨(some 24), none, .load false 1 (.tmp 23)⟩,
    ⟨(some 25), none, .mov (.tmp 1)⟩,
    ⟨(some 26), none, .call 37 [(.tmp 24), (.tmp 25)]⟩,
    ⟨(some 27), none, .build [(.int .u64 0), (.int .u64 0)] [(1, 1, (.tmp 26))]⟩,
    ⟨(some 7), none, .alloc (.agg [(.int .u64 0), (.int .u64 0)])⟩,
    ⟨none, none, .store 2 (.tmp 7) (.tmp 27)⟩])
  (.seq (.seq (.reg [⟨(some 28), none, .mov (.tmp 0)⟩,
    ⟨(some 29), none, .len (.tmp 28)⟩,
    ⟨(some 30), none, .mov (.con (.int .i64 0))⟩])
  (.block 0 (.loop (.seq (.reg [⟨(some 31), none, .bin .lss (.tmp 30) (.tmp 29)⟩])
    (.seq (.cond (.tmp 31)
     .skip
     (.exit 0))
    (.seq (.block 1 (.seq (.reg [⟨(some 32), none, .mov (.tmp 30)⟩,
       ⟨(some 33), none, .iaddr 1 (.tmp 28) (.tmp 30)⟩,
       ⟨(some 34), none, .load false 1 (.tmp 33)⟩,
       ⟨(some 8), none, .mov (.tmp 32)⟩,
       ⟨(some 9), none, .mov (.tmp 34)⟩])
     (.seq (.reg [⟨(some 35), none, .mov (.tmp 8)⟩,
       ⟨(some 36), none, .conv .u64 (.tmp 35)⟩,
       ⟨(some 37), none, .mov (.tmp 9)⟩,
       ⟨(some 38), none, .mov (.tmp 1)⟩,
       ⟨(some 39), none, .call 37 [(.tmp 37), (.tmp 38)]⟩,
       ⟨(some 40), none, .build [(.int .u64 0), (.int .u64 0)] [(0, 1, (.tmp 36)), (1, 1, (.tmp 39))]⟩,
       ⟨(some 10), none, .alloc (.agg [(.int .u64 0), (.int .u64 0)])⟩,
       ⟨none, none, .store 2 (.tmp 10) (.tmp 40)⟩])
     (.seq (.reg [⟨(some 41), none, .load true 2 (.tmp 10)⟩,
       ⟨(some 42), none, .load true 2 (.tmp 7)⟩,
       ⟨(some 43), none, .call 16 [(.tmp 41), (.tmp 42)]⟩,
       ⟨(some 44), none, .bin .lss (.tmp 43) (.con (.int .i64 0))⟩])
     (.cond (.tmp 44)
      (.reg [⟨(some 45), none, .load true 2 (.tmp 10)⟩,
        ⟨none, none, .store 2 (.tmp 7) (.tmp 45)⟩])
      .skip)))))
    (.reg [⟨(some 46), none, .bin .add (.tmp 30) (.con (.int .i64 1))⟩,
      ⟨(some 30), none, .mov (.tmp 46)⟩])))))))
  (.seq (.reg [⟨(some 47), none, .faddr (.tmp 7) 0⟩,
    ⟨(some 48), none, .load false 1 (.tmp 47)⟩,
    ⟨(some 49), none, .conv .i64 (.tmp 48)⟩,
    ⟨(some 4), none, .mov (.tmp 49)⟩,
    ⟨(some 5), none, .mov (.con (.int .i64 0))⟩])
  .ret))))))
def g18 : Fn := ⟨2, 50, [.tmp 4, .tmp 5], b18⟩
/- quiver/flat.Rows -/
def b19 : AC :=
  (.seq (.reg [⟨(some 2), none, .box (.tmp 0)⟩,
    ⟨(some 3), none, .box (.tmp 1)⟩,
    ⟨(some 4), none, .mov (.con .nilS)⟩,
    ⟨(some 5), none, .mov (.con (.int .i64 0))⟩])
  (.seq (.seq (.reg [⟨(some 11), none, .load true 2 (.tmp 3)⟩,
    ⟨(some 12), none, .call 38 [(.tmp 11)]⟩,
    ⟨(some 6), none, .mov (.tmp 12)⟩])
  (.seq (.reg [⟨(some 13), none, .mov (.tmp 6)⟩,
    ⟨(some 14), none, .bin .neq (.tmp 13) (.con (.int .i64 0))⟩])
  (.cond (.tmp 14)
   (.seq (.reg [⟨(some 15), none, .mov (.tmp 6)⟩,
     ⟨(some 4), none, .mov (.con .nilS)⟩,
     ⟨(some 5), none, .mov (.tmp 15)⟩])
   .ret)
   .skip)))
  (.seq (.seq (.reg [⟨(some 16), none, .load false 1 (.tmp 2)⟩,
    ⟨(some 17), none, .len (.tmp 16)⟩,
    ⟨(some 18), none, .mov (.con (.int .i64 0))⟩])
  (.block 0 (.loop (.seq (.reg [⟨(some 19), none, .bin .lss (.tmp 18) (.tmp 17)⟩])
    (.seq (.cond (.tmp 19)
     .skip
     (.exit 0))
    (.seq (.block 1 (.seq (.reg [⟨(some 20), none, .iaddr 2 (.tmp 16) (.tmp 18)⟩,
       ⟨(some 21), none, .load true 2 (.tmp 20)⟩,
       ⟨(some 8), none, .alloc (.agg [(.int .u64 0), .nilS])⟩,
       ⟨none, none, .store 2 (.tmp 8) (.tmp 21)⟩])
     (.seq (.reg [⟨(some 22), none, .load true 2 (.tmp 8)⟩,
       ⟨(some 23), none, .call 32 [(.tmp 22)]⟩,
       ⟨(some 9), none, .mov (.tmp 23)⟩])
     (.seq (.reg [⟨(some 24), none, .mov (.tmp 9)⟩,
       ⟨(some 25), none, .bin .neq (.tmp 24) (.con (.int .i64 0))⟩])
     (.cond (.tmp 25)
      (.seq (.reg [⟨(some 26), none, .mov (.tmp 9)⟩,
        ⟨(some 4), none, .mov (.con .nilS)⟩,
        ⟨(some 5), none, .mov (.tmp 26)⟩])
      .ret)
      .skip)))))
    (.reg [⟨(some 27), none, .bin .add (.tmp 18) (.con (.int .i64 1))⟩,
      ⟨(some 18), none, .mov (.tmp 27)⟩])))))))
  (.seq (.seq (.reg [⟨(some 28), none, .load false 1 (.tmp 2)⟩,
    ⟨(some 29), none, .len (.tmp 28)⟩,
    ⟨(some 30), none, .bin .gtr (.tmp 29) (.con (.int .i64 2000))⟩])
  (.cond (.tmp 30)
   (.seq (.reg [⟨(some 4), none, .mov (.con .nilS)⟩,
     ⟨(some 5), none, .mov (.con (.int .i64 3))⟩])
   .ret)
   .skip))
  (.seq (.reg [⟨(some 31), none, .load true 2 (.tmp 3)⟩,
    ⟨(some 32), none, .build [.nilS, (.int .i64 0)] [(0, 2, (.tmp 31))]⟩,
    ⟨(some 10), none, .alloc (.agg [.nilS, (.int .i64 0)])⟩,
    ⟨none, none, .store 2 (.tmp 10) (.tmp 32)⟩])
  (.seq (.reg [⟨(some 33), none, .load true 2 (.tmp 10)⟩,
    ⟨(some 34), none, .mkfn 40 [(.tmp 2)]⟩,
    ⟨(some 35), none, .load true 2 (.tmp 10)⟩,
    ⟨(some 36), none, .mkbnd 41 [(.tmp 35)]⟩,
    ⟨(some 37), none, .call 39 [(.tmp 33), (.tmp 34), (.tmp 36)]⟩,
    ⟨(some 38), none, .ext (.tmp 37) 0⟩,
    ⟨(some 39), none, .ext (.tmp 37) 1⟩,
    ⟨(some 4), none, .mov (.tmp 38)⟩,
    ⟨(some 5), none, .mov (.tmp 39)⟩])
  .ret))))))
def g19 : Fn := ⟨2, 40, [.tmp 4, .tmp 5], b19⟩
/- quiver/probe.asks -/
def b21 : AC :=
  (.seq (.reg [⟨(some 2), none, .mov (.con (.int .i64 0))⟩])
  (.seq (.seq (.reg [⟨(some 3), none, .mov (.tmp 0)⟩,
    ⟨(some 4), none, .bin .lss (.tmp 3) (.con (.int .i64 1))⟩,
    ⟨(some 5), none, .mov (.tmp 4)⟩,
    ⟨(some 6), (some (5, false)), .mov (.tmp 0)⟩,
    ⟨(some 7), (some (5, false)), .bin .gtr (.tmp 6) (.con (.int .i64 1048576))⟩,
    ⟨(some 8), none, .pick (.tmp 5) (.con (.bool true)) (.tmp 7)⟩])
  (.cond (.tmp 8)
   (.seq (.reg [⟨(some 2), none, .mov (.con (.int .i64 2))⟩])
   .ret)
   .skip))
  (.seq (.reg [⟨(some 2), none, .mov (.con (.int .i64 0))⟩])
  .ret)))
def g21 : Fn := ⟨1, 9, [.tmp 2], b21⟩
/- quiver/vec.Check -/
def b22 : AC :=
  (.seq (.reg [⟨(some 2), none, .mov (.con (.int .i64 0))⟩])
  (.seq (.reg [⟨(some 3), none, .mov (.con (.fn 43 []))⟩])
  (.seq (.seq (.reg [⟨(some 4), none, .mov (.tmp 0)⟩,
    ⟨(some 5), none, .len (.tmp 4)⟩,
    ⟨(some 6), none, .bin .lss (.tmp 5) (.con (.int .i64 1))⟩,
    ⟨(some 7), none, .mov (.tmp 6)⟩,
    ⟨(some 8), (some (7, false)), .mov (.tmp 0)⟩,
    ⟨(some 9), (some (7, false)), .len (.tmp 8)⟩,
    ⟨(some 10), (some (7, false)), .bin .gtr (.tmp 9) (.con (.int .i64 4))⟩,
    ⟨(some 11), none, .pick (.tmp 7) (.con (.bool true)) (.tmp 10)⟩,
    ⟨(some 12), none, .mov (.tmp 11)⟩,
    ⟨(some 13), (some (12, false)), .mov (.tmp 0)⟩,
    ⟨(some 14), (some (12, false)), .mov (.tmp 3)⟩,
    ⟨(some 15), (some (12, false)), .call 44 [(.tmp 13), (.tmp 14)]⟩,
    ⟨(some 16), none, .pick (.tmp 12) (.con (.bool true)) (.tmp 15)⟩])
  (.cond (.tmp 16)
   (.seq (.reg [⟨(some 2), none, .mov (.con (.int .i64 150))⟩])
   .ret)
   .skip))
  (.seq (.reg [⟨(some 2), none, .mov (.con (.int .i64 0))⟩])
  .ret))))
def g22 : Fn := ⟨1, 17, [.tmp 2], b22⟩
/- quiver/probe.trained -/
def b23 : AC :=
  (.seq (.reg [⟨(some 2), none, .mov (.con (.int .i64 0))⟩])
  (.seq (.seq (.reg [⟨(some 3), none, .mov (.tmp 0)⟩,
    ⟨(some 4), none, .len (.tmp 3)⟩,
    ⟨(some 5), none, .bin .eql (.tmp 4) (.con (.int .i64 0))⟩])
  (.cond (.tmp 5)
   (.seq (.reg [⟨(some 2), none, .mov (.con (.int .i64 240))⟩])
   .ret)
   .skip))
  (.seq (.reg [⟨(some 6), none, .mov (.tmp 0)⟩,
    ⟨(some 7), none, .mov (.tmp 0)⟩,
    ⟨(some 8), none, .len (.tmp 7)⟩,
    ⟨(some 9), none, .mksl 2 16 (.agg [(.int .u64 0), (.int .u64 0)]) (.tmp 8)⟩,
    ⟨(some 10), none, .build [.nilS, .nilS] [(0, 1, (.tmp 6)), (1, 1, (.tmp 9))]⟩,
    ⟨(some 11), none, .call 45 [(.tmp 10)]⟩,
    ⟨(some 2), none, .mov (.tmp 11)⟩])
  .ret)))
def g23 : Fn := ⟨1, 12, [.tmp 2], b23⟩
/- (quiver/probe.searcher).places -/
def b24 : AC :=
  (.seq (.reg [⟨(some 1), none, .box (.tmp 0)⟩,
    ⟨(some 2), none, .mov (.con .nilF)⟩])
  (.seq (.reg [⟨(some 8), none, .faddr (.tmp 1) 4⟩,
    ⟨(some 9), none, .load false 1 (.tmp 8)⟩,
    ⟨(some 10), none, .len (.tmp 9)⟩,
    ⟨(some 11), none, .mksl 2 16 (.agg [(.int .u64 0), (.int .u64 0)]) (.tmp 10)⟩,
    ⟨(some 3), none, .alloc .nilS⟩,
    ⟨none, none, .store 1 (.tmp 3) (.tmp 11)⟩])
  (.seq (.seq (.reg [⟨(some 12), none, .faddr (.tmp 1) 4⟩,
    ⟨(some 13), none, .load false 1 (.tmp 12)⟩,
    ⟨(some 14), none, .len (.tmp 13)⟩,
    ⟨(some 15), none, .mov (.con (.int .i64 0))⟩])
  (.block 0 (.loop (.seq (.reg [⟨(some 16), none, .bin .lss (.tmp 15) (.tmp 14)⟩])
    (.seq (.cond (.tmp 16)
     .skip
     (.exit 0))
    (.seq (.block 1 (.seq (.reg [⟨(some 17), none, .mov (.tmp 15)⟩,
       ⟨(some 18), none, .iaddr 1 (.tmp 13) (.tmp 15)⟩,
       ⟨(some 19), none, .load false 1 (.tmp 18)⟩,
       ⟨(some 4), none, .mov (.tmp 17)⟩,
       ⟨(some 5), none, .mov (.tmp 19)⟩])
     (.seq (.reg [⟨(some 21), none, .mov (.tmp 5)⟩,
       ⟨(some 22), none, .faddr (.tmp 1) 0⟩,
       ⟨(some 23), none, .faddr (.tmp 22) 0⟩,
       ⟨(some 24), none, .faddr (.tmp 23) 0⟩,
       ⟨(some 25), none, .load false 1 (.tmp 24)⟩,
       ⟨(some 26), none, .call 17 [(.tmp 21), (.tmp 25)]⟩,
       ⟨(some 20), none, .mov (.tmp 26)⟩,
       ⟨(some 27), none, .ext (.tmp 20) 0⟩,
       ⟨(some 28), none, .ext (.tmp 20) 1⟩,
       ⟨(some 6), none, .mov (.tmp 27)⟩,
       ⟨(some 7), none, .mov (.tmp 28)⟩])
     (.reg [⟨(some 29), none, .load false 1 (.tmp 3)⟩,
       ⟨(some 30), none, .mov (.tmp 4)⟩,
       ⟨(some 31), none, .mov (.tmp 4)⟩,
       ⟨(some 32), none, .conv .u64 (.tmp 31)⟩,
       ⟨(some 33), none, .mov (.tmp 6)⟩,
       ⟨(some 34), none, .build [(.int .u64 0), (.int .u64 0)] [(0, 1, (.tmp 32)), (1, 1, (.tmp 33))]⟩,
       ⟨(some 35), none, .iaddr 2 (.tmp 29) (.tmp 30)⟩,
       ⟨none, none, .store 2 (.tmp 35) (.tmp 34)⟩]))))
    (.reg [⟨(some 36), none, .bin .add (.tmp 15) (.con (.int .i64 1))⟩,
      ⟨(some 15), none, .mov (.tmp 36)⟩])))))))
  (.seq (.reg [⟨(some 37), none, .load false 1 (.tmp 3)⟩,
    ⟨(some 38), none, .call 46 [(.tmp 37), (.con (.fn 47 []))]⟩])
  (.seq (.reg [⟨(some 39), none, .mkfn 48 [(.tmp 3), (.tmp 1)]⟩,
    ⟨(some 2), none, .mov (.tmp 39)⟩])
  .ret)))))
def g24 : Fn := ⟨1, 40, [.tmp 2], b24⟩
/- quiver/quiverref05.Right -/
def b25 : AC :=
  (.seq (.reg [⟨(some 2), none, .mov (.con (.bool false))⟩])
  (.seq (.seq (.reg [⟨(some 3), none, .mov (.con (.int .i64 0))⟩])
  (.block 0 (.loop (.seq (.seq (.reg [⟨(some 4), none, .mov (.tmp 3)⟩,
      ⟨(some 5), none, .mov (.tmp 0)⟩,
      ⟨(some 6), none, .len (.tmp 5)⟩,
      ⟨(some 7), none, .bin .lss (.tmp 4) (.tmp 6)⟩])
    (.cond (.tmp 7)
     .skip
     (.exit 0)))
    (.seq (.block 1 (.seq (.reg [⟨(some 10), none, .mov (.tmp 0)⟩,
       ⟨(some 11), none, .mov (.tmp 3)⟩,
       ⟨(some 12), none, .iaddr 1 (.tmp 10) (.tmp 11)⟩,
       ⟨(some 13), none, .load false 1 (.tmp 12)⟩,
       ⟨(some 14), none, .bin .lss (.tmp 13) (.con (.int .i32 (-1073741823)))⟩,
       ⟨(some 15), none, .mov (.tmp 14)⟩,
       ⟨(some 16), (some (15, false)), .mov (.tmp 0)⟩,
       ⟨(some 17), (some (15, false)), .mov (.tmp 3)⟩,
       ⟨(some 18), (some (15, false)), .iaddr 1 (.tmp 16) (.tmp 17)⟩,
       ⟨(some 19), (some (15, false)), .load false 1 (.tmp 18)⟩,
       ⟨(some 20), (some (15, false)), .bin .gtr (.tmp 19) (.con (.int .i32 1073741823))⟩,
       ⟨(some 21), none, .pick (.tmp 15) (.con (.bool true)) (.tmp 20)⟩])
     (.cond (.tmp 21)
      (.seq (.reg [⟨(some 2), none, .mov (.con (.bool false))⟩])
      .ret)
      .skip)))
    (.reg [⟨(some 8), none, .mov (.tmp 3)⟩,
      ⟨(some 9), none, .bin .add (.tmp 8) (.con (.int .i64 1))⟩,
      ⟨(some 3), none, .mov (.tmp 9)⟩]))))))
  (.seq (.reg [⟨(some 22), none, .mov (.tmp 0)⟩,
    ⟨(some 23), none, .len (.tmp 22)⟩,
    ⟨(some 24), none, .bin .geq (.tmp 23) (.con (.int .i64 1))⟩,
    ⟨(some 25), none, .mov (.tmp 24)⟩,
    ⟨(some 26), (some (25, true)), .mov (.tmp 0)⟩,
    ⟨(some 27), (some (25, true)), .len (.tmp 26)⟩,
    ⟨(some 28), (some (25, true)), .bin .leq (.tmp 27) (.con (.int .i64 4))⟩,
    ⟨(some 29), none, .pick (.tmp 25) (.tmp 28) (.con (.bool false))⟩,
    ⟨(some 2), none, .mov (.tmp 29)⟩])
  .ret)))
def g25 : Fn := ⟨1, 30, [.tmp 2], b25⟩
/- quiver/quiverref14.centroids -/
def b26 : AC :=
  (.seq (.reg [⟨(some 4), none, .mov (.con (.int .i64 0))⟩])
  (.seq (.block 0 (.seq (.reg [⟨(some 6), none, .mov (.tmp 0)⟩,
     ⟨(some 7), none, .len (.tmp 6)⟩,
     ⟨(some 8), none, .bin .eql (.tmp 7) (.con (.int .i64 0))⟩,
     ⟨(some 5), none, .mov (.tmp 8)⟩])
   (.cond (.tmp 5)
    (.seq (.reg [⟨(some 4), none, .mov (.con (.int .i64 240))⟩])
    .ret)
    (.seq (.reg [⟨(some 10), none, .mov (.tmp 0)⟩,
      ⟨(some 11), none, .call 49 [(.tmp 10)]⟩,
      ⟨(some 12), none, .un .not (.tmp 11)⟩,
      ⟨(some 9), none, .mov (.tmp 12)⟩])
    (.cond (.tmp 9)
     (.seq (.reg [⟨(some 4), none, .mov (.con (.int .i64 230))⟩])
     .ret)
     (.seq (.reg [⟨(some 14), none, .mov (.tmp 0)⟩,
       ⟨(some 15), none, .iaddr 1 (.tmp 14) (.con (.int .i64 0))⟩,
       ⟨(some 16), none, .load false 1 (.tmp 15)⟩,
       ⟨(some 17), none, .len (.tmp 16)⟩,
       ⟨(some 18), none, .mov (.tmp 1)⟩,
       ⟨(some 19), none, .len (.tmp 18)⟩,
       ⟨(some 20), none, .bin .neq (.tmp 17) (.tmp 19)⟩,
       ⟨(some 13), none, .mov (.tmp 20)⟩])
     (.cond (.tmp 13)
      (.seq (.reg [⟨(some 4), none, .mov (.con (.int .i64 151))⟩])
      .ret)
      .skip)))))))
  (.seq (.reg [⟨(some 4), none, .mov (.con (.int .i64 0))⟩])
  .ret)))
def g26 : Fn := ⟨2, 21, [.tmp 4], b26⟩
/- quiver/quiverref14.has -/
def b27 : AC :=
  (.seq (.reg [⟨(some 4), none, .mov (.con (.bool false))⟩])
  (.seq (.seq (.reg [⟨(some 7), none, .mov (.tmp 0)⟩,
    ⟨(some 8), none, .len (.tmp 7)⟩,
    ⟨(some 9), none, .mov (.con (.int .i64 0))⟩])
  (.block 0 (.loop (.seq (.reg [⟨(some 10), none, .bin .lss (.tmp 9) (.tmp 8)⟩])
    (.seq (.cond (.tmp 10)
     .skip
     (.exit 0))
    (.seq (.block 1 (.seq (.reg [⟨(some 11), none, .iaddr 1 (.tmp 7) (.tmp 9)⟩,
       ⟨(some 12), none, .load false 1 (.tmp 11)⟩,
       ⟨(some 6), none, .mov (.tmp 12)⟩])
     (.seq (.reg [⟨(some 13), none, .mov (.tmp 6)⟩,
       ⟨(some 14), none, .mov (.tmp 1)⟩,
       ⟨(some 15), none, .bin .eql (.tmp 13) (.tmp 14)⟩])
     (.cond (.tmp 15)
      (.seq (.reg [⟨(some 4), none, .mov (.con (.bool true))⟩])
      .ret)
      .skip))))
    (.reg [⟨(some 16), none, .bin .add (.tmp 9) (.con (.int .i64 1))⟩,
      ⟨(some 9), none, .mov (.tmp 16)⟩])))))))
  (.seq (.reg [⟨(some 4), none, .mov (.con (.bool false))⟩])
  .ret)))
def g27 : Fn := ⟨2, 17, [.tmp 4], b27⟩
/- quiver/quiverref05.Dist -/
def b28 : AC :=
  (.seq (.reg [⟨(some 4), none, .mov (.con (.int .u64 0))⟩])
  (.seq (.reg [⟨(some 5), none, .mov (.con (.int .u64 0))⟩])
  (.seq (.seq (.reg [⟨(some 6), none, .mov (.con (.int .i64 0))⟩])
  (.block 0 (.loop (.seq (.seq (.reg [⟨(some 8), none, .mov (.tmp 6)⟩,
      ⟨(some 9), none, .mov (.tmp 0)⟩,
      ⟨(some 10), none, .len (.tmp 9)⟩,
      ⟨(some 11), none, .bin .lss (.tmp 8) (.tmp 10)⟩])
    (.cond (.tmp 11)
     .skip
     (.exit 0)))
    (.seq (.block 1 (.seq (.regd [⟨[⟨⟨(some 14), none, .mov (.tmp 0)⟩, true, false, false, 0, [], none⟩,
       ⟨⟨(some 15), none, .mov (.tmp 6)⟩, true, false, false, 0, [], none⟩,
       ⟨⟨(some 16), none, .iaddr 1 (.tmp 14) (.tmp 15)⟩, true, false, false, 0, [], none⟩,
       ⟨⟨(some 17), none, .load false 1 (.tmp 16)⟩, false, false, false, 0, [], none⟩,
       ⟨⟨(some 18), none, .conv .i64 (.tmp 17)⟩, true, false, false, 0, [], none⟩,
       ⟨⟨(some 19), none, .mov (.tmp 1)⟩, true, false, false, 0, [], none⟩,
       ⟨⟨(some 20), none, .mov (.tmp 6)⟩, true, false, false, 0, [], none⟩,
       ⟨⟨(some 21), none, .iaddr 1 (.tmp 19) (.tmp 20)⟩, true, false, false, 0, [], none⟩,
       ⟨⟨(some 22), none, .load false 1 (.tmp 21)⟩, false, false, false, 0, [], none⟩,
       ⟨⟨(some 23), none, .conv .i64 (.tmp 22)⟩, true, false, false, 0, [], none⟩], 0, [⟨(some 24), none, .bin .sub (.tmp 18) (.tmp 23)⟩,
       ⟨(some 7), none, .mov (.tmp 24)⟩]⟩])
     (.seq (.seq (.reg [⟨(some 25), none, .mov (.tmp 7)⟩,
       ⟨(some 26), none, .bin .lss (.tmp 25) (.con (.int .i64 0))⟩])
     (.cond (.tmp 26)
      (.reg [⟨(some 27), none, .mov (.tmp 7)⟩,
        ⟨(some 28), none, .un .neg (.tmp 27)⟩,
        ⟨(some 7), none, .mov (.tmp 28)⟩])
      .skip))
     (.reg [⟨(some 29), none, .mov (.tmp 5)⟩,
       ⟨(some 30), none, .mov (.tmp 7)⟩,
       ⟨(some 31), none, .conv .u64 (.tmp 30)⟩,
       ⟨(some 32), none, .mov (.tmp 7)⟩,
       ⟨(some 33), none, .conv .u64 (.tmp 32)⟩,
       ⟨(some 34), none, .bin .mul (.tmp 31) (.tmp 33)⟩,
       ⟨(some 35), none, .bin .add (.tmp 29) (.tmp 34)⟩,
       ⟨(some 5), none, .mov (.tmp 35)⟩]))))
    (.reg [⟨(some 12), none, .mov (.tmp 6)⟩,
      ⟨(some 13), none, .bin .add (.tmp 12) (.con (.int .i64 1))⟩,
      ⟨(some 6), none, .mov (.tmp 13)⟩]))))))
  (.seq (.reg [⟨(some 36), none, .mov (.tmp 5)⟩,
    ⟨(some 4), none, .mov (.tmp 36)⟩])
  .ret))))
def g28 : Fn := ⟨2, 37, [.tmp 4], b28⟩
/- quiver/probe.Check -/
def b29 : AC :=
  (.seq (.reg [⟨(some 1), none, .box (.tmp 0)⟩,
    ⟨(some 2), none, .mov (.con (.int .i64 0))⟩])
  (.seq (.seq (.reg [⟨(some 4), none, .faddr (.tmp 1) 0⟩,
    ⟨(some 5), none, .faddr (.tmp 4) 1⟩,
    ⟨(some 6), none, .load false 1 (.tmp 5)⟩,
    ⟨(some 7), none, .bin .lss (.tmp 6) (.con (.int .i64 1))⟩,
    ⟨(some 8), none, .mov (.tmp 7)⟩,
    ⟨(some 9), (some (8, false)), .faddr (.tmp 1) 0⟩,
    ⟨(some 10), (some (8, false)), .faddr (.tmp 9) 1⟩,
    ⟨(some 11), (some (8, false)), .load false 1 (.tmp 10)⟩,
    ⟨(some 12), (some (8, false)), .bin .gtr (.tmp 11) (.con (.int .i64 16))⟩,
    ⟨(some 13), none, .pick (.tmp 8) (.con (.bool true)) (.tmp 12)⟩])
  (.cond (.tmp 13)
   (.seq (.reg [⟨(some 2), none, .mov (.con (.int .i64 2))⟩])
   .ret)
   .skip))
  (.seq (.seq (.reg [⟨(some 14), none, .faddr (.tmp 1) 3⟩,
    ⟨(some 15), none, .load false 1 (.tmp 14)⟩,
    ⟨(some 16), none, .call 21 [(.tmp 15)]⟩,
    ⟨(some 3), none, .mov (.tmp 16)⟩])
  (.seq (.reg [⟨(some 17), none, .mov (.tmp 3)⟩,
    ⟨(some 18), none, .bin .neq (.tmp 17) (.con (.int .i64 0))⟩])
  (.cond (.tmp 18)
   (.seq (.reg [⟨(some 19), none, .mov (.tmp 3)⟩,
     ⟨(some 2), none, .mov (.tmp 19)⟩])
   .ret)
   .skip)))
  (.seq (.reg [⟨(some 20), none, .faddr (.tmp 1) 0⟩,
    ⟨(some 21), none, .load true 2 (.tmp 20)⟩,
    ⟨(some 22), none, .call 38 [(.tmp 21)]⟩,
    ⟨(some 2), none, .mov (.tmp 22)⟩])
  .ret))))
def g29 : Fn := ⟨1, 23, [.tmp 2], b29⟩
/- slices.ContainsFunc[[]quiver/api.Row,quiver/api.Row] -/
def b30 : AC :=
  (.seq (.reg [⟨(some 4), none, .mov (.con (.bool false))⟩])
  (.seq (.reg [⟨(some 5), none, .mov (.tmp 0)⟩,
    ⟨(some 6), none, .mov (.tmp 1)⟩,
    ⟨(some 7), none, .call 50 [(.tmp 5), (.tmp 6)]⟩,
    ⟨(some 8), none, .bin .geq (.tmp 7) (.con (.int .i64 0))⟩,
    ⟨(some 4), none, .mov (.tmp 8)⟩])
  .ret))
def g30 : Fn := ⟨2, 9, [.tmp 4], b30⟩
/- quiver/probe.Rows$1 -/
def b31 : AC :=
  (.seq (.reg [⟨(some 1), none, .box (.tmp 0)⟩,
    ⟨(some 2), none, .mov (.con (.bool false))⟩])
  (.seq (.reg [⟨(some 3), none, .load true 2 (.tmp 1)⟩,
    ⟨(some 4), none, .call 32 [(.tmp 3)]⟩,
    ⟨(some 5), none, .bin .neq (.tmp 4) (.con (.int .i64 0))⟩,
    ⟨(some 2), none, .mov (.tmp 5)⟩])
  .ret))
def g31 : Fn := ⟨1, 6, [.tmp 2], b31⟩
/- quiver/codec.CheckRow -/
def b32 : AC :=
  (.seq (.reg [⟨(some 1), none, .box (.tmp 0)⟩,
    ⟨(some 2), none, .mov (.con (.int .i64 0))⟩])
  (.seq (.seq (.reg [⟨(some 3), none, .faddr (.tmp 1) 1⟩,
    ⟨(some 4), none, .load false 1 (.tmp 3)⟩,
    ⟨(some 5), none, .call 22 [(.tmp 4)]⟩,
    ⟨(some 6), none, .bin .neq (.tmp 5) (.con (.int .i64 0))⟩])
  (.cond (.tmp 6)
   (.seq (.reg [⟨(some 2), none, .mov (.con (.int .i64 170))⟩])
   .ret)
   .skip))
  (.seq (.reg [⟨(some 2), none, .mov (.con (.int .i64 0))⟩])
  .ret)))
def g32 : Fn := ⟨1, 7, [.tmp 2], b32⟩
/- quiver/probe.Rows$2 -/
def b33 : AC :=
  (.seq (.reg [⟨(some 2), none, .box (.tmp 0)⟩,
    ⟨(some 3), none, .mov (.con (.bool false))⟩])
  (.seq (.reg [⟨(some 4), none, .faddr (.tmp 2) 1⟩,
    ⟨(some 5), none, .load false 1 (.tmp 4)⟩,
    ⟨(some 6), none, .len (.tmp 5)⟩,
    ⟨(some 7), none, .load false 1 (.tmp 1)⟩,
    ⟨(some 8), none, .bin .neq (.tmp 6) (.tmp 7)⟩,
    ⟨(some 3), none, .mov (.tmp 8)⟩])
  .ret))
def g33 : Fn := ⟨2, 9, [.tmp 3], b33⟩
/- cmp.Or[int] -/
def b34 : AC :=
  (.seq (.reg [⟨(some 2), none, .mov (.con (.int .i64 0))⟩])
  (.seq (.reg [⟨(some 3), none, .mov (.con (.int .i64 0))⟩])
  (.seq (.seq (.reg [⟨(some 6), none, .mov (.tmp 0)⟩,
    ⟨(some 7), none, .len (.tmp 6)⟩,
    ⟨(some 8), none, .mov (.con (.int .i64 0))⟩])
  (.block 0 (.loop (.seq (.reg [⟨(some 9), none, .bin .lss (.tmp 8) (.tmp 7)⟩])
    (.seq (.cond (.tmp 9)
     .skip
     (.exit 0))
    (.seq (.block 1 (.seq (.reg [⟨(some 10), none, .iaddr 1 (.tmp 6) (.tmp 8)⟩,
       ⟨(some 11), none, .load false 1 (.tmp 10)⟩,
       ⟨(some 5), none, .mov (.tmp 11)⟩])
     (.seq (.reg [⟨(some 12), none, .mov (.tmp 5)⟩,
       ⟨(some 13), none, .mov (.tmp 3)⟩,
       ⟨(some 14), none, .bin .neq (.tmp 12) (.tmp 13)⟩])
     (.cond (.tmp 14)
      (.seq (.reg [⟨(some 15), none, .mov (.tmp 5)⟩,
        ⟨(some 2), none, .mov (.tmp 15)⟩])
      .ret)
      .skip))))
    (.reg [⟨(some 16), none, .bin .add (.tmp 8) (.con (.int .i64 1))⟩,
      ⟨(some 8), none, .mov (.tmp 16)⟩])))))))
  (.seq (.reg [⟨(some 17), none, .mov (.tmp 3)⟩,
    ⟨(some 2), none, .mov (.tmp 17)⟩])
  .ret))))
def g34 : Fn := ⟨1, 18, [.tmp 2], b34⟩
/- cmp.Compare[uint64] -/
def b35 : AC :=
  (.seq (.reg [⟨(some 4), none, .mov (.con (.int .i64 0))⟩])
  (.seq (.reg [⟨(some 7), none, .mov (.tmp 0)⟩,
    ⟨(some 8), none, .call 51 [(.tmp 7)]⟩,
    ⟨(some 5), none, .mov (.tmp 8)⟩])
  (.seq (.reg [⟨(some 9), none, .mov (.tmp 1)⟩,
    ⟨(some 10), none, .call 51 [(.tmp 9)]⟩,
    ⟨(some 6), none, .mov (.tmp 10)⟩])
  (.seq (.seq (.reg [⟨(some 11), none, .mov (.tmp 5)⟩])
  (.cond (.tmp 11)
   (.seq (.seq (.reg [⟨(some 12), none, .mov (.tmp 6)⟩])
   (.cond (.tmp 12)
    (.seq (.reg [⟨(some 4), none, .mov (.con (.int .i64 0))⟩])
    .ret)
    .skip))
   (.seq (.reg [⟨(some 4), none, .mov (.con (.int .i64 (-1)))⟩])
   .ret))
   .skip))
  (.seq (.seq (.reg [⟨(some 13), none, .mov (.tmp 6)⟩])
  (.cond (.tmp 13)
   (.seq (.reg [⟨(some 4), none, .mov (.con (.int .i64 1))⟩])
   .ret)
   .skip))
  (.seq (.seq (.reg [⟨(some 14), none, .mov (.tmp 0)⟩,
    ⟨(some 15), none, .mov (.tmp 1)⟩,
    ⟨(some 16), none, .bin .lss (.tmp 14) (.tmp 15)⟩])
  (.cond (.tmp 16)
   (.seq (.reg [⟨(some 4), none, .mov (.con (.int .i64 (-1)))⟩])
   .ret)
   .skip))
  (.seq (.seq (.reg [⟨(some 17), none, .mov (.tmp 0)⟩,
    ⟨(some 18), none, .mov (.tmp 1)⟩,
    ⟨(some 19), none, .bin .gtr (.tmp 17) (.tmp 18)⟩])
  (.cond (.tmp 19)
   (.seq (.reg [⟨(some 4), none, .mov (.con (.int .i64 1))⟩])
   .ret)
   .skip))
  (.seq (.reg [⟨(some 4), none, .mov (.con (.int .i64 0))⟩])
  .ret))))))))
def g35 : Fn := ⟨2, 20, [.tmp 4], b35⟩
/- quiver/vec.all -/
def b36 : AC :=
  (.seq (.reg [⟨(some 1), none, .box (.tmp 0)⟩,
    ⟨(some 2), none, .mov (.con (.int .i64 0))⟩])
  (.seq (.seq (.reg [⟨(some 7), none, .load false 1 (.tmp 1)⟩,
    ⟨(some 8), none, .len (.tmp 7)⟩,
    ⟨(some 9), none, .mov (.con (.int .i64 0))⟩])
  (.block 0 (.loop (.seq (.reg [⟨(some 10), none, .bin .lss (.tmp 9) (.tmp 8)⟩])
    (.seq (.cond (.tmp 10)
     .skip
     (.exit 0))
    (.seq (.block 1 (.seq (.reg [⟨(some 11), none, .iaddr 1 (.tmp 7) (.tmp 9)⟩,
       ⟨(some 12), none, .load false 1 (.tmp 11)⟩,
       ⟨(some 4), none, .mov (.tmp 12)⟩])
     (.seq (.reg [⟨(some 13), none, .mov (.tmp 4)⟩,
       ⟨(some 14), none, .call 22 [(.tmp 13)]⟩,
       ⟨(some 5), none, .mov (.tmp 14)⟩])
     (.seq (.reg [⟨(some 15), none, .mov (.tmp 5)⟩,
       ⟨(some 16), none, .bin .neq (.tmp 15) (.con (.int .i64 0))⟩])
     (.cond (.tmp 16)
      (.seq (.reg [⟨(some 17), none, .mov (.tmp 5)⟩,
        ⟨(some 2), none, .mov (.tmp 17)⟩])
      .ret)
      .skip)))))
    (.reg [⟨(some 18), none, .bin .add (.tmp 9) (.con (.int .i64 1))⟩,
      ⟨(some 9), none, .mov (.tmp 18)⟩])))))))
  (.seq (.reg [⟨(some 19), none, .mkfn 52 [(.tmp 1)]⟩,
    ⟨(some 6), none, .mov (.tmp 19)⟩])
  (.seq (.seq (.reg [⟨(some 20), none, .load false 1 (.tmp 1)⟩,
    ⟨(some 21), none, .mov (.tmp 6)⟩,
    ⟨(some 22), none, .call 53 [(.tmp 20), (.tmp 21)]⟩])
  (.cond (.tmp 22)
   (.seq (.reg [⟨(some 2), none, .mov (.con (.int .i64 151))⟩])
   .ret)
   .skip))
  (.seq (.reg [⟨(some 2), none, .mov (.con (.int .i64 0))⟩])
  .ret)))))
def g36 : Fn := ⟨1, 23, [.tmp 2], b36⟩
/- quiver/vec.dist -/
def b37 : AC :=
  (.seq (.reg [⟨(some 4), none, .mov (.con (.int .u64 0))⟩])
  (.seq (.reg [⟨(some 5), none, .alloc (.int .u64 0)⟩,
    ⟨none, none, .store 1 (.tmp 5) (.con (.int .u64 0))⟩])
  (.seq (.seq (.reg [⟨(some 9), none, .mov (.tmp 0)⟩,
    ⟨(some 10), none, .mov (.tmp 1)⟩,
    ⟨(some 11), none, .call 54 [(.tmp 9), (.tmp 10)]⟩])
  (.block 0 (.rangeF (.tmp 11) [12, 13]
    (.seq (.reg [⟨(some 6), none, .mov (.tmp 12)⟩])
    (.reg [⟨(some 7), none, .mov (.tmp 13)⟩]))
    (.block 1 (.seq (.reg [⟨(some 14), none, .mov (.tmp 6)⟩,
       ⟨(some 15), none, .mov (.tmp 7)⟩,
       ⟨(some 16), none, .bin .sub (.tmp 14) (.tmp 15)⟩,
       ⟨(some 17), none, .mov (.tmp 7)⟩,
       ⟨(some 18), none, .mov (.tmp 6)⟩,
       ⟨(some 19), none, .bin .sub (.tmp 17) (.tmp 18)⟩,
       ⟨(some 20), none, .max [(.tmp 16), (.tmp 19)]⟩,
       ⟨(some 21), none, .conv .u64 (.tmp 20)⟩,
       ⟨(some 8), none, .mov (.tmp 21)⟩])
     (.reg [⟨(some 22), none, .load false 1 (.tmp 5)⟩,
       ⟨(some 23), none, .mov (.tmp 8)⟩,
       ⟨(some 24), none, .mov (.tmp 8)⟩,
       ⟨(some 25), none, .bin .mul (.tmp 23) (.tmp 24)⟩,
       ⟨(some 26), none, .bin .add (.tmp 22) (.tmp 25)⟩,
       ⟨none, none, .store 1 (.tmp 5) (.tmp 26)⟩]))))))
  (.seq (.reg [⟨(some 27), none, .load false 1 (.tmp 5)⟩,
    ⟨(some 4), none, .mov (.tmp 27)⟩])
  .ret))))
def g37 : Fn := ⟨2, 28, [.tmp 4], b37⟩
/- quiver/flat.Check -/
def b38 : AC :=
  (.seq (.reg [⟨(some 1), none, .box (.tmp 0)⟩,
    ⟨(some 2), none, .mov (.con (.int .i64 0))⟩])
  (.seq (.seq (.reg [⟨(some 3), none, .faddr (.tmp 1) 1⟩,
    ⟨(some 4), none, .load false 1 (.tmp 3)⟩,
    ⟨(some 5), none, .bin .lss (.tmp 4) (.con (.int .i64 1))⟩,
    ⟨(some 6), none, .mov (.tmp 5)⟩,
    ⟨(some 7), (some (6, false)), .faddr (.tmp 1) 1⟩,
    ⟨(some 8), (some (6, false)), .load false 1 (.tmp 7)⟩,
    ⟨(some 9), (some (6, false)), .bin .gtr (.tmp 8) (.con (.int .i64 16))⟩,
    ⟨(some 10), none, .pick (.tmp 6) (.con (.bool true)) (.tmp 9)⟩])
  (.cond (.tmp 10)
   (.seq (.reg [⟨(some 2), none, .mov (.con (.int .i64 2))⟩])
   .ret)
   .skip))
  (.seq (.reg [⟨(some 11), none, .faddr (.tmp 1) 0⟩,
    ⟨(some 12), none, .load false 1 (.tmp 11)⟩,
    ⟨(some 13), none, .call 22 [(.tmp 12)]⟩,
    ⟨(some 2), none, .mov (.tmp 13)⟩])
  .ret)))
def g38 : Fn := ⟨1, 14, [.tmp 2], b38⟩
/- (quiver/flat.seeker).found -/
def b39 : AC :=
  (.seq (.reg [⟨(some 3), none, .box (.tmp 0)⟩,
    ⟨(some 5), none, .box (.tmp 2)⟩,
    ⟨(some 6), none, .alloc .nilS⟩,
    ⟨(some 7), none, .alloc (.int .i64 0)⟩])
  (.seq (.reg [⟨(some 8), none, .alloc .nilS⟩])
  (.seq (.seq (.reg [⟨(some 13), none, .mov (.tmp 1)⟩])
  (.block 0 (.rangeF (.tmp 13) [14, 15]
    (.seq (.reg [⟨(some 9), none, .mov (.tmp 14)⟩])
    (.reg [⟨(some 10), none, .mov (.tmp 15)⟩]))
    (.block 1 (.seq (.reg [⟨(some 17), none, .load false 1 (.tmp 5)⟩,
       ⟨(some 18), none, .mov (.tmp 9)⟩,
       ⟨(some 19), none, .mov (.tmp 10)⟩,
       ⟨(some 20), none, .callv (.tmp 17) [(.tmp 18), (.tmp 19)]⟩,
       ⟨(some 16), none, .mov (.tmp 20)⟩,
       ⟨(some 21), none, .ext (.tmp 16) 0⟩,
       ⟨(some 22), none, .ext (.tmp 16) 1⟩,
       ⟨(some 11), none, .alloc (.agg [(.int .u64 0), (.int .u64 0)])⟩,
       ⟨none, none, .store 2 (.tmp 11) (.tmp 21)⟩,
       ⟨(some 12), none, .mov (.tmp 22)⟩])
     (.seq (.seq (.reg [⟨(some 23), none, .mov (.tmp 12)⟩,
       ⟨(some 24), none, .bin .neq (.tmp 23) (.con (.int .i64 0))⟩])
     (.cond (.tmp 24)
      (.seq (.reg [⟨(some 25), none, .mov (.tmp 12)⟩,
        ⟨none, none, .store 1 (.tmp 6) (.con .nilS)⟩,
        ⟨none, none, .store 1 (.tmp 7) (.tmp 25)⟩])
      .ret)
      .skip))
     (.reg [⟨(some 26), none, .load false 1 (.tmp 8)⟩,
       ⟨(some 27), none, .load true 2 (.tmp 11)⟩,
       ⟨(some 28), none, .lit 2 [(.tmp 27)]⟩,
       ⟨(some 29), none, .append 2 16 (.tmp 26) (.tmp 28)⟩,
       ⟨none, none, .store 1 (.tmp 8) (.tmp 29)⟩])))))))
  (.seq (.reg [⟨(some 30), none, .load false 1 (.tmp 8)⟩,
    ⟨(some 31), none, .faddr (.tmp 3) 0⟩,
    ⟨(some 32), none, .faddr (.tmp 31) 1⟩,
    ⟨(some 33), none, .load false 1 (.tmp 32)⟩,
    ⟨(some 34), none, .call 55 [(.tmp 30), (.tmp 33)]⟩,
    ⟨(some 35), none, .ext (.tmp 34) 0⟩,
    ⟨(some 36), none, .ext (.tmp 34) 1⟩,
    ⟨none, none, .store 1 (.tmp 6) (.tmp 35)⟩,
    ⟨none, none, .store 1 (.tmp 7) (.tmp 36)⟩])
  .ret))))
def g39 : Fn := ⟨3, 37, [.cell 6 false 1, .cell 7 false 1], b39⟩
/- quiver/flat.Rows$1 -/
def b40 : AC :=
  (.seq (.reg [⟨(some 5), none, .load false 1 (.tmp 1)⟩,
    ⟨(some 6), none, .len (.tmp 5)⟩,
    ⟨(some 7), none, .mov (.con (.int .i64 0))⟩])
  (.block 0 (.loop (.seq (.reg [⟨(some 8), none, .bin .lss (.tmp 7) (.tmp 6)⟩])
    (.seq (.cond (.tmp 8)
     .skip
     (.exit 0))
    (.seq (.block 1 (.seq (.reg [⟨(some 9), none, .iaddr 2 (.tmp 5) (.tmp 7)⟩,
       ⟨(some 10), none, .load true 2 (.tmp 9)⟩,
       ⟨(some 4), none, .alloc (.agg [(.int .u64 0), .nilS])⟩,
       ⟨none, none, .store 2 (.tmp 4) (.tmp 10)⟩])
     (.seq (.reg [⟨(some 11), none, .mov (.tmp 0)⟩,
       ⟨(some 12), none, .faddr (.tmp 4) 0⟩,
       ⟨(some 13), none, .load false 1 (.tmp 12)⟩,
       ⟨(some 14), none, .faddr (.tmp 4) 1⟩,
       ⟨(some 15), none, .load false 1 (.tmp 14)⟩,
       ⟨(some 16), none, .callv (.tmp 11) [(.tmp 13), (.tmp 15)]⟩,
       ⟨(some 17), none, .un .not (.tmp 16)⟩])
     (.cond (.tmp 17)
      .ret
      .skip))))
    (.reg [⟨(some 18), none, .bin .add (.tmp 7) (.con (.int .i64 1))⟩,
      ⟨(some 7), none, .mov (.tmp 18)⟩])))))))
def g40 : Fn := ⟨2, 19, [], b40⟩
/- (quiver/flat.seeker).hit -/
def b41 : AC :=
  (.seq (.reg [⟨(some 3), none, .box (.tmp 0)⟩,
    ⟨(some 6), none, .alloc (.agg [(.int .u64 0), (.int .u64 0)])⟩,
    ⟨(some 7), none, .mov (.con (.int .i64 0))⟩])
  (.seq (.reg [⟨(some 11), none, .faddr (.tmp 3) 0⟩,
    ⟨(some 12), none, .faddr (.tmp 11) 0⟩,
    ⟨(some 13), none, .load false 1 (.tmp 12)⟩,
    ⟨(some 14), none, .mov (.tmp 2)⟩,
    ⟨(some 15), none, .call 17 [(.tmp 13), (.tmp 14)]⟩,
    ⟨(some 10), none, .mov (.tmp 15)⟩,
    ⟨(some 16), none, .ext (.tmp 10) 0⟩,
    ⟨(some 17), none, .ext (.tmp 10) 1⟩,
    ⟨(some 8), none, .mov (.tmp 16)⟩,
    ⟨(some 9), none, .mov (.tmp 17)⟩])
  (.seq (.reg [⟨(some 18), none, .mov (.tmp 1)⟩,
    ⟨(some 19), none, .mov (.tmp 8)⟩,
    ⟨(some 20), none, .build [(.int .u64 0), (.int .u64 0)] [(0, 1, (.tmp 18)), (1, 1, (.tmp 19))]⟩,
    ⟨(some 21), none, .mov (.tmp 9)⟩,
    ⟨none, none, .store 2 (.tmp 6) (.tmp 20)⟩,
    ⟨(some 7), none, .mov (.tmp 21)⟩])
  .ret)))
def g41 : Fn := ⟨3, 22, [.cell 6 true 2, .tmp 7], b41⟩
/- quiver/vec.Check$1 -/
def b43 : AC :=
  (.seq (.reg [⟨(some 2), none, .mov (.con (.bool false))⟩])
  (.seq (.reg [⟨(some 3), none, .mov (.tmp 0)⟩,
    ⟨(some 4), none, .bin .lss (.tmp 3) (.con (.int .i32 (-1073741823)))⟩,
    ⟨(some 5), none, .mov (.tmp 4)⟩,
    ⟨(some 6), (some (5, false)), .mov (.tmp 0)⟩,
    ⟨(some 7), (some (5, false)), .bin .gtr (.tmp 6) (.con (.int .i32 1073741823))⟩,
    ⟨(some 8), none, .pick (.tmp 5) (.con (.bool true)) (.tmp 7)⟩,
    ⟨(some 2), none, .mov (.tmp 8)⟩])
  .ret))
def g43 : Fn := ⟨1, 9, [.tmp 2], b43⟩
/- slices.ContainsFunc[[]int32,int32] -/
def b44 : AC :=
  (.seq (.reg [⟨(some 4), none, .mov (.con (.bool false))⟩])
  (.seq (.reg [⟨(some 5), none, .mov (.tmp 0)⟩,
    ⟨(some 6), none, .mov (.tmp 1)⟩,
    ⟨(some 7), none, .call 56 [(.tmp 5), (.tmp 6)]⟩,
    ⟨(some 8), none, .bin .geq (.tmp 7) (.con (.int .i64 0))⟩,
    ⟨(some 4), none, .mov (.tmp 8)⟩])
  .ret))
def g44 : Fn := ⟨2, 9, [.tmp 4], b44⟩
/- quiver/lists.Check -/
def b45 : AC :=
  (.seq (.reg [⟨(some 1), none, .box (.tmp 0)⟩,
    ⟨(some 2), none, .mov (.con (.int .i64 0))⟩])
  (.seq (.seq (.reg [⟨(some 6), none, .faddr (.tmp 1) 0⟩,
    ⟨(some 7), none, .load false 1 (.tmp 6)⟩,
    ⟨(some 8), none, .call 57 [(.tmp 7)]⟩,
    ⟨(some 9), none, .un .not (.tmp 8)⟩,
    ⟨(some 10), none, .mov (.tmp 9)⟩,
    ⟨(some 11), (some (10, false)), .faddr (.tmp 1) 1⟩,
    ⟨(some 12), (some (10, false)), .load false 1 (.tmp 11)⟩,
    ⟨(some 13), (some (10, false)), .len (.tmp 12)⟩,
    ⟨(some 14), (some (10, false)), .faddr (.tmp 1) 0⟩,
    ⟨(some 15), (some (10, false)), .load false 1 (.tmp 14)⟩,
    ⟨(some 16), (some (10, false)), .len (.tmp 15)⟩,
    ⟨(some 17), (some (10, false)), .bin .neq (.tmp 13) (.tmp 16)⟩,
    ⟨(some 18), none, .pick (.tmp 10) (.con (.bool true)) (.tmp 17)⟩])
  (.cond (.tmp 18)
   (.seq (.reg [⟨(some 2), none, .mov (.con (.int .i64 230))⟩])
   .ret)
   .skip))
  (.seq (.seq (.reg [⟨(some 19), none, .faddr (.tmp 1) 1⟩,
    ⟨(some 20), none, .load false 1 (.tmp 19)⟩,
    ⟨(some 21), none, .len (.tmp 20)⟩,
    ⟨(some 22), none, .mov (.con (.int .i64 0))⟩])
  (.block 0 (.loop (.seq (.reg [⟨(some 23), none, .bin .lss (.tmp 22) (.tmp 21)⟩])
    (.seq (.cond (.tmp 23)
     .skip
     (.exit 0))
    (.seq (.block 1 (.seq (.reg [⟨(some 24), none, .mov (.tmp 22)⟩,
       ⟨(some 25), none, .iaddr 2 (.tmp 20) (.tmp 22)⟩,
       ⟨(some 26), none, .load true 2 (.tmp 25)⟩,
       ⟨(some 4), none, .alloc (.agg [(.int .u64 0), (.int .u64 0)])⟩,
       ⟨(some 3), none, .mov (.tmp 24)⟩,
       ⟨none, none, .store 2 (.tmp 4) (.tmp 26)⟩])
     (.seq (.regd [⟨[⟨⟨(some 27), none, .load true 2 (.tmp 4)⟩, false, false, false, 0, [1], none⟩,
       ⟨⟨(some 28), none, .faddr (.tmp 1) 1⟩, true, false, false, 0, [], none⟩,
       ⟨⟨(some 29), none, .load false 1 (.tmp 28)⟩, false, false, false, 0, [1], none⟩,
       ⟨⟨(some 30), none, .mov (.tmp 3)⟩, true, false, false, 0, [], none⟩,
       ⟨⟨(some 31), none, .slice 2 (.tmp 29) none (some (.tmp 30))⟩, true, false, false, 0, [], none⟩,
       ⟨⟨(some 32), none, .call 59 [(.tmp 31)]⟩, false, false, false, 0, [1], none⟩,
       ⟨⟨(some 33), none, .lit 2 [(.tmp 27), (.tmp 32)]⟩, false, false, true, 0, [1], none⟩,
       ⟨⟨(some 34), none, .call 58 [(.tmp 33)]⟩, false, false, false, 1, [1], none⟩,
       ⟨⟨(some 5), none, .alloc (.agg [(.int .u64 0), (.int .u64 0)])⟩, false, false, true, 1, [0], none⟩], 2, [⟨none, none, .store 2 (.tmp 5) (.tmp 34)⟩]⟩])
     (.seq (.reg [⟨(some 35), none, .load true 2 (.tmp 4)⟩,
       ⟨(some 36), none, .call 60 [(.tmp 35)]⟩,
       ⟨(some 37), none, .bin .neq (.tmp 36) (.con (.int .i64 0))⟩,
       ⟨(some 38), none, .mov (.tmp 37)⟩,
       ⟨(some 39), (some (38, false)), .load true 2 (.tmp 5)⟩,
       ⟨(some 40), (some (38, false)), .call 61 [(.tmp 39)]⟩,
       ⟨(some 41), (some (38, false)), .bin .gtr (.tmp 40) (.con (.int .i64 0))⟩,
       ⟨(some 42), none, .pick (.tmp 38) (.con (.bool true)) (.tmp 41)⟩])
     (.cond (.tmp 42)
      (.seq (.reg [⟨(some 2), none, .mov (.con (.int .i64 230))⟩])
      .ret)
      .skip)))))
    (.reg [⟨(some 43), none, .bin .add (.tmp 22) (.con (.int .i64 1))⟩,
      ⟨(some 22), none, .mov (.tmp 43)⟩])))))))
  (.seq (.reg [⟨(some 2), none, .mov (.con (.int .i64 0))⟩])
  .ret))))
def g45 : Fn := ⟨1, 44, [.tmp 2], b45⟩
/- slices.SortFunc[[]quiver/api.Hit,quiver/api.Hit] -/
def b46 : AC :=
  (.seq (.reg [⟨(some 5), none, .mov (.tmp 0)⟩,
    ⟨(some 6), none, .len (.tmp 5)⟩,
    ⟨(some 4), none, .mov (.tmp 6)⟩])
  (.reg [⟨(some 7), none, .mov (.tmp 0)⟩,
    ⟨(some 8), none, .mov (.tmp 4)⟩,
    ⟨(some 9), none, .mov (.tmp 4)⟩,
    ⟨(some 10), none, .conv .u64 (.tmp 9)⟩,
    ⟨(some 11), none, .call 63 [(.tmp 10)]⟩,
    ⟨(some 12), none, .mov (.tmp 1)⟩,
    ⟨(some 13), none, .call 62 [(.tmp 7), (.con (.int .i64 0)), (.tmp 8), (.tmp 11), (.tmp 12)]⟩]))
def g46 : Fn := ⟨2, 14, [], b46⟩
/- (quiver/probe.searcher).places$1 -/
def b47 : AC :=
  (.seq (.reg [⟨(some 2), none, .box (.tmp 0)⟩,
    ⟨(some 3), none, .box (.tmp 1)⟩,
    ⟨(some 4), none, .mov (.con (.int .i64 0))⟩])
  (.seq (.regd [⟨[⟨⟨(some 5), none, .faddr (.tmp 2) 1⟩, true, false, false, 0, [], none⟩,
    ⟨⟨(some 6), none, .load false 1 (.tmp 5)⟩, false, false, false, 0, [], none⟩,
    ⟨⟨(some 7), none, .faddr (.tmp 3) 1⟩, true, false, false, 0, [], none⟩,
    ⟨⟨(some 8), none, .load false 1 (.tmp 7)⟩, false, false, false, 0, [], none⟩,
    ⟨⟨(some 9), none, .call 35 [(.tmp 6), (.tmp 8)]⟩, false, false, false, 0, [], none⟩,
    ⟨⟨(some 10), none, .faddr (.tmp 2) 0⟩, true, false, false, 0, [], none⟩,
    ⟨⟨(some 11), none, .load false 1 (.tmp 10)⟩, false, false, false, 0, [], none⟩,
    ⟨⟨(some 12), none, .faddr (.tmp 3) 0⟩, true, false, false, 0, [], none⟩,
    ⟨⟨(some 13), none, .load false 1 (.tmp 12)⟩, false, false, false, 0, [], none⟩], 0, [⟨(some 14), none, .call 35 [(.tmp 11), (.tmp 13)]⟩,
    ⟨(some 15), none, .lit 1 [(.tmp 9), (.tmp 14)]⟩,
    ⟨(some 16), none, .call 34 [(.tmp 15)]⟩,
    ⟨(some 4), none, .mov (.tmp 16)⟩]⟩])
  .ret))
def g47 : Fn := ⟨2, 17, [.tmp 4], b47⟩
/- (quiver/probe.searcher).places$2 -/
def b48 : AC :=
  (.seq (.reg [⟨(some 6), none, .load false 1 (.tmp 1)⟩,
    ⟨(some 7), none, .len (.tmp 6)⟩,
    ⟨(some 8), none, .mov (.con (.int .i64 0))⟩])
  (.block 0 (.loop (.seq (.reg [⟨(some 9), none, .bin .lss (.tmp 8) (.tmp 7)⟩])
    (.seq (.cond (.tmp 9)
     .skip
     (.exit 0))
    (.seq (.block 1 (.seq (.reg [⟨(some 10), none, .mov (.tmp 8)⟩,
       ⟨(some 11), none, .iaddr 2 (.tmp 6) (.tmp 8)⟩,
       ⟨(some 12), none, .load true 2 (.tmp 11)⟩,
       ⟨(some 5), none, .alloc (.agg [(.int .u64 0), (.int .u64 0)])⟩,
       ⟨(some 4), none, .mov (.tmp 10)⟩,
       ⟨none, none, .store 2 (.tmp 5) (.tmp 12)⟩])
     (.seq (.reg [⟨(some 13), none, .mov (.tmp 4)⟩,
       ⟨(some 14), none, .faddr (.tmp 2) 0⟩,
       ⟨(some 15), none, .faddr (.tmp 14) 3⟩,
       ⟨(some 16), none, .load false 1 (.tmp 15)⟩,
       ⟨(some 17), none, .bin .eql (.tmp 13) (.tmp 16)⟩,
       ⟨(some 18), none, .mov (.tmp 17)⟩,
       ⟨(some 19), (some (18, false)), .mov (.tmp 0)⟩,
       ⟨(some 20), (some (18, false)), .faddr (.tmp 5) 0⟩,
       ⟨(some 21), (some (18, false)), .load false 1 (.tmp 20)⟩,
       ⟨(some 22), (some (18, false)), .conv .i64 (.tmp 21)⟩,
       ⟨(some 23), (some (18, false)), .callv (.tmp 19) [(.tmp 22)]⟩,
       ⟨(some 24), (some (18, false)), .un .not (.tmp 23)⟩,
       ⟨(some 25), none, .pick (.tmp 18) (.con (.bool true)) (.tmp 24)⟩])
     (.cond (.tmp 25)
      .ret
      .skip))))
    (.reg [⟨(some 26), none, .bin .add (.tmp 8) (.con (.int .i64 1))⟩,
      ⟨(some 8), none, .mov (.tmp 26)⟩])))))))
def g48 : Fn := ⟨3, 27, [], b48⟩
/- quiver/quiverref13.Centroids -/
def b49 : AC :=
  (.seq (.reg [⟨(some 2), none, .mov (.con (.bool false))⟩])
  (.seq (.reg [⟨(some 3), none, .mov (.tmp 0)⟩,
    ⟨(some 4), none, .len (.tmp 3)⟩,
    ⟨(some 5), none, .bin .leq (.tmp 4) (.con (.int .i64 6))⟩,
    ⟨(some 6), none, .mov (.tmp 5)⟩,
    ⟨(some 7), (some (6, true)), .mov (.tmp 0)⟩,
    ⟨(some 8), (some (6, true)), .call 64 [(.tmp 7)]⟩,
    ⟨(some 9), (some (6, true)), .bin .eql (.tmp 8) (.con (.int .i64 0))⟩,
    ⟨(some 10), none, .pick (.tmp 6) (.tmp 9) (.con (.bool false))⟩,
    ⟨(some 2), none, .mov (.tmp 10)⟩])
  .ret))
def g49 : Fn := ⟨1, 11, [.tmp 2], b49⟩
/- slices.IndexFunc[[]quiver/api.Row,quiver/api.Row] -/
def b50 : AC :=
  (.seq (.reg [⟨(some 4), none, .mov (.con (.int .i64 0))⟩])
  (.seq (.seq (.reg [⟨(some 6), none, .mov (.tmp 0)⟩,
    ⟨(some 7), none, .len (.tmp 6)⟩,
    ⟨(some 8), none, .mov (.con (.int .i64 0))⟩])
  (.block 0 (.loop (.seq (.reg [⟨(some 9), none, .bin .lss (.tmp 8) (.tmp 7)⟩])
    (.seq (.cond (.tmp 9)
     .skip
     (.exit 0))
    (.seq (.block 1 (.seq (.reg [⟨(some 10), none, .mov (.tmp 8)⟩,
       ⟨(some 5), none, .mov (.tmp 10)⟩])
     (.seq (.reg [⟨(some 11), none, .mov (.tmp 1)⟩,
       ⟨(some 12), none, .mov (.tmp 0)⟩,
       ⟨(some 13), none, .mov (.tmp 5)⟩,
       ⟨(some 14), none, .iaddr 2 (.tmp 12) (.tmp 13)⟩,
       ⟨(some 15), none, .load true 2 (.tmp 14)⟩,
       ⟨(some 16), none, .callv (.tmp 11) [(.tmp 15)]⟩])
     (.cond (.tmp 16)
      (.seq (.reg [⟨(some 17), none, .mov (.tmp 5)⟩,
        ⟨(some 4), none, .mov (.tmp 17)⟩])
      .ret)
      .skip))))
    (.reg [⟨(some 18), none, .bin .add (.tmp 8) (.con (.int .i64 1))⟩,
      ⟨(some 8), none, .mov (.tmp 18)⟩])))))))
  (.seq (.reg [⟨(some 4), none, .mov (.con (.int .i64 (-1)))⟩])
  .ret)))
def g50 : Fn := ⟨2, 19, [.tmp 4], b50⟩
/- cmp.isNaN[uint64] -/
def b51 : AC :=
  (.seq (.reg [⟨(some 2), none, .mov (.con (.bool false))⟩])
  (.seq (.reg [⟨(some 3), none, .mov (.tmp 0)⟩,
    ⟨(some 4), none, .mov (.tmp 0)⟩,
    ⟨(some 5), none, .bin .neq (.tmp 3) (.tmp 4)⟩,
    ⟨(some 2), none, .mov (.tmp 5)⟩])
  .ret))
def g51 : Fn := ⟨1, 6, [.tmp 2], b51⟩
/- quiver/vec.all$1 -/
def b52 : AC :=
  (.seq (.reg [⟨(some 3), none, .mov (.con (.bool false))⟩])
  (.seq (.reg [⟨(some 4), none, .mov (.tmp 0)⟩,
    ⟨(some 5), none, .len (.tmp 4)⟩,
    ⟨(some 6), none, .load false 1 (.tmp 1)⟩,
    ⟨(some 7), none, .iaddr 1 (.tmp 6) (.con (.int .i64 0))⟩,
    ⟨(some 8), none, .load false 1 (.tmp 7)⟩,
    ⟨(some 9), none, .len (.tmp 8)⟩,
    ⟨(some 10), none, .bin .neq (.tmp 5) (.tmp 9)⟩,
    ⟨(some 3), none, .mov (.tmp 10)⟩])
  .ret))
def g52 : Fn := ⟨2, 11, [.tmp 3], b52⟩
/- slices.ContainsFunc[[][]int32,[]int32] -/
def b53 : AC :=
  (.seq (.reg [⟨(some 4), none, .mov (.con (.bool false))⟩])
  (.seq (.reg [⟨(some 5), none, .mov (.tmp 0)⟩,
    ⟨(some 6), none, .mov (.tmp 1)⟩,
    ⟨(some 7), none, .call 65 [(.tmp 5), (.tmp 6)]⟩,
    ⟨(some 8), none, .bin .geq (.tmp 7) (.con (.int .i64 0))⟩,
    ⟨(some 4), none, .mov (.tmp 8)⟩])
  .ret))
def g53 : Fn := ⟨2, 9, [.tmp 4], b53⟩
/- quiver/vec.both -/
def b54 : AC :=
  (.seq (.reg [⟨(some 2), none, .box (.tmp 0)⟩,
    ⟨(some 3), none, .box (.tmp 1)⟩,
    ⟨(some 4), none, .mov (.con .nilF)⟩])
  (.seq (.reg [⟨(some 5), none, .mkfn 66 [(.tmp 2), (.tmp 3)]⟩,
    ⟨(some 4), none, .mov (.tmp 5)⟩])
  .ret))
def g54 : Fn := ⟨2, 6, [.tmp 4], b54⟩
/- quiver/topk.First -/
def b55 : AC :=
  (.seq (.reg [⟨(some 4), none, .mov (.con .nilS)⟩,
    ⟨(some 5), none, .mov (.con (.int .i64 0))⟩])
  (.seq (.reg [⟨(some 6), none, .mov (.tmp 1)⟩,
    ⟨(some 7), none, .mov (.tmp 0)⟩,
    ⟨(some 8), none, .lit 1 [(.tmp 7)]⟩,
    ⟨(some 9), none, .call 67 [(.tmp 6), (.tmp 8)]⟩,
    ⟨(some 10), none, .ext (.tmp 9) 0⟩,
    ⟨(some 11), none, .ext (.tmp 9) 1⟩,
    ⟨(some 4), none, .mov (.tmp 10)⟩,
    ⟨(some 5), none, .mov (.tmp 11)⟩])
  .ret))
def g55 : Fn := ⟨2, 12, [.tmp 4, .tmp 5], b55⟩
/- slices.IndexFunc[[]int32,int32] -/
def b56 : AC :=
  (.seq (.reg [⟨(some 4), none, .mov (.con (.int .i64 0))⟩])
  (.seq (.seq (.reg [⟨(some 6), none, .mov (.tmp 0)⟩,
    ⟨(some 7), none, .len (.tmp 6)⟩,
    ⟨(some 8), none, .mov (.con (.int .i64 0))⟩])
  (.block 0 (.loop (.seq (.reg [⟨(some 9), none, .bin .lss (.tmp 8) (.tmp 7)⟩])
    (.seq (.cond (.tmp 9)
     .skip
     (.exit 0))
    (.seq (.block 1 (.seq (.reg [⟨(some 10), none, .mov (.tmp 8)⟩,
       ⟨(some 5), none, .mov (.tmp 10)⟩])
     (.seq (.reg [⟨(some 11), none, .mov (.tmp 1)⟩,
       ⟨(some 12), none, .mov (.tmp 0)⟩,
       ⟨(some 13), none, .mov (.tmp 5)⟩,
       ⟨(some 14), none, .iaddr 1 (.tmp 12) (.tmp 13)⟩,
       ⟨(some 15), none, .load false 1 (.tmp 14)⟩,
       ⟨(some 16), none, .callv (.tmp 11) [(.tmp 15)]⟩])
     (.cond (.tmp 16)
      (.seq (.reg [⟨(some 17), none, .mov (.tmp 5)⟩,
        ⟨(some 4), none, .mov (.tmp 17)⟩])
      .ret)
      .skip))))
    (.reg [⟨(some 18), none, .bin .add (.tmp 8) (.con (.int .i64 1))⟩,
      ⟨(some 8), none, .mov (.tmp 18)⟩])))))))
  (.seq (.reg [⟨(some 4), none, .mov (.con (.int .i64 (-1)))⟩])
  .ret)))
def g56 : Fn := ⟨2, 19, [.tmp 4], b56⟩
/- quiver/lists.centroids -/
def b57 : AC :=
  (.seq (.reg [⟨(some 1), none, .box (.tmp 0)⟩,
    ⟨(some 2), none, .mov (.con (.bool false))⟩])
  (.seq (.seq (.reg [⟨(some 4), none, .load false 1 (.tmp 1)⟩,
    ⟨(some 5), none, .len (.tmp 4)⟩,
    ⟨(some 6), none, .bin .gtr (.tmp 5) (.con (.int .i64 6))⟩])
  (.cond (.tmp 6)
   (.seq (.reg [⟨(some 2), none, .mov (.con (.bool false))⟩])
   .ret)
   .skip))
  (.seq (.reg [⟨(some 7), none, .mkfn 68 [(.tmp 1)]⟩,
    ⟨(some 3), none, .mov (.tmp 7)⟩])
  (.seq (.reg [⟨(some 8), none, .load false 1 (.tmp 1)⟩,
    ⟨(some 9), none, .mov (.tmp 3)⟩,
    ⟨(some 10), none, .call 53 [(.tmp 8), (.tmp 9)]⟩,
    ⟨(some 11), none, .un .not (.tmp 10)⟩,
    ⟨(some 2), none, .mov (.tmp 11)⟩])
  .ret))))
def g57 : Fn := ⟨1, 12, [.tmp 2], b57⟩
/- quiver/mask.And -/
def b58 : AC :=
  (.seq (.reg [⟨(some 2), none, .alloc (.agg [(.int .u64 0), (.int .u64 0)])⟩])
  (.seq (.reg [⟨(some 6), none, .call 70 []⟩,
    ⟨(some 3), none, .alloc (.agg [(.int .u64 0), (.int .u64 0)])⟩,
    ⟨none, none, .store 2 (.tmp 3) (.tmp 6)⟩])
  (.seq (.seq (.reg [⟨(some 7), none, .mov (.tmp 0)⟩,
    ⟨(some 8), none, .len (.tmp 7)⟩,
    ⟨(some 9), none, .mov (.con (.int .i64 0))⟩])
  (.block 0 (.loop (.seq (.reg [⟨(some 10), none, .bin .lss (.tmp 9) (.tmp 8)⟩])
    (.seq (.cond (.tmp 10)
     .skip
     (.exit 0))
    (.seq (.block 1 (.seq (.reg [⟨(some 11), none, .iaddr 2 (.tmp 7) (.tmp 9)⟩,
       ⟨(some 12), none, .load true 2 (.tmp 11)⟩,
       ⟨(some 5), none, .alloc (.agg [(.int .u64 0), (.int .u64 0)])⟩,
       ⟨none, none, .store 2 (.tmp 5) (.tmp 12)⟩])
     (.reg [⟨(some 13), none, .load true 2 (.tmp 3)⟩,
       ⟨(some 14), none, .load true 2 (.tmp 5)⟩,
       ⟨(some 15), none, .call 71 [(.tmp 13), (.tmp 14)]⟩,
       ⟨none, none, .store 2 (.tmp 3) (.tmp 15)⟩])))
    (.reg [⟨(some 16), none, .bin .add (.tmp 9) (.con (.int .i64 1))⟩,
      ⟨(some 9), none, .mov (.tmp 16)⟩])))))))
  (.seq (.reg [⟨(some 17), none, .load true 2 (.tmp 3)⟩,
    ⟨none, none, .store 2 (.tmp 2) (.tmp 17)⟩])
  .ret))))
def g58 : Fn := ⟨1, 18, [.cell 2 true 2], b58⟩
/- quiver/mask.Or -/
def b59 : AC :=
  (.seq (.reg [⟨(some 2), none, .alloc (.agg [(.int .u64 0), (.int .u64 0)])⟩])
  (.seq (.reg [⟨(some 3), none, .alloc (.agg [(.int .u64 0), (.int .u64 0)])⟩])
  (.seq (.seq (.reg [⟨(some 6), none, .mov (.tmp 0)⟩,
    ⟨(some 7), none, .len (.tmp 6)⟩,
    ⟨(some 8), none, .mov (.con (.int .i64 0))⟩])
  (.block 0 (.loop (.seq (.reg [⟨(some 9), none, .bin .lss (.tmp 8) (.tmp 7)⟩])
    (.seq (.cond (.tmp 9)
     .skip
     (.exit 0))
    (.seq (.block 1 (.seq (.reg [⟨(some 10), none, .iaddr 2 (.tmp 6) (.tmp 8)⟩,
       ⟨(some 11), none, .load true 2 (.tmp 10)⟩,
       ⟨(some 5), none, .alloc (.agg [(.int .u64 0), (.int .u64 0)])⟩,
       ⟨none, none, .store 2 (.tmp 5) (.tmp 11)⟩])
     (.reg [⟨(some 12), none, .load true 2 (.tmp 3)⟩,
       ⟨(some 13), none, .load true 2 (.tmp 5)⟩,
       ⟨(some 14), none, .call 72 [(.tmp 12), (.tmp 13)]⟩,
       ⟨none, none, .store 2 (.tmp 3) (.tmp 14)⟩])))
    (.reg [⟨(some 15), none, .bin .add (.tmp 8) (.con (.int .i64 1))⟩,
      ⟨(some 8), none, .mov (.tmp 15)⟩])))))))
  (.seq (.regd [⟨[⟨⟨(some 16), none, .load true 2 (.tmp 3)⟩, false, false, false, 0, [], none⟩,
    ⟨⟨(some 17), none, .call 70 []⟩, false, false, false, 0, [], none⟩], 0, [⟨(some 18), none, .call 71 [(.tmp 16), (.tmp 17)]⟩,
    ⟨none, none, .store 2 (.tmp 2) (.tmp 18)⟩]⟩])
  .ret))))
def g59 : Fn := ⟨1, 19, [.cell 2 true 2], b59⟩
/- quiver/mask.Check -/
def b60 : AC :=
  (.seq (.reg [⟨(some 1), none, .box (.tmp 0)⟩,
    ⟨(some 2), none, .mov (.con (.int .i64 0))⟩])
  (.seq (.seq (.regd [⟨[⟨⟨(some 3), none, .load true 2 (.tmp 1)⟩, false, false, false, 0, [], none⟩,
    ⟨⟨(some 4), none, .call 70 []⟩, false, false, false, 0, [], none⟩,
    ⟨⟨(some 5), none, .call 73 [(.tmp 3), (.tmp 4)]⟩, false, false, false, 0, [], none⟩,
    ⟨⟨(some 6), none, .build [(.int .u64 0), (.int .u64 0)] []⟩, true, false, false, 0, [], none⟩], 0, [⟨(some 7), none, .eqA true [.int, .int] (.tmp 5) (.tmp 6)⟩]⟩])
  (.cond (.tmp 7)
   (.seq (.reg [⟨(some 2), none, .mov (.con (.int .i64 200))⟩])
   .ret)
   .skip))
  (.seq (.reg [⟨(some 2), none, .mov (.con (.int .i64 0))⟩])
  .ret)))
def g60 : Fn := ⟨1, 8, [.tmp 2], b60⟩
/- quiver/mask.Count -/
def b61 : AC :=
  (.seq (.reg [⟨(some 1), none, .box (.tmp 0)⟩,
    ⟨(some 2), none, .mov (.con (.int .i64 0))⟩])
  (.seq (.reg [⟨(some 3), none, .mov (.con (.int .i64 0))⟩])
  (.seq (.seq (.regd [⟨[⟨⟨(some 6), none, .load true 2 (.tmp 1)⟩, false, false, false, 0, [], none⟩,
    ⟨⟨(some 7), none, .call 70 []⟩, false, false, false, 0, [], none⟩,
    ⟨⟨(some 8), none, .call 71 [(.tmp 6), (.tmp 7)]⟩, false, false, false, 0, [], none⟩,
    ⟨⟨(some 9), none, .mov (.con (.int .i64 0))⟩, true, false, false, 0, [], none⟩], 0, []⟩])
  (.block 0 (.loop (.seq (.reg [⟨(some 10), none, .bin .lss (.tmp 9) (.con (.int .i64 2))⟩])
    (.seq (.cond (.tmp 10)
     .skip
     (.exit 0))
    (.seq (.block 1 (.seq (.reg [⟨(some 11), none, .idxA false 2 1 (.tmp 8) (.tmp 9)⟩,
       ⟨(some 5), none, .mov (.tmp 11)⟩])
     (.reg [⟨(some 12), none, .mov (.tmp 3)⟩,
       ⟨(some 13), none, .mov (.tmp 5)⟩,
       ⟨(some 14), none, .call 74 [(.tmp 13)]⟩,
       ⟨(some 15), none, .bin .add (.tmp 12) (.tmp 14)⟩,
       ⟨(some 3), none, .mov (.tmp 15)⟩])))
    (.reg [⟨(some 16), none, .bin .add (.tmp 9) (.con (.int .i64 1))⟩,
      ⟨(some 9), none, .mov (.tmp 16)⟩])))))))
  (.seq (.reg [⟨(some 17), none, .mov (.tmp 3)⟩,
    ⟨(some 2), none, .mov (.tmp 17)⟩])
  .ret))))
def g61 : Fn := ⟨1, 18, [.tmp 2], b61⟩
/- slices.pdqsortCmpFunc[quiver/api.Hit] -/
def b62 : AC :=
  (.seq (.reg [⟨(some 10), none, .mov (.con (.bool true))⟩])
  (.seq (.reg [⟨(some 11), none, .mov (.con (.bool true))⟩])
  (.block 0 (.loop (.block 1 (.seq (.reg [⟨(some 21), none, .mov (.tmp 2)⟩,
       ⟨(some 22), none, .mov (.tmp 1)⟩,
       ⟨(some 23), none, .bin .sub (.tmp 21) (.tmp 22)⟩,
       ⟨(some 12), none, .mov (.tmp 23)⟩])
     (.seq (.seq (.reg [⟨(some 24), none, .mov (.tmp 12)⟩,
       ⟨(some 25), none, .bin .leq (.tmp 24) (.con (.int .i64 12))⟩])
     (.cond (.tmp 25)
      (.seq (.reg [⟨(some 26), none, .mov (.tmp 0)⟩,
        ⟨(some 27), none, .mov (.tmp 1)⟩,
        ⟨(some 28), none, .mov (.tmp 2)⟩,
        ⟨(some 29), none, .mov (.tmp 4)⟩,
        ⟨(some 30), none, .call 75 [(.tmp 26), (.tmp 27), (.tmp 28), (.tmp 29)]⟩])
      .ret)
      .skip))
     (.seq (.seq (.reg [⟨(some 31), none, .mov (.tmp 3)⟩,
       ⟨(some 32), none, .bin .eql (.tmp 31) (.con (.int .i64 0))⟩])
     (.cond (.tmp 32)
      (.seq (.reg [⟨(some 33), none, .mov (.tmp 0)⟩,
        ⟨(some 34), none, .mov (.tmp 1)⟩,
        ⟨(some 35), none, .mov (.tmp 2)⟩,
        ⟨(some 36), none, .mov (.tmp 4)⟩,
        ⟨(some 37), none, .call 76 [(.tmp 33), (.tmp 34), (.tmp 35), (.tmp 36)]⟩])
      .ret)
      .skip))
     (.seq (.seq (.reg [⟨(some 38), none, .mov (.tmp 10)⟩,
       ⟨(some 39), none, .un .not (.tmp 38)⟩])
     (.cond (.tmp 39)
      (.seq (.reg [⟨(some 40), none, .mov (.tmp 0)⟩,
        ⟨(some 41), none, .mov (.tmp 1)⟩,
        ⟨(some 42), none, .mov (.tmp 2)⟩,
        ⟨(some 43), none, .mov (.tmp 4)⟩,
        ⟨(some 44), none, .call 77 [(.tmp 40), (.tmp 41), (.tmp 42), (.tmp 43)]⟩])
      (.reg [⟨(some 45), none, .mov (.tmp 3)⟩,
        ⟨(some 46), none, .bin .sub (.tmp 45) (.con (.int .i64 1))⟩,
        ⟨(some 3), none, .mov (.tmp 46)⟩]))
      .skip))
     (.seq (.reg [⟨(some 48), none, .mov (.tmp 0)⟩,
       ⟨(some 49), none, .mov (.tmp 1)⟩,
       ⟨(some 50), none, .mov (.tmp 2)⟩,
       ⟨(some 51), none, .mov (.tmp 4)⟩,
       ⟨(some 52), none, .call 78 [(.tmp 48), (.tmp 49), (.tmp 50), (.tmp 51)]⟩,
       ⟨(some 47), none, .mov (.tmp 52)⟩,
       ⟨(some 53), none, .ext (.tmp 47) 0⟩,
       ⟨(some 54), none, .ext (.tmp 47) 1⟩,
       ⟨(some 13), none, .mov (.tmp 53)⟩,
       ⟨(some 14), none, .mov (.tmp 54)⟩])
     (.seq (.seq (.reg [⟨(some 55), none, .mov (.tmp 14)⟩,
       ⟨(some 56), none, .bin .eql (.tmp 55) (.con (.int .i64 2))⟩])
     (.cond (.tmp 56)
      (.seq (.reg [⟨(some 57), none, .mov (.tmp 0)⟩,
        ⟨(some 58), none, .mov (.tmp 1)⟩,
        ⟨(some 59), none, .mov (.tmp 2)⟩,
        ⟨(some 60), none, .mov (.tmp 4)⟩,
        ⟨(some 61), none, .call 79 [(.tmp 57), (.tmp 58), (.tmp 59), (.tmp 60)]⟩])
      (.seq (.reg [⟨(some 62), none, .mov (.tmp 2)⟩,
        ⟨(some 63), none, .bin .sub (.tmp 62) (.con (.int .i64 1))⟩,
        ⟨(some 64), none, .mov (.tmp 13)⟩,
        ⟨(some 65), none, .mov (.tmp 1)⟩,
        ⟨(some 66), none, .bin .sub (.tmp 64) (.tmp 65)⟩,
        ⟨(some 67), none, .bin .sub (.tmp 63) (.tmp 66)⟩,
        ⟨(some 13), none, .mov (.tmp 67)⟩])
      (.reg [⟨(some 14), none, .mov (.con (.int .i64 1))⟩])))
      .skip))
     (.seq (.seq (.reg [⟨(some 68), none, .mov (.tmp 10)⟩,
       ⟨(some 69), none, .mov (.tmp 68)⟩,
       ⟨(some 70), (some (69, true)), .mov (.tmp 11)⟩,
       ⟨(some 71), none, .pick (.tmp 69) (.tmp 70) (.con (.bool false))⟩,
       ⟨(some 72), none, .mov (.tmp 71)⟩,
       ⟨(some 73), (some (72, true)), .mov (.tmp 14)⟩,
       ⟨(some 74), (some (72, true)), .bin .eql (.tmp 73) (.con (.int .i64 1))⟩,
       ⟨(some 75), none, .pick (.tmp 72) (.tmp 74) (.con (.bool false))⟩])
     (.cond (.tmp 75)
      (.seq (.reg [⟨(some 76), none, .mov (.tmp 0)⟩,
        ⟨(some 77), none, .mov (.tmp 1)⟩,
        ⟨(some 78), none, .mov (.tmp 2)⟩,
        ⟨(some 79), none, .mov (.tmp 4)⟩,
        ⟨(some 80), none, .call 80 [(.tmp 76), (.tmp 77), (.tmp 78), (.tmp 79)]⟩])
      (.cond (.tmp 80)
       .ret
       .skip))
      .skip))
     (.seq (.seq (.regd [⟨[], 0, [⟨(some 81), none, .mov (.tmp 1)⟩,
       ⟨(some 82), none, .bin .gtr (.tmp 81) (.con (.int .i64 0))⟩,
       ⟨(some 83), none, .mov (.tmp 82)⟩]⟩,
      ⟨[⟨⟨(some 84), (some (83, true)), .mov (.tmp 4)⟩, true, false, false, 0, [], none⟩,
       ⟨⟨(some 85), (some (83, true)), .mov (.tmp 0)⟩, true, false, false, 0, [], none⟩,
       ⟨⟨(some 86), (some (83, true)), .mov (.tmp 1)⟩, true, false, false, 0, [], none⟩,
       ⟨⟨(some 87), (some (83, true)), .bin .sub (.tmp 86) (.con (.int .i64 1))⟩, true, false, false, 0, [], none⟩,
       ⟨⟨(some 88), (some (83, true)), .iaddr 2 (.tmp 85) (.tmp 87)⟩, true, false, false, 0, [], none⟩,
       ⟨⟨(some 89), (some (83, true)), .load true 2 (.tmp 88)⟩, false, false, false, 0, [], none⟩,
       ⟨⟨(some 90), (some (83, true)), .mov (.tmp 0)⟩, true, false, false, 0, [], none⟩,
       ⟨⟨(some 91), (some (83, true)), .mov (.tmp 13)⟩, true, false, false, 0, [], none⟩,
       ⟨⟨(some 92), (some (83, true)), .iaddr 2 (.tmp 90) (.tmp 91)⟩, true, false, false, 0, [], none⟩,
       ⟨⟨(some 93), (some (83, true)), .load true 2 (.tmp 92)⟩, false, false, false, 0, [], none⟩], 0, [⟨(some 94), (some (83, true)), .callv (.tmp 84) [(.tmp 89), (.tmp 93)]⟩,
       ⟨(some 95), (some (83, true)), .bin .lss (.tmp 94) (.con (.int .i64 0))⟩,
       ⟨(some 96), (some (83, true)), .un .not (.tmp 95)⟩,
       ⟨(some 97), none, .pick (.tmp 83) (.tmp 96) (.con (.bool false))⟩]⟩])
     (.cond (.tmp 97)
      (.seq (.reg [⟨(some 98), none, .mov (.tmp 0)⟩,
        ⟨(some 99), none, .mov (.tmp 1)⟩,
        ⟨(some 100), none, .mov (.tmp 2)⟩,
        ⟨(some 101), none, .mov (.tmp 13)⟩,
        ⟨(some 102), none, .mov (.tmp 4)⟩,
        ⟨(some 103), none, .call 81 [(.tmp 98), (.tmp 99), (.tmp 100), (.tmp 101), (.tmp 102)]⟩,
        ⟨(some 15), none, .mov (.tmp 103)⟩])
      (.seq (.reg [⟨(some 104), none, .mov (.tmp 15)⟩,
        ⟨(some 1), none, .mov (.tmp 104)⟩])
      (.exit 1)))
      .skip))
     (.seq (.reg [⟨(some 106), none, .mov (.tmp 0)⟩,
       ⟨(some 107), none, .mov (.tmp 1)⟩,
       ⟨(some 108), none, .mov (.tmp 2)⟩,
       ⟨(some 109), none, .mov (.tmp 13)⟩,
       ⟨(some 110), none, .mov (.tmp 4)⟩,
       ⟨(some 111), none, .call 82 [(.tmp 106), (.tmp 107), (.tmp 108), (.tmp 109), (.tmp 110)]⟩,
       ⟨(some 105), none, .mov (.tmp 111)⟩,
       ⟨(some 112), none, .ext (.tmp 105) 0⟩,
       ⟨(some 113), none, .ext (.tmp 105) 1⟩,
       ⟨(some 16), none, .mov (.tmp 112)⟩,
       ⟨(some 17), none, .mov (.tmp 113)⟩])
     (.seq (.reg [⟨(some 114), none, .mov (.tmp 17)⟩,
       ⟨(some 11), none, .mov (.tmp 114)⟩])
     (.seq (.reg [⟨(some 115), none, .mov (.tmp 16)⟩,
       ⟨(some 116), none, .mov (.tmp 1)⟩,
       ⟨(some 117), none, .bin .sub (.tmp 115) (.tmp 116)⟩,
       ⟨(some 118), none, .mov (.tmp 2)⟩,
       ⟨(some 119), none, .mov (.tmp 16)⟩,
       ⟨(some 120), none, .bin .sub (.tmp 118) (.tmp 119)⟩,
       ⟨(some 18), none, .mov (.tmp 117)⟩,
       ⟨(some 19), none, .mov (.tmp 120)⟩])
     (.seq (.reg [⟨(some 121), none, .mov (.tmp 12)⟩,
       ⟨(some 122), none, .bin .quo (.tmp 121) (.con (.int .i64 8))⟩,
       ⟨(some 20), none, .mov (.tmp 122)⟩])
     (.seq (.reg [⟨(some 123), none, .mov (.tmp 18)⟩,
       ⟨(some 124), none, .mov (.tmp 19)⟩,
       ⟨(some 125), none, .bin .lss (.tmp 123) (.tmp 124)⟩])
     (.cond (.tmp 125)
      (.seq (.reg [⟨(some 126), none, .mov (.tmp 18)⟩,
        ⟨(some 127), none, .mov (.tmp 20)⟩,
        ⟨(some 128), none, .bin .geq (.tmp 126) (.tmp 127)⟩,
        ⟨(some 10), none, .mov (.tmp 128)⟩])
      (.seq (.reg [⟨(some 129), none, .mov (.tmp 0)⟩,
        ⟨(some 130), none, .mov (.tmp 1)⟩,
        ⟨(some 131), none, .mov (.tmp 16)⟩,
        ⟨(some 132), none, .mov (.tmp 3)⟩,
        ⟨(some 133), none, .mov (.tmp 4)⟩,
        ⟨(some 134), none, .call 62 [(.tmp 129), (.tmp 130), (.tmp 131), (.tmp 132), (.tmp 133)]⟩])
      (.reg [⟨(some 135), none, .mov (.tmp 16)⟩,
        ⟨(some 136), none, .bin .add (.tmp 135) (.con (.int .i64 1))⟩,
        ⟨(some 1), none, .mov (.tmp 136)⟩])))
      (.seq (.reg [⟨(some 137), none, .mov (.tmp 19)⟩,
        ⟨(some 138), none, .mov (.tmp 20)⟩,
        ⟨(some 139), none, .bin .geq (.tmp 137) (.tmp 138)⟩,
        ⟨(some 10), none, .mov (.tmp 139)⟩])
      (.seq (.reg [⟨(some 140), none, .mov (.tmp 0)⟩,
        ⟨(some 141), none, .mov (.tmp 16)⟩,
        ⟨(some 142), none, .bin .add (.tmp 141) (.con (.int .i64 1))⟩,
        ⟨(some 143), none, .mov (.tmp 2)⟩,
        ⟨(some 144), none, .mov (.tmp 3)⟩,
        ⟨(some 145), none, .mov (.tmp 4)⟩,
        ⟨(some 146), none, .call 62 [(.tmp 140), (.tmp 142), (.tmp 143), (.tmp 144), (.tmp 145)]⟩])
      (.reg [⟨(some 147), none, .mov (.tmp 16)⟩,
        ⟨(some 2), none, .mov (.tmp 147)⟩]))))))))))))))))))))))
def g62 : Fn := ⟨5, 148, [], b62⟩
/- math/bits.Len -/
def b63 : AC :=
  (.seq (.reg [⟨(some 2), none, .mov (.con (.int .i64 0))⟩])
  (.seq (.cond (.con (.bool false))
   (.seq (.reg [⟨(some 3), none, .mov (.tmp 0)⟩,
     ⟨(some 4), none, .conv .u32 (.tmp 3)⟩,
     ⟨(some 5), none, .call 83 [(.tmp 4)]⟩,
     ⟨(some 2), none, .mov (.tmp 5)⟩])
   .ret)
   .skip)
  (.seq (.reg [⟨(some 6), none, .mov (.tmp 0)⟩,
    ⟨(some 7), none, .call 84 [(.tmp 6)]⟩,
    ⟨(some 2), none, .mov (.tmp 7)⟩])
  .ret)))
def g63 : Fn := ⟨1, 8, [.tmp 2], b63⟩
/- quiver/quiverref05.All -/
def b64 : AC :=
  (.seq (.reg [⟨(some 2), none, .mov (.con (.int .i64 0))⟩])
  (.seq (.seq (.reg [⟨(some 3), none, .mov (.con (.int .i64 0))⟩])
  (.block 0 (.loop (.seq (.seq (.reg [⟨(some 5), none, .mov (.tmp 3)⟩,
      ⟨(some 6), none, .mov (.tmp 0)⟩,
      ⟨(some 7), none, .len (.tmp 6)⟩,
      ⟨(some 8), none, .bin .lss (.tmp 5) (.tmp 7)⟩])
    (.cond (.tmp 8)
     .skip
     (.exit 0)))
    (.seq (.block 1 (.seq (.reg [⟨(some 11), none, .mov (.tmp 0)⟩,
       ⟨(some 12), none, .mov (.tmp 3)⟩,
       ⟨(some 13), none, .iaddr 1 (.tmp 11) (.tmp 12)⟩,
       ⟨(some 14), none, .load false 1 (.tmp 13)⟩,
       ⟨(some 15), none, .call 25 [(.tmp 14)]⟩,
       ⟨(some 16), none, .un .not (.tmp 15)⟩])
     (.cond (.tmp 16)
      (.seq (.reg [⟨(some 2), none, .mov (.con (.int .i64 150))⟩])
      .ret)
      .skip)))
    (.reg [⟨(some 9), none, .mov (.tmp 3)⟩,
      ⟨(some 10), none, .bin .add (.tmp 9) (.con (.int .i64 1))⟩,
      ⟨(some 3), none, .mov (.tmp 10)⟩]))))))
  (.seq (.seq (.reg [⟨(some 4), none, .mov (.con (.int .i64 0))⟩])
  (.block 2 (.loop (.seq (.seq (.reg [⟨(some 17), none, .mov (.tmp 4)⟩,
      ⟨(some 18), none, .mov (.tmp 0)⟩,
      ⟨(some 19), none, .len (.tmp 18)⟩,
      ⟨(some 20), none, .bin .lss (.tmp 17) (.tmp 19)⟩])
    (.cond (.tmp 20)
     .skip
     (.exit 2)))
    (.seq (.block 3 (.seq (.regd [⟨[⟨⟨(some 23), none, .mov (.tmp 0)⟩, true, false, false, 0, [], none⟩,
       ⟨⟨(some 24), none, .mov (.tmp 4)⟩, true, false, false, 0, [], none⟩,
       ⟨⟨(some 25), none, .iaddr 1 (.tmp 23) (.tmp 24)⟩, true, false, false, 0, [], none⟩,
       ⟨⟨(some 26), none, .load false 1 (.tmp 25)⟩, false, false, false, 0, [], none⟩,
       ⟨⟨(some 27), none, .len (.tmp 26)⟩, true, false, false, 0, [], none⟩,
       ⟨⟨(some 28), none, .mov (.tmp 0)⟩, true, false, false, 0, [], none⟩,
       ⟨⟨(some 29), none, .iaddr 1 (.tmp 28) (.con (.int .i64 0))⟩, true, false, false, 0, [], none⟩,
       ⟨⟨(some 30), none, .load false 1 (.tmp 29)⟩, false, false, false, 0, [], none⟩,
       ⟨⟨(some 31), none, .len (.tmp 30)⟩, true, false, false, 0, [], none⟩], 0, [⟨(some 32), none, .bin .neq (.tmp 27) (.tmp 31)⟩]⟩])
     (.cond (.tmp 32)
      (.seq (.reg [⟨(some 2), none, .mov (.con (.int .i64 151))⟩])
      .ret)
      .skip)))
    (.reg [⟨(some 21), none, .mov (.tmp 4)⟩,
      ⟨(some 22), none, .bin .add (.tmp 21) (.con (.int .i64 1))⟩,
      ⟨(some 4), none, .mov (.tmp 22)⟩]))))))
  (.seq (.reg [⟨(some 2), none, .mov (.con (.int .i64 0))⟩])
  .ret))))
def g64 : Fn := ⟨1, 33, [.tmp 2], b64⟩
/- slices.IndexFunc[[][]int32,[]int32] -/
def b65 : AC :=
  (.seq (.reg [⟨(some 4), none, .mov (.con (.int .i64 0))⟩])
  (.seq (.seq (.reg [⟨(some 6), none, .mov (.tmp 0)⟩,
    ⟨(some 7), none, .len (.tmp 6)⟩,
    ⟨(some 8), none, .mov (.con (.int .i64 0))⟩])
  (.block 0 (.loop (.seq (.reg [⟨(some 9), none, .bin .lss (.tmp 8) (.tmp 7)⟩])
    (.seq (.cond (.tmp 9)
     .skip
     (.exit 0))
    (.seq (.block 1 (.seq (.reg [⟨(some 10), none, .mov (.tmp 8)⟩,
       ⟨(some 5), none, .mov (.tmp 10)⟩])
     (.seq (.reg [⟨(some 11), none, .mov (.tmp 1)⟩,
       ⟨(some 12), none, .mov (.tmp 0)⟩,
       ⟨(some 13), none, .mov (.tmp 5)⟩,
       ⟨(some 14), none, .iaddr 1 (.tmp 12) (.tmp 13)⟩,
       ⟨(some 15), none, .load false 1 (.tmp 14)⟩,
       ⟨(some 16), none, .callv (.tmp 11) [(.tmp 15)]⟩])
     (.cond (.tmp 16)
      (.seq (.reg [⟨(some 17), none, .mov (.tmp 5)⟩,
        ⟨(some 4), none, .mov (.tmp 17)⟩])
      .ret)
      .skip))))
    (.reg [⟨(some 18), none, .bin .add (.tmp 8) (.con (.int .i64 1))⟩,
      ⟨(some 8), none, .mov (.tmp 18)⟩])))))))
  (.seq (.reg [⟨(some 4), none, .mov (.con (.int .i64 (-1)))⟩])
  .ret)))
def g65 : Fn := ⟨2, 19, [.tmp 4], b65⟩
/- quiver/vec.both$1 -/
def b66 : AC :=
  (.seq (.reg [⟨(some 6), none, .load false 1 (.tmp 1)⟩,
    ⟨(some 7), none, .len (.tmp 6)⟩,
    ⟨(some 8), none, .mov (.con (.int .i64 0))⟩])
  (.block 0 (.loop (.seq (.reg [⟨(some 9), none, .bin .lss (.tmp 8) (.tmp 7)⟩])
    (.seq (.cond (.tmp 9)
     .skip
     (.exit 0))
    (.seq (.block 1 (.seq (.reg [⟨(some 10), none, .mov (.tmp 8)⟩,
       ⟨(some 11), none, .iaddr 1 (.tmp 6) (.tmp 8)⟩,
       ⟨(some 12), none, .load false 1 (.tmp 11)⟩,
       ⟨(some 4), none, .mov (.tmp 10)⟩,
       ⟨(some 5), none, .mov (.tmp 12)⟩])
     (.seq (.reg [⟨(some 13), none, .mov (.tmp 0)⟩,
       ⟨(some 14), none, .mov (.tmp 5)⟩,
       ⟨(some 15), none, .conv .i64 (.tmp 14)⟩,
       ⟨(some 16), none, .load false 1 (.tmp 2)⟩,
       ⟨(some 17), none, .mov (.tmp 4)⟩,
       ⟨(some 18), none, .iaddr 1 (.tmp 16) (.tmp 17)⟩,
       ⟨(some 19), none, .load false 1 (.tmp 18)⟩,
       ⟨(some 20), none, .conv .i64 (.tmp 19)⟩,
       ⟨(some 21), none, .callv (.tmp 13) [(.tmp 15), (.tmp 20)]⟩,
       ⟨(some 22), none, .un .not (.tmp 21)⟩])
     (.cond (.tmp 22)
      .ret
      .skip))))
    (.reg [⟨(some 23), none, .bin .add (.tmp 8) (.con (.int .i64 1))⟩,
      ⟨(some 8), none, .mov (.tmp 23)⟩])))))))
def g66 : Fn := ⟨3, 24, [], b66⟩
/- quiver/topk.Merge -/
def b67 : AC :=
  (.seq (.reg [⟨(some 4), none, .mov (.con .nilS)⟩,
    ⟨(some 5), none, .mov (.con (.int .i64 0))⟩])
  (.seq (.seq (.reg [⟨(some 9), none, .mov (.tmp 0)⟩,
    ⟨(some 10), none, .bin .lss (.tmp 9) (.con (.int .i64 1))⟩,
    ⟨(some 11), none, .mov (.tmp 10)⟩,
    ⟨(some 12), (some (11, false)), .mov (.tmp 0)⟩,
    ⟨(some 13), (some (11, false)), .bin .gtr (.tmp 12) (.con (.int .i64 16))⟩,
    ⟨(some 14), none, .pick (.tmp 11) (.con (.bool true)) (.tmp 13)⟩])
  (.cond (.tmp 14)
   (.seq (.reg [⟨(some 4), none, .mov (.con .nilS)⟩,
     ⟨(some 5), none, .mov (.con (.int .i64 2))⟩])
   .ret)
   .skip))
  (.seq (.reg [⟨(some 6), none, .mov (.con (.int .i64 0))⟩])
  (.seq (.seq (.reg [⟨(some 15), none, .mov (.tmp 1)⟩,
    ⟨(some 16), none, .len (.tmp 15)⟩,
    ⟨(some 17), none, .mov (.con (.int .i64 0))⟩])
  (.block 0 (.loop (.seq (.reg [⟨(some 18), none, .bin .lss (.tmp 17) (.tmp 16)⟩])
    (.seq (.cond (.tmp 18)
     .skip
     (.exit 0))
    (.seq (.block 1 (.seq (.reg [⟨(some 19), none, .iaddr 1 (.tmp 15) (.tmp 17)⟩,
       ⟨(some 20), none, .load false 1 (.tmp 19)⟩,
       ⟨(some 8), none, .mov (.tmp 20)⟩])
     (.seq (.reg [⟨(some 21), none, .mov (.tmp 6)⟩,
       ⟨(some 22), none, .mov (.tmp 8)⟩,
       ⟨(some 23), none, .len (.tmp 22)⟩,
       ⟨(some 24), none, .bin .add (.tmp 21) (.tmp 23)⟩,
       ⟨(some 6), none, .mov (.tmp 24)⟩])
     (.seq (.reg [⟨(some 25), none, .mov (.tmp 6)⟩,
       ⟨(some 26), none, .bin .gtr (.tmp 25) (.con (.int .i64 2000))⟩])
     (.cond (.tmp 26)
      (.seq (.reg [⟨(some 4), none, .mov (.con .nilS)⟩,
        ⟨(some 5), none, .mov (.con (.int .i64 3))⟩])
      .ret)
      .skip)))))
    (.reg [⟨(some 27), none, .bin .add (.tmp 17) (.con (.int .i64 1))⟩,
      ⟨(some 17), none, .mov (.tmp 27)⟩])))))))
  (.seq (.reg [⟨(some 28), none, .mov (.tmp 0)⟩,
    ⟨(some 29), none, .mov (.tmp 1)⟩,
    ⟨(some 30), none, .call 85 [(.tmp 28), (.tmp 29)]⟩,
    ⟨(some 4), none, .mov (.tmp 30)⟩,
    ⟨(some 5), none, .mov (.con (.int .i64 0))⟩])
  .ret)))))
def g67 : Fn := ⟨2, 31, [.tmp 4, .tmp 5], b67⟩
/- quiver/lists.centroids$1 -/
def b68 : AC :=
  (.seq (.reg [⟨(some 3), none, .mov (.con (.bool false))⟩])
  (.seq (.reg [⟨(some 4), none, .mov (.tmp 0)⟩,
    ⟨(some 5), none, .load false 1 (.tmp 1)⟩,
    ⟨(some 6), none, .iaddr 1 (.tmp 5) (.con (.int .i64 0))⟩,
    ⟨(some 7), none, .load false 1 (.tmp 6)⟩,
    ⟨(some 8), none, .len (.tmp 7)⟩,
    ⟨(some 9), none, .call 69 [(.tmp 4), (.tmp 8)]⟩,
    ⟨(some 10), none, .bin .neq (.tmp 9) (.con (.int .i64 0))⟩,
    ⟨(some 3), none, .mov (.tmp 10)⟩])
  .ret))
def g68 : Fn := ⟨2, 11, [.tmp 3], b68⟩
/- quiver/vec.Of -/
def b69 : AC :=
  (.seq (.reg [⟨(some 4), none, .mov (.con (.int .i64 0))⟩])
  (.seq (.seq (.reg [⟨(some 6), none, .mov (.tmp 0)⟩,
    ⟨(some 7), none, .call 22 [(.tmp 6)]⟩,
    ⟨(some 5), none, .mov (.tmp 7)⟩])
  (.seq (.reg [⟨(some 8), none, .mov (.tmp 5)⟩,
    ⟨(some 9), none, .bin .neq (.tmp 8) (.con (.int .i64 0))⟩])
  (.cond (.tmp 9)
   (.seq (.reg [⟨(some 10), none, .mov (.tmp 5)⟩,
     ⟨(some 4), none, .mov (.tmp 10)⟩])
   .ret)
   .skip)))
  (.seq (.seq (.reg [⟨(some 11), none, .mov (.tmp 0)⟩,
    ⟨(some 12), none, .len (.tmp 11)⟩,
    ⟨(some 13), none, .mov (.tmp 1)⟩,
    ⟨(some 14), none, .bin .neq (.tmp 12) (.tmp 13)⟩])
  (.cond (.tmp 14)
   (.seq (.reg [⟨(some 4), none, .mov (.con (.int .i64 151))⟩])
   .ret)
   .skip))
  (.seq (.reg [⟨(some 4), none, .mov (.con (.int .i64 0))⟩])
  .ret))))
def g69 : Fn := ⟨2, 15, [.tmp 4], b69⟩
/- quiver/mask.all -/
def b70 : AC :=
  (.seq (.reg [⟨(some 0), none, .alloc (.agg [(.int .u64 0), (.int .u64 0)])⟩])
  (.seq (.reg [⟨(some 1), none, .call 86 [(.con (.int .i64 96))]⟩,
    ⟨none, none, .store 2 (.tmp 0) (.tmp 1)⟩])
  .ret))
def g70 : Fn := ⟨0, 2, [.cell 0 true 2], b70⟩
/- quiver/mask.and -/
def b71 : AC :=
  (.seq (.reg [⟨(some 2), none, .box (.tmp 0)⟩,
    ⟨(some 3), none, .box (.tmp 1)⟩,
    ⟨(some 4), none, .alloc (.agg [(.int .u64 0), (.int .u64 0)])⟩])
  (.seq (.reg [⟨(some 5), none, .load true 2 (.tmp 2)⟩,
    ⟨(some 6), none, .load true 2 (.tmp 3)⟩,
    ⟨(some 7), none, .call 87 [(.tmp 5), (.tmp 6), (.con (.fn 88 []))]⟩,
    ⟨none, none, .store 2 (.tmp 4) (.tmp 7)⟩])
  .ret))
def g71 : Fn := ⟨2, 8, [.cell 4 true 2], b71⟩
/- quiver/mask.or -/
def b72 : AC :=
  (.seq (.reg [⟨(some 2), none, .box (.tmp 0)⟩,
    ⟨(some 3), none, .box (.tmp 1)⟩,
    ⟨(some 4), none, .alloc (.agg [(.int .u64 0), (.int .u64 0)])⟩])
  (.seq (.reg [⟨(some 5), none, .load true 2 (.tmp 2)⟩,
    ⟨(some 6), none, .load true 2 (.tmp 3)⟩,
    ⟨(some 7), none, .call 87 [(.tmp 5), (.tmp 6), (.con (.fn 89 []))]⟩,
    ⟨none, none, .store 2 (.tmp 4) (.tmp 7)⟩])
  .ret))
def g72 : Fn := ⟨2, 8, [.cell 4 true 2], b72⟩
/- quiver/mask.minus -/
def b73 : AC :=
  (.seq (.reg [⟨(some 2), none, .box (.tmp 0)⟩,
    ⟨(some 3), none, .box (.tmp 1)⟩,
    ⟨(some 4), none, .alloc (.agg [(.int .u64 0), (.int .u64 0)])⟩])
  (.seq (.reg [⟨(some 5), none, .load true 2 (.tmp 2)⟩,
    ⟨(some 6), none, .load true 2 (.tmp 3)⟩,
    ⟨(some 7), none, .call 87 [(.tmp 5), (.tmp 6), (.con (.fn 90 []))]⟩,
    ⟨none, none, .store 2 (.tmp 4) (.tmp 7)⟩])
  .ret))
def g73 : Fn := ⟨2, 8, [.cell 4 true 2], b73⟩
/- math/bits.OnesCount64 -/
def b74 : AC :=
  (.seq (.reg [⟨(some 2), none, .mov (.con (.int .i64 0))⟩])
  (.seq (.reg [⟨(some 3), none, .mov (.tmp 0)⟩,
    ⟨(some 4), none, .bin .shr (.tmp 3) (.con (.int .u64 1))⟩,
    ⟨(some 5), none, .bin .and (.tmp 4) (.con (.int .u64 6148914691236517205))⟩,
    ⟨(some 6), none, .mov (.tmp 0)⟩,
    ⟨(some 7), none, .bin .and (.tmp 6) (.con (.int .u64 6148914691236517205))⟩,
    ⟨(some 8), none, .bin .add (.tmp 5) (.tmp 7)⟩,
    ⟨(some 0), none, .mov (.tmp 8)⟩])
  (.seq (.reg [⟨(some 9), none, .mov (.tmp 0)⟩,
    ⟨(some 10), none, .bin .shr (.tmp 9) (.con (.int .u64 2))⟩,
    ⟨(some 11), none, .bin .and (.tmp 10) (.con (.int .u64 3689348814741910323))⟩,
    ⟨(some 12), none, .mov (.tmp 0)⟩,
    ⟨(some 13), none, .bin .and (.tmp 12) (.con (.int .u64 3689348814741910323))⟩,
    ⟨(some 14), none, .bin .add (.tmp 11) (.tmp 13)⟩,
    ⟨(some 0), none, .mov (.tmp 14)⟩])
  (.seq (.reg [⟨(some 15), none, .mov (.tmp 0)⟩,
    ⟨(some 16), none, .bin .shr (.tmp 15) (.con (.int .u64 4))⟩,
    ⟨(some 17), none, .mov (.tmp 0)⟩,
    ⟨(some 18), none, .bin .add (.tmp 16) (.tmp 17)⟩,
    ⟨(some 19), none, .bin .and (.tmp 18) (.con (.int .u64 1085102592571150095))⟩,
    ⟨(some 0), none, .mov (.tmp 19)⟩])
  (.seq (.reg [⟨(some 20), none, .mov (.tmp 0)⟩,
    ⟨(some 21), none, .mov (.tmp 0)⟩,
    ⟨(some 22), none, .bin .shr (.tmp 21) (.con (.int .u64 8))⟩,
    ⟨(some 23), none, .bin .add (.tmp 20) (.tmp 22)⟩,
    ⟨(some 0), none, .mov (.tmp 23)⟩])
  (.seq (.reg [⟨(some 24), none, .mov (.tmp 0)⟩,
    ⟨(some 25), none, .mov (.tmp 0)⟩,
    ⟨(some 26), none, .bin .shr (.tmp 25) (.con (.int .u64 16))⟩,
    ⟨(some 27), none, .bin .add (.tmp 24) (.tmp 26)⟩,
    ⟨(some 0), none, .mov (.tmp 27)⟩])
  (.seq (.reg [⟨(some 28), none, .mov (.tmp 0)⟩,
    ⟨(some 29), none, .mov (.tmp 0)⟩,
    ⟨(some 30), none, .bin .shr (.tmp 29) (.con (.int .u64 32))⟩,
    ⟨(some 31), none, .bin .add (.tmp 28) (.tmp 30)⟩,
    ⟨(some 0), none, .mov (.tmp 31)⟩])
  (.seq (.reg [⟨(some 32), none, .mov (.tmp 0)⟩,
    ⟨(some 33), none, .conv .i64 (.tmp 32)⟩,
    ⟨(some 34), none, .bin .and (.tmp 33) (.con (.int .i64 127))⟩,
    ⟨(some 2), none, .mov (.tmp 34)⟩])
  .ret))))))))
def g74 : Fn := ⟨1, 35, [.tmp 2], b74⟩
/- slices.insertionSortCmpFunc[quiver/api.Hit] -/
def b75 : AC :=
  (.seq (.reg [⟨(some 10), none, .mov (.tmp 1)⟩,
    ⟨(some 11), none, .bin .add (.tmp 10) (.con (.int .i64 1))⟩,
    ⟨(some 8), none, .mov (.tmp 11)⟩])
  (.block 0 (.loop (.seq (.seq (.reg [⟨(some 12), none, .mov (.tmp 8)⟩,
      ⟨(some 13), none, .mov (.tmp 2)⟩,
      ⟨(some 14), none, .bin .lss (.tmp 12) (.tmp 13)⟩])
    (.cond (.tmp 14)
     .skip
     (.exit 0)))
    (.seq (.block 1 (.seq (.reg [⟨(some 17), none, .mov (.tmp 8)⟩,
       ⟨(some 9), none, .mov (.tmp 17)⟩])
     (.block 2 (.loop (.seq (.seq (.regd [⟨[⟨⟨(some 18), none, .mov (.tmp 9)⟩, true, false, false, 0, [], none⟩,
         ⟨⟨(some 19), none, .mov (.tmp 1)⟩, true, false, false, 0, [], none⟩], 0, [⟨(some 20), none, .bin .gtr (.tmp 18) (.tmp 19)⟩,
         ⟨(some 21), none, .mov (.tmp 20)⟩]⟩,
        ⟨[⟨⟨(some 22), (some (21, true)), .mov (.tmp 3)⟩, true, false, false, 0, [], none⟩,
         ⟨⟨(some 23), (some (21, true)), .mov (.tmp 0)⟩, true, false, false, 0, [], none⟩,
         ⟨⟨(some 24), (some (21, true)), .mov (.tmp 9)⟩, true, false, false, 0, [], none⟩,
         ⟨⟨(some 25), (some (21, true)), .iaddr 2 (.tmp 23) (.tmp 24)⟩, true, false, false, 0, [], none⟩,
         ⟨⟨(some 26), (some (21, true)), .load true 2 (.tmp 25)⟩, false, false, false, 0, [], none⟩,
         ⟨⟨(some 27), (some (21, true)), .mov (.tmp 0)⟩, true, false, false, 0, [], none⟩,
         ⟨⟨(some 28), (some (21, true)), .mov (.tmp 9)⟩, true, false, false, 0, [], none⟩,
         ⟨⟨(some 29), (some (21, true)), .bin .sub (.tmp 28) (.con (.int .i64 1))⟩, true, false, false, 0, [], none⟩,
         ⟨⟨(some 30), (some (21, true)), .iaddr 2 (.tmp 27) (.tmp 29)⟩, true, false, false, 0, [], none⟩,
         ⟨⟨(some 31), (some (21, true)), .load true 2 (.tmp 30)⟩, false, false, false, 0, [], none⟩], 0, [⟨(some 32), (some (21, true)), .callv (.tmp 22) [(.tmp 26), (.tmp 31)]⟩,
         ⟨(some 33), (some (21, true)), .bin .lss (.tmp 32) (.con (.int .i64 0))⟩,
         ⟨(some 34), none, .pick (.tmp 21) (.tmp 33) (.con (.bool false))⟩]⟩])
       (.cond (.tmp 34)
        .skip
        (.exit 2)))
       (.seq (.block 3 (.regd [⟨[⟨⟨(some 37), none, .mov (.tmp 0)⟩, true, false, false, 0, [], none⟩,
          ⟨⟨(some 38), none, .mov (.tmp 9)⟩, true, false, false, 0, [], none⟩,
          ⟨⟨(some 39), none, .mov (.tmp 0)⟩, true, false, false, 0, [], none⟩,
          ⟨⟨(some 40), none, .mov (.tmp 9)⟩, true, false, false, 0, [], none⟩,
          ⟨⟨(some 41), none, .bin .sub (.tmp 40) (.con (.int .i64 1))⟩, true, false, false, 0, [], none⟩,
          ⟨⟨(some 42), none, .mov (.tmp 0)⟩, true, false, false, 0, [], none⟩,
          ⟨⟨(some 43), none, .mov (.tmp 9)⟩, true, false, false, 0, [], none⟩,
          ⟨⟨(some 44), none, .bin .sub (.tmp 43) (.con (.int .i64 1))⟩, true, false, false, 0, [], none⟩,
          ⟨⟨(some 45), none, .iaddr 2 (.tmp 42) (.tmp 44)⟩, true, false, false, 0, [], none⟩,
          ⟨⟨(some 46), none, .load true 2 (.tmp 45)⟩, false, false, false, 0, [], none⟩,
          ⟨⟨(some 47), none, .mov (.tmp 0)⟩, true, false, false, 0, [], none⟩,
          ⟨⟨(some 48), none, .mov (.tmp 9)⟩, true, false, false, 0, [], none⟩,
          ⟨⟨(some 49), none, .iaddr 2 (.tmp 47) (.tmp 48)⟩, true, false, false, 0, [], none⟩,
          ⟨⟨(some 50), none, .load true 2 (.tmp 49)⟩, false, false, false, 0, [], none⟩,
          ⟨⟨(some 51), none, .iaddr 2 (.tmp 37) (.tmp 38)⟩, true, false, false, 0, [], none⟩,
          ⟨⟨none, none, .store 2 (.tmp 51) (.tmp 46)⟩, false, true, false, 0, [], none⟩], 0, [⟨(some 52), none, .iaddr 2 (.tmp 39) (.tmp 41)⟩,
          ⟨none, none, .store 2 (.tmp 52) (.tmp 50)⟩]⟩]))
       (.reg [⟨(some 35), none, .mov (.tmp 9)⟩,
         ⟨(some 36), none, .bin .sub (.tmp 35) (.con (.int .i64 1))⟩,
         ⟨(some 9), none, .mov (.tmp 36)⟩])))))))
    (.reg [⟨(some 15), none, .mov (.tmp 8)⟩,
      ⟨(some 16), none, .bin .add (.tmp 15) (.con (.int .i64 1))⟩,
      ⟨(some 8), none, .mov (.tmp 16)⟩]))))))
def g75 : Fn := ⟨4, 53, [], b75⟩
/- slices.heapSortCmpFunc[quiver/api.Hit] -/
def b76 : AC :=
  (.seq (.reg [⟨(some 13), none, .mov (.tmp 1)⟩,
    ⟨(some 8), none, .mov (.tmp 13)⟩])
  (.seq (.reg [⟨(some 9), none, .mov (.con (.int .i64 0))⟩])
  (.seq (.reg [⟨(some 14), none, .mov (.tmp 2)⟩,
    ⟨(some 15), none, .mov (.tmp 1)⟩,
    ⟨(some 16), none, .bin .sub (.tmp 14) (.tmp 15)⟩,
    ⟨(some 10), none, .mov (.tmp 16)⟩])
  (.seq (.seq (.reg [⟨(some 17), none, .mov (.tmp 10)⟩,
    ⟨(some 18), none, .bin .sub (.tmp 17) (.con (.int .i64 1))⟩,
    ⟨(some 19), none, .bin .quo (.tmp 18) (.con (.int .i64 2))⟩,
    ⟨(some 11), none, .mov (.tmp 19)⟩])
  (.block 0 (.loop (.seq (.seq (.reg [⟨(some 20), none, .mov (.tmp 11)⟩,
      ⟨(some 21), none, .bin .geq (.tmp 20) (.con (.int .i64 0))⟩])
    (.cond (.tmp 21)
     .skip
     (.exit 0)))
    (.seq (.block 1 (.reg [⟨(some 24), none, .mov (.tmp 0)⟩,
       ⟨(some 25), none, .mov (.tmp 11)⟩,
       ⟨(some 26), none, .mov (.tmp 10)⟩,
       ⟨(some 27), none, .mov (.tmp 8)⟩,
       ⟨(some 28), none, .mov (.tmp 3)⟩,
       ⟨(some 29), none, .call 91 [(.tmp 24), (.tmp 25), (.tmp 26), (.tmp 27), (.tmp 28)]⟩]))
    (.reg [⟨(some 22), none, .mov (.tmp 11)⟩,
      ⟨(some 23), none, .bin .sub (.tmp 22) (.con (.int .i64 1))⟩,
      ⟨(some 11), none, .mov (.tmp 23)⟩]))))))
  (.seq (.reg [⟨(some 30), none, .mov (.tmp 10)⟩,
    ⟨(some 31), none, .bin .sub (.tmp 30) (.con (.int .i64 1))⟩,
    ⟨(some 12), none, .mov (.tmp 31)⟩])
  (.block 2 (.loop (.seq (.seq (.reg [⟨(some 32), none, .mov (.tmp 12)⟩,
      ⟨(some 33), none, .bin .geq (.tmp 32) (.con (.int .i64 0))⟩])
    (.cond (.tmp 33)
     .skip
     (.exit 2)))
    (.seq (.block 3 (.seq (.regd [⟨[⟨⟨(some 36), none, .mov (.tmp 0)⟩, true, false, false, 0, [], none⟩,
       ⟨⟨(some 37), none, .mov (.tmp 8)⟩, true, false, false, 0, [], none⟩,
       ⟨⟨(some 38), none, .mov (.tmp 0)⟩, true, false, false, 0, [], none⟩,
       ⟨⟨(some 39), none, .mov (.tmp 8)⟩, true, false, false, 0, [], none⟩,
       ⟨⟨(some 40), none, .mov (.tmp 12)⟩, true, false, false, 0, [], none⟩,
       ⟨⟨(some 41), none, .bin .add (.tmp 39) (.tmp 40)⟩, true, false, false, 0, [], none⟩,
       ⟨⟨(some 42), none, .mov (.tmp 0)⟩, true, false, false, 0, [], none⟩,
       ⟨⟨(some 43), none, .mov (.tmp 8)⟩, true, false, false, 0, [], none⟩,
       ⟨⟨(some 44), none, .mov (.tmp 12)⟩, true, false, false, 0, [], none⟩,
       ⟨⟨(some 45), none, .bin .add (.tmp 43) (.tmp 44)⟩, true, false, false, 0, [], none⟩,
       ⟨⟨(some 46), none, .iaddr 2 (.tmp 42) (.tmp 45)⟩, true, false, false, 0, [], none⟩,
       ⟨⟨(some 47), none, .load true 2 (.tmp 46)⟩, false, false, false, 0, [], none⟩,
       ⟨⟨(some 48), none, .mov (.tmp 0)⟩, true, false, false, 0, [], none⟩,
       ⟨⟨(some 49), none, .mov (.tmp 8)⟩, true, false, false, 0, [], none⟩,
       ⟨⟨(some 50), none, .iaddr 2 (.tmp 48) (.tmp 49)⟩, true, false, false, 0, [], none⟩,
       ⟨⟨(some 51), none, .load true 2 (.tmp 50)⟩, false, false, false, 0, [], none⟩,
       ⟨⟨(some 52), none, .iaddr 2 (.tmp 36) (.tmp 37)⟩, true, false, false, 0, [], none⟩,
       ⟨⟨none, none, .store 2 (.tmp 52) (.tmp 47)⟩, false, true, false, 0, [], none⟩], 0, [⟨(some 53), none, .iaddr 2 (.tmp 38) (.tmp 41)⟩,
       ⟨none, none, .store 2 (.tmp 53) (.tmp 51)⟩]⟩])
     (.reg [⟨(some 54), none, .mov (.tmp 0)⟩,
       ⟨(some 55), none, .mov (.tmp 9)⟩,
       ⟨(some 56), none, .mov (.tmp 12)⟩,
       ⟨(some 57), none, .mov (.tmp 8)⟩,
       ⟨(some 58), none, .mov (.tmp 3)⟩,
       ⟨(some 59), none, .call 91 [(.tmp 54), (.tmp 55), (.tmp 56), (.tmp 57), (.tmp 58)]⟩])))
    (.reg [⟨(some 34), none, .mov (.tmp 12)⟩,
      ⟨(some 35), none, .bin .sub (.tmp 34) (.con (.int .i64 1))⟩,
      ⟨(some 12), none, .mov (.tmp 35)⟩]))))))))))
def g76 : Fn := ⟨4, 60, [], b76⟩
/- slices.breakPatternsCmpFunc[quiver/api.Hit] -/
def b77 : AC :=
  (.seq (.reg [⟨(some 13), none, .mov (.tmp 2)⟩,
    ⟨(some 14), none, .mov (.tmp 1)⟩,
    ⟨(some 15), none, .bin .sub (.tmp 13) (.tmp 14)⟩,
    ⟨(some 8), none, .mov (.tmp 15)⟩])
  (.seq (.reg [⟨(some 16), none, .mov (.tmp 8)⟩,
    ⟨(some 17), none, .bin .geq (.tmp 16) (.con (.int .i64 8))⟩])
  (.cond (.tmp 17)
   (.seq (.reg [⟨(some 18), none, .mov (.tmp 8)⟩,
     ⟨(some 19), none, .conv .u64 (.tmp 18)⟩,
     ⟨(some 9), none, .alloc (.int .u64 0)⟩,
     ⟨none, none, .store 1 (.tmp 9) (.tmp 19)⟩])
   (.seq (.reg [⟨(some 20), none, .mov (.tmp 8)⟩,
     ⟨(some 21), none, .call 92 [(.tmp 20)]⟩,
     ⟨(some 10), none, .mov (.tmp 21)⟩])
   (.seq (.reg [⟨(some 22), none, .mov (.tmp 1)⟩,
     ⟨(some 23), none, .mov (.tmp 8)⟩,
     ⟨(some 24), none, .bin .quo (.tmp 23) (.con (.int .i64 4))⟩,
     ⟨(some 25), none, .bin .mul (.tmp 24) (.con (.int .i64 2))⟩,
     ⟨(some 26), none, .bin .add (.tmp 22) (.tmp 25)⟩,
     ⟨(some 27), none, .bin .sub (.tmp 26) (.con (.int .i64 1))⟩,
     ⟨(some 11), none, .mov (.tmp 27)⟩])
   (.block 0 (.loop (.seq (.seq (.reg [⟨(some 28), none, .mov (.tmp 11)⟩,
       ⟨(some 29), none, .mov (.tmp 1)⟩,
       ⟨(some 30), none, .mov (.tmp 8)⟩,
       ⟨(some 31), none, .bin .quo (.tmp 30) (.con (.int .i64 4))⟩,
       ⟨(some 32), none, .bin .mul (.tmp 31) (.con (.int .i64 2))⟩,
       ⟨(some 33), none, .bin .add (.tmp 29) (.tmp 32)⟩,
       ⟨(some 34), none, .bin .add (.tmp 33) (.con (.int .i64 1))⟩,
       ⟨(some 35), none, .bin .leq (.tmp 28) (.tmp 34)⟩])
     (.cond (.tmp 35)
      .skip
      (.exit 0)))
     (.seq (.block 1 (.seq (.reg [⟨(some 38), none, .call 93 [(.tmp 9)]⟩,
        ⟨(some 39), none, .mov (.tmp 10)⟩,
        ⟨(some 40), none, .bin .sub (.tmp 39) (.con (.int .u64 1))⟩,
        ⟨(some 41), none, .bin .and (.tmp 38) (.tmp 40)⟩,
        ⟨(some 42), none, .conv .i64 (.tmp 41)⟩,
        ⟨(some 12), none, .mov (.tmp 42)⟩])
      (.seq (.seq (.reg [⟨(some 43), none, .mov (.tmp 12)⟩,
        ⟨(some 44), none, .mov (.tmp 8)⟩,
        ⟨(some 45), none, .bin .geq (.tmp 43) (.tmp 44)⟩])
      (.cond (.tmp 45)
       (.reg [⟨(some 46), none, .mov (.tmp 12)⟩,
         ⟨(some 47), none, .mov (.tmp 8)⟩,
         ⟨(some 48), none, .bin .sub (.tmp 46) (.tmp 47)⟩,
         ⟨(some 12), none, .mov (.tmp 48)⟩])
       .skip))
      (.regd [⟨[⟨⟨(some 49), none, .mov (.tmp 0)⟩, true, false, false, 0, [], none⟩,
        ⟨⟨(some 50), none, .mov (.tmp 11)⟩, true, false, false, 0, [], none⟩,
        ⟨⟨(some 51), none, .mov (.tmp 0)⟩, true, false, false, 0, [], none⟩,
        ⟨⟨(some 52), none, .mov (.tmp 1)⟩, true, false, false, 0, [], none⟩,
        ⟨⟨(some 53), none, .mov (.tmp 12)⟩, true, false, false, 0, [], none⟩,
        ⟨⟨(some 54), none, .bin .add (.tmp 52) (.tmp 53)⟩, true, false, false, 0, [], none⟩,
        ⟨⟨(some 55), none, .mov (.tmp 0)⟩, true, false, false, 0, [], none⟩,
        ⟨⟨(some 56), none, .mov (.tmp 1)⟩, true, false, false, 0, [], none⟩,
        ⟨⟨(some 57), none, .mov (.tmp 12)⟩, true, false, false, 0, [], none⟩,
        ⟨⟨(some 58), none, .bin .add (.tmp 56) (.tmp 57)⟩, true, false, false, 0, [], none⟩,
        ⟨⟨(some 59), none, .iaddr 2 (.tmp 55) (.tmp 58)⟩, true, false, false, 0, [], none⟩,
        ⟨⟨(some 60), none, .load true 2 (.tmp 59)⟩, false, false, false, 0, [], none⟩,
        ⟨⟨(some 61), none, .mov (.tmp 0)⟩, true, false, false, 0, [], none⟩,
        ⟨⟨(some 62), none, .mov (.tmp 11)⟩, true, false, false, 0, [], none⟩,
        ⟨⟨(some 63), none, .iaddr 2 (.tmp 61) (.tmp 62)⟩, true, false, false, 0, [], none⟩,
        ⟨⟨(some 64), none, .load true 2 (.tmp 63)⟩, false, false, false, 0, [], none⟩,
        ⟨⟨(some 65), none, .iaddr 2 (.tmp 49) (.tmp 50)⟩, true, false, false, 0, [], none⟩,
        ⟨⟨none, none, .store 2 (.tmp 65) (.tmp 60)⟩, false, true, false, 0, [], none⟩], 0, [⟨(some 66), none, .iaddr 2 (.tmp 51) (.tmp 54)⟩,
        ⟨none, none, .store 2 (.tmp 66) (.tmp 64)⟩]⟩]))))
     (.reg [⟨(some 36), none, .mov (.tmp 11)⟩,
       ⟨(some 37), none, .bin .add (.tmp 36) (.con (.int .i64 1))⟩,
       ⟨(some 11), none, .mov (.tmp 37)⟩]))))))))
   .skip)))
def g77 : Fn := ⟨4, 67, [], b77⟩
/- slices.choosePivotCmpFunc[quiver/api.Hit] -/
def b78 : AC :=
  (.seq (.reg [⟨(some 8), none, .mov (.con (.int .i64 0))⟩,
    ⟨(some 9), none, .mov (.con (.int .i64 0))⟩])
  (.seq (.reg [⟨(some 15), none, .mov (.tmp 2)⟩,
    ⟨(some 16), none, .mov (.tmp 1)⟩,
    ⟨(some 17), none, .bin .sub (.tmp 15) (.tmp 16)⟩,
    ⟨(some 10), none, .mov (.tmp 17)⟩])
  (.seq (.reg [⟨(some 11), none, .alloc (.int .i64 0)⟩])
  (.seq (.reg [⟨(some 18), none, .mov (.tmp 1)⟩,
    ⟨(some 19), none, .mov (.tmp 10)⟩,
    ⟨(some 20), none, .bin .quo (.tmp 19) (.con (.int .i64 4))⟩,
    ⟨(some 21), none, .bin .mul (.tmp 20) (.con (.int .i64 1))⟩,
    ⟨(some 22), none, .bin .add (.tmp 18) (.tmp 21)⟩,
    ⟨(some 12), none, .mov (.tmp 22)⟩])
  (.seq (.reg [⟨(some 23), none, .mov (.tmp 1)⟩,
    ⟨(some 24), none, .mov (.tmp 10)⟩,
    ⟨(some 25), none, .bin .quo (.tmp 24) (.con (.int .i64 4))⟩,
    ⟨(some 26), none, .bin .mul (.tmp 25) (.con (.int .i64 2))⟩,
    ⟨(some 27), none, .bin .add (.tmp 23) (.tmp 26)⟩,
    ⟨(some 13), none, .mov (.tmp 27)⟩])
  (.seq (.reg [⟨(some 28), none, .mov (.tmp 1)⟩,
    ⟨(some 29), none, .mov (.tmp 10)⟩,
    ⟨(some 30), none, .bin .quo (.tmp 29) (.con (.int .i64 4))⟩,
    ⟨(some 31), none, .bin .mul (.tmp 30) (.con (.int .i64 3))⟩,
    ⟨(some 32), none, .bin .add (.tmp 28) (.tmp 31)⟩,
    ⟨(some 14), none, .mov (.tmp 32)⟩])
  (.seq (.seq (.reg [⟨(some 33), none, .mov (.tmp 10)⟩,
    ⟨(some 34), none, .bin .geq (.tmp 33) (.con (.int .i64 8))⟩])
  (.cond (.tmp 34)
   (.seq (.seq (.reg [⟨(some 35), none, .mov (.tmp 10)⟩,
     ⟨(some 36), none, .bin .geq (.tmp 35) (.con (.int .i64 50))⟩])
   (.cond (.tmp 36)
    (.seq (.reg [⟨(some 37), none, .mov (.tmp 0)⟩,
      ⟨(some 38), none, .mov (.tmp 12)⟩,
      ⟨(some 39), none, .mov (.tmp 3)⟩,
      ⟨(some 40), none, .call 94 [(.tmp 37), (.tmp 38), (.tmp 11), (.tmp 39)]⟩,
      ⟨(some 12), none, .mov (.tmp 40)⟩])
    (.seq (.reg [⟨(some 41), none, .mov (.tmp 0)⟩,
      ⟨(some 42), none, .mov (.tmp 13)⟩,
      ⟨(some 43), none, .mov (.tmp 3)⟩,
      ⟨(some 44), none, .call 94 [(.tmp 41), (.tmp 42), (.tmp 11), (.tmp 43)]⟩,
      ⟨(some 13), none, .mov (.tmp 44)⟩])
    (.reg [⟨(some 45), none, .mov (.tmp 0)⟩,
      ⟨(some 46), none, .mov (.tmp 14)⟩,
      ⟨(some 47), none, .mov (.tmp 3)⟩,
      ⟨(some 48), none, .call 94 [(.tmp 45), (.tmp 46), (.tmp 11), (.tmp 47)]⟩,
      ⟨(some 14), none, .mov (.tmp 48)⟩])))
    .skip))
   (.reg [⟨(some 49), none, .mov (.tmp 0)⟩,
     ⟨(some 50), none, .mov (.tmp 12)⟩,
     ⟨(some 51), none, .mov (.tmp 13)⟩,
     ⟨(some 52), none, .mov (.tmp 14)⟩,
     ⟨(some 53), none, .mov (.tmp 3)⟩,
     ⟨(some 54), none, .call 95 [(.tmp 49), (.tmp 50), (.tmp 51), (.tmp 52), (.tmp 11), (.tmp 53)]⟩,
     ⟨(some 13), none, .mov (.tmp 54)⟩]))
   .skip))
  (.seq (.reg [⟨(some 55), none, .load false 1 (.tmp 11)⟩])
  (.block 0 (.seq (.reg [⟨(some 58), none, .bin .eql (.tmp 55) (.con (.int .i64 0))⟩,
     ⟨(some 57), none, .mov (.tmp 58)⟩])
   (.cond (.tmp 57)
    (.seq (.reg [⟨(some 59), none, .mov (.tmp 13)⟩,
      ⟨(some 8), none, .mov (.tmp 59)⟩,
      ⟨(some 9), none, .mov (.con (.int .i64 1))⟩])
    .ret)
    (.seq (.reg [⟨(some 61), none, .bin .eql (.tmp 55) (.con (.int .i64 12))⟩,
      ⟨(some 60), none, .mov (.tmp 61)⟩])
    (.cond (.tmp 60)
     (.seq (.reg [⟨(some 62), none, .mov (.tmp 13)⟩,
       ⟨(some 8), none, .mov (.tmp 62)⟩,
       ⟨(some 9), none, .mov (.con (.int .i64 2))⟩])
     .ret)
     (.seq (.reg [⟨(some 56), none, .mov (.tmp 13)⟩,
       ⟨(some 8), none, .mov (.tmp 56)⟩,
       ⟨(some 9), none, .mov (.con (.int .i64 0))⟩])
     .ret))))))))))))))
def g78 : Fn := ⟨4, 63, [.tmp 8, .tmp 9], b78⟩
/- slices.reverseRangeCmpFunc[quiver/api.Hit] -/
def b79 : AC :=
  (.seq (.reg [⟨(some 10), none, .mov (.tmp 1)⟩,
    ⟨(some 8), none, .mov (.tmp 10)⟩])
  (.seq (.reg [⟨(some 11), none, .mov (.tmp 2)⟩,
    ⟨(some 12), none, .bin .sub (.tmp 11) (.con (.int .i64 1))⟩,
    ⟨(some 9), none, .mov (.tmp 12)⟩])
  (.block 0 (.loop (.seq (.seq (.reg [⟨(some 13), none, .mov (.tmp 8)⟩,
      ⟨(some 14), none, .mov (.tmp 9)⟩,
      ⟨(some 15), none, .bin .lss (.tmp 13) (.tmp 14)⟩])
    (.cond (.tmp 15)
     .skip
     (.exit 0)))
    (.block 1 (.seq (.regd [⟨[⟨⟨(some 16), none, .mov (.tmp 0)⟩, true, false, false, 0, [], none⟩,
       ⟨⟨(some 17), none, .mov (.tmp 8)⟩, true, false, false, 0, [], none⟩,
       ⟨⟨(some 18), none, .mov (.tmp 0)⟩, true, false, false, 0, [], none⟩,
       ⟨⟨(some 19), none, .mov (.tmp 9)⟩, true, false, false, 0, [], none⟩,
       ⟨⟨(some 20), none, .mov (.tmp 0)⟩, true, false, false, 0, [], none⟩,
       ⟨⟨(some 21), none, .mov (.tmp 9)⟩, true, false, false, 0, [], none⟩,
       ⟨⟨(some 22), none, .iaddr 2 (.tmp 20) (.tmp 21)⟩, true, false, false, 0, [], none⟩,
       ⟨⟨(some 23), none, .load true 2 (.tmp 22)⟩, false, false, false, 0, [], none⟩,
       ⟨⟨(some 24), none, .mov (.tmp 0)⟩, true, false, false, 0, [], none⟩,
       ⟨⟨(some 25), none, .mov (.tmp 8)⟩, true, false, false, 0, [], none⟩,
       ⟨⟨(some 26), none, .iaddr 2 (.tmp 24) (.tmp 25)⟩, true, false, false, 0, [], none⟩,
       ⟨⟨(some 27), none, .load true 2 (.tmp 26)⟩, false, false, false, 0, [], none⟩,
       ⟨⟨(some 28), none, .iaddr 2 (.tmp 16) (.tmp 17)⟩, true, false, false, 0, [], none⟩,
       ⟨⟨none, none, .store 2 (.tmp 28) (.tmp 23)⟩, false, true, false, 0, [], none⟩], 0, [⟨(some 29), none, .iaddr 2 (.tmp 18) (.tmp 19)⟩,
       ⟨none, none, .store 2 (.tmp 29) (.tmp 27)⟩]⟩])
     (.seq (.reg [⟨(some 30), none, .mov (.tmp 8)⟩,
       ⟨(some 31), none, .bin .add (.tmp 30) (.con (.int .i64 1))⟩,
       ⟨(some 8), none, .mov (.tmp 31)⟩])
     (.reg [⟨(some 32), none, .mov (.tmp 9)⟩,
       ⟨(some 33), none, .bin .sub (.tmp 32) (.con (.int .i64 1))⟩,
       ⟨(some 9), none, .mov (.tmp 33)⟩])))))))))
def g79 : Fn := ⟨4, 34, [], b79⟩
/- slices.partialInsertionSortCmpFunc[quiver/api.Hit] -/
def b80 : AC :=
  (.seq (.reg [⟨(some 8), none, .mov (.con (.bool false))⟩])
  (.seq (.reg [⟨(some 13), none, .mov (.tmp 1)⟩,
    ⟨(some 14), none, .bin .add (.tmp 13) (.con (.int .i64 1))⟩,
    ⟨(some 9), none, .mov (.tmp 14)⟩])
  (.seq (.seq (.reg [⟨(some 10), none, .mov (.con (.int .i64 0))⟩])
  (.block 0 (.loop (.seq (.seq (.reg [⟨(some 15), none, .mov (.tmp 10)⟩,
      ⟨(some 16), none, .bin .lss (.tmp 15) (.con (.int .i64 5))⟩])
    (.cond (.tmp 16)
     .skip
     (.exit 0)))
    (.seq (.block 1 (.seq (.block 2 (.loop (.seq (.seq (.regd [⟨[⟨⟨(some 19), none, .mov (.tmp 9)⟩, true, false, false, 0, [], none⟩,
         ⟨⟨(some 20), none, .mov (.tmp 2)⟩, true, false, false, 0, [], none⟩], 0, [⟨(some 21), none, .bin .lss (.tmp 19) (.tmp 20)⟩,
         ⟨(some 22), none, .mov (.tmp 21)⟩]⟩,
        ⟨[⟨⟨(some 23), (some (22, true)), .mov (.tmp 3)⟩, true, false, false, 0, [], none⟩,
         ⟨⟨(some 24), (some (22, true)), .mov (.tmp 0)⟩, true, false, false, 0, [], none⟩,
         ⟨⟨(some 25), (some (22, true)), .mov (.tmp 9)⟩, true, false, false, 0, [], none⟩,
         ⟨⟨(some 26), (some (22, true)), .iaddr 2 (.tmp 24) (.tmp 25)⟩, true, false, false, 0, [], none⟩,
         ⟨⟨(some 27), (some (22, true)), .load true 2 (.tmp 26)⟩, false, false, false, 0, [], none⟩,
         ⟨⟨(some 28), (some (22, true)), .mov (.tmp 0)⟩, true, false, false, 0, [], none⟩,
         ⟨⟨(some 29), (some (22, true)), .mov (.tmp 9)⟩, true, false, false, 0, [], none⟩,
         ⟨⟨(some 30), (some (22, true)), .bin .sub (.tmp 29) (.con (.int .i64 1))⟩, true, false, false, 0, [], none⟩,
         ⟨⟨(some 31), (some (22, true)), .iaddr 2 (.tmp 28) (.tmp 30)⟩, true, false, false, 0, [], none⟩,
         ⟨⟨(some 32), (some (22, true)), .load true 2 (.tmp 31)⟩, false, false, false, 0, [], none⟩], 0, [⟨(some 33), (some (22, true)), .callv (.tmp 23) [(.tmp 27), (.tmp 32)]⟩,
         ⟨(some 34), (some (22, true)), .bin .lss (.tmp 33) (.con (.int .i64 0))⟩,
         ⟨(some 35), (some (22, true)), .un .not (.tmp 34)⟩,
         ⟨(some 36), none, .pick (.tmp 22) (.tmp 35) (.con (.bool false))⟩]⟩])
       (.cond (.tmp 36)
        .skip
        (.exit 2)))
       (.block 3 (.reg [⟨(some 37), none, .mov (.tmp 9)⟩,
          ⟨(some 38), none, .bin .add (.tmp 37) (.con (.int .i64 1))⟩,
          ⟨(some 9), none, .mov (.tmp 38)⟩])))))
     (.seq (.seq (.reg [⟨(some 39), none, .mov (.tmp 9)⟩,
       ⟨(some 40), none, .mov (.tmp 2)⟩,
       ⟨(some 41), none, .bin .eql (.tmp 39) (.tmp 40)⟩])
     (.cond (.tmp 41)
      (.seq (.reg [⟨(some 8), none, .mov (.con (.bool true))⟩])
      .ret)
      .skip))
     (.seq (.seq (.reg [⟨(some 42), none, .mov (.tmp 2)⟩,
       ⟨(some 43), none, .mov (.tmp 1)⟩,
       ⟨(some 44), none, .bin .sub (.tmp 42) (.tmp 43)⟩,
       ⟨(some 45), none, .bin .lss (.tmp 44) (.con (.int .i64 50))⟩])
     (.cond (.tmp 45)
      (.seq (.reg [⟨(some 8), none, .mov (.con (.bool false))⟩])
      .ret)
      .skip))
     (.seq (.regd [⟨[⟨⟨(some 46), none, .mov (.tmp 0)⟩, true, false, false, 0, [], none⟩,
       ⟨⟨(some 47), none, .mov (.tmp 9)⟩, true, false, false, 0, [], none⟩,
       ⟨⟨(some 48), none, .mov (.tmp 0)⟩, true, false, false, 0, [], none⟩,
       ⟨⟨(some 49), none, .mov (.tmp 9)⟩, true, false, false, 0, [], none⟩,
       ⟨⟨(some 50), none, .bin .sub (.tmp 49) (.con (.int .i64 1))⟩, true, false, false, 0, [], none⟩,
       ⟨⟨(some 51), none, .mov (.tmp 0)⟩, true, false, false, 0, [], none⟩,
       ⟨⟨(some 52), none, .mov (.tmp 9)⟩, true, false, false, 0, [], none⟩,
       ⟨⟨(some 53), none, .bin .sub (.tmp 52) (.con (.int .i64 1))⟩, true, false, false, 0, [], none⟩,
       ⟨⟨(some 54), none, .iaddr 2 (.tmp 51) (.tmp 53)⟩, true, false, false, 0, [], none⟩,
       ⟨⟨(some 55), none, .load true 2 (.tmp 54)⟩, false, false, false, 0, [], none⟩,
       ⟨⟨(some 56), none, .mov (.tmp 0)⟩, true, false, false, 0, [], none⟩,
       ⟨⟨(some 57), none, .mov (.tmp 9)⟩, true, false, false, 0, [], none⟩,
       ⟨⟨(some 58), none, .iaddr 2 (.tmp 56) (.tmp 57)⟩, true, false, false, 0, [], none⟩,
       ⟨⟨(some 59), none, .load true 2 (.tmp 58)⟩, false, false, false, 0, [], none⟩,
       ⟨⟨(some 60), none, .iaddr 2 (.tmp 46) (.tmp 47)⟩, true, false, false, 0, [], none⟩,
       ⟨⟨none, none, .store 2 (.tmp 60) (.tmp 55)⟩, false, true, false, 0, [], none⟩], 0, [⟨(some 61), none, .iaddr 2 (.tmp 48) (.tmp 50)⟩,
       ⟨none, none, .store 2 (.tmp 61) (.tmp 59)⟩]⟩])
     (.seq (.seq (.reg [⟨(some 62), none, .mov (.tmp 9)⟩,
       ⟨(some 63), none, .mov (.tmp 1)⟩,
       ⟨(some 64), none, .bin .sub (.tmp 62) (.tmp 63)⟩,
       ⟨(some 65), none, .bin .geq (.tmp 64) (.con (.int .i64 2))⟩])
     (.cond (.tmp 65)
      (.seq (.reg [⟨(some 66), none, .mov (.tmp 9)⟩,
        ⟨(some 67), none, .bin .sub (.tmp 66) (.con (.int .i64 1))⟩,
        ⟨(some 11), none, .mov (.tmp 67)⟩])
      (.block 4 (.loop (.seq (.seq (.reg [⟨(some 68), none, .mov (.tmp 11)⟩,
          ⟨(some 69), none, .bin .geq (.tmp 68) (.con (.int .i64 1))⟩])
        (.cond (.tmp 69)
         .skip
         (.exit 4)))
        (.seq (.block 5 (.seq (.seq (.regd [⟨[⟨⟨(some 72), none, .mov (.tmp 3)⟩, true, false, false, 0, [], none⟩,
           ⟨⟨(some 73), none, .mov (.tmp 0)⟩, true, false, false, 0, [], none⟩,
           ⟨⟨(some 74), none, .mov (.tmp 11)⟩, true, false, false, 0, [], none⟩,
           ⟨⟨(some 75), none, .iaddr 2 (.tmp 73) (.tmp 74)⟩, true, false, false, 0, [], none⟩,
           ⟨⟨(some 76), none, .load true 2 (.tmp 75)⟩, false, false, false, 0, [], none⟩,
           ⟨⟨(some 77), none, .mov (.tmp 0)⟩, true, false, false, 0, [], none⟩,
           ⟨⟨(some 78), none, .mov (.tmp 11)⟩, true, false, false, 0, [], none⟩,
           ⟨⟨(some 79), none, .bin .sub (.tmp 78) (.con (.int .i64 1))⟩, true, false, false, 0, [], none⟩,
           ⟨⟨(some 80), none, .iaddr 2 (.tmp 77) (.tmp 79)⟩, true, false, false, 0, [], none⟩,
           ⟨⟨(some 81), none, .load true 2 (.tmp 80)⟩, false, false, false, 0, [], none⟩], 0, [⟨(some 82), none, .callv (.tmp 72) [(.tmp 76), (.tmp 81)]⟩,
           ⟨(some 83), none, .bin .lss (.tmp 82) (.con (.int .i64 0))⟩,
           ⟨(some 84), none, .un .not (.tmp 83)⟩]⟩])
         (.cond (.tmp 84)
          (.exit 4)
          .skip))
         (.regd [⟨[⟨⟨(some 85), none, .mov (.tmp 0)⟩, true, false, false, 0, [], none⟩,
           ⟨⟨(some 86), none, .mov (.tmp 11)⟩, true, false, false, 0, [], none⟩,
           ⟨⟨(some 87), none, .mov (.tmp 0)⟩, true, false, false, 0, [], none⟩,
           ⟨⟨(some 88), none, .mov (.tmp 11)⟩, true, false, false, 0, [], none⟩,
           ⟨⟨(some 89), none, .bin .sub (.tmp 88) (.con (.int .i64 1))⟩, true, false, false, 0, [], none⟩,
           ⟨⟨(some 90), none, .mov (.tmp 0)⟩, true, false, false, 0, [], none⟩,
           ⟨⟨(some 91), none, .mov (.tmp 11)⟩, true, false, false, 0, [], none⟩,
           ⟨⟨(some 92), none, .bin .sub (.tmp 91) (.con (.int .i64 1))⟩, true, false, false, 0, [], none⟩,
           ⟨⟨(some 93), none, .iaddr 2 (.tmp 90) (.tmp 92)⟩, true, false, false, 0, [], none⟩,
           ⟨⟨(some 94), none, .load true 2 (.tmp 93)⟩, false, false, false, 0, [], none⟩,
           ⟨⟨(some 95), none, .mov (.tmp 0)⟩, true, false, false, 0, [], none⟩,
           ⟨⟨(some 96), none, .mov (.tmp 11)⟩, true, false, false, 0, [], none⟩,
           ⟨⟨(some 97), none, .iaddr 2 (.tmp 95) (.tmp 96)⟩, true, false, false, 0, [], none⟩,
           ⟨⟨(some 98), none, .load true 2 (.tmp 97)⟩, false, false, false, 0, [], none⟩,
           ⟨⟨(some 99), none, .iaddr 2 (.tmp 85) (.tmp 86)⟩, true, false, false, 0, [], none⟩,
           ⟨⟨none, none, .store 2 (.tmp 99) (.tmp 94)⟩, false, true, false, 0, [], none⟩], 0, [⟨(some 100), none, .iaddr 2 (.tmp 87) (.tmp 89)⟩,
           ⟨none, none, .store 2 (.tmp 100) (.tmp 98)⟩]⟩])))
        (.reg [⟨(some 70), none, .mov (.tmp 11)⟩,
          ⟨(some 71), none, .bin .sub (.tmp 70) (.con (.int .i64 1))⟩,
          ⟨(some 11), none, .mov (.tmp 71)⟩]))))))
      .skip))
     (.seq (.reg [⟨(some 101), none, .mov (.tmp 2)⟩,
       ⟨(some 102), none, .mov (.tmp 9)⟩,
       ⟨(some 103), none, .bin .sub (.tmp 101) (.tmp 102)⟩,
       ⟨(some 104), none, .bin .geq (.tmp 103) (.con (.int .i64 2))⟩])
     (.cond (.tmp 104)
      (.seq (.reg [⟨(some 105), none, .mov (.tmp 9)⟩,
        ⟨(some 106), none, .bin .add (.tmp 105) (.con (.int .i64 1))⟩,
        ⟨(some 12), none, .mov (.tmp 106)⟩])
      (.block 6 (.loop (.seq (.seq (.reg [⟨(some 107), none, .mov (.tmp 12)⟩,
          ⟨(some 108), none, .mov (.tmp 2)⟩,
          ⟨(some 109), none, .bin .lss (.tmp 107) (.tmp 108)⟩])
        (.cond (.tmp 109)
         .skip
         (.exit 6)))
        (.seq (.block 7 (.seq (.seq (.regd [⟨[⟨⟨(some 112), none, .mov (.tmp 3)⟩, true, false, false, 0, [], none⟩,
           ⟨⟨(some 113), none, .mov (.tmp 0)⟩, true, false, false, 0, [], none⟩,
           ⟨⟨(some 114), none, .mov (.tmp 12)⟩, true, false, false, 0, [], none⟩,
           ⟨⟨(some 115), none, .iaddr 2 (.tmp 113) (.tmp 114)⟩, true, false, false, 0, [], none⟩,
           ⟨⟨(some 116), none, .load true 2 (.tmp 115)⟩, false, false, false, 0, [], none⟩,
           ⟨⟨(some 117), none, .mov (.tmp 0)⟩, true, false, false, 0, [], none⟩,
           ⟨⟨(some 118), none, .mov (.tmp 12)⟩, true, false, false, 0, [], none⟩,
           ⟨⟨(some 119), none, .bin .sub (.tmp 118) (.con (.int .i64 1))⟩, true, false, false, 0, [], none⟩,
           ⟨⟨(some 120), none, .iaddr 2 (.tmp 117) (.tmp 119)⟩, true, false, false, 0, [], none⟩,
           ⟨⟨(some 121), none, .load true 2 (.tmp 120)⟩, false, false, false, 0, [], none⟩], 0, [⟨(some 122), none, .callv (.tmp 112) [(.tmp 116), (.tmp 121)]⟩,
           ⟨(some 123), none, .bin .lss (.tmp 122) (.con (.int .i64 0))⟩,
           ⟨(some 124), none, .un .not (.tmp 123)⟩]⟩])
         (.cond (.tmp 124)
          (.exit 6)
          .skip))
         (.regd [⟨[⟨⟨(some 125), none, .mov (.tmp 0)⟩, true, false, false, 0, [], none⟩,
           ⟨⟨(some 126), none, .mov (.tmp 12)⟩, true, false, false, 0, [], none⟩,
           ⟨⟨(some 127), none, .mov (.tmp 0)⟩, true, false, false, 0, [], none⟩,
           ⟨⟨(some 128), none, .mov (.tmp 12)⟩, true, false, false, 0, [], none⟩,
           ⟨⟨(some 129), none, .bin .sub (.tmp 128) (.con (.int .i64 1))⟩, true, false, false, 0, [], none⟩,
           ⟨⟨(some 130), none, .mov (.tmp 0)⟩, true, false, false, 0, [], none⟩,
           ⟨⟨(some 131), none, .mov (.tmp 12)⟩, true, false, false, 0, [], none⟩,
           ⟨⟨(some 132), none, .bin .sub (.tmp 131) (.con (.int .i64 1))⟩, true, false, false, 0, [], none⟩,
           ⟨⟨(some 133), none, .iaddr 2 (.tmp 130) (.tmp 132)⟩, true, false, false, 0, [], none⟩,
           ⟨⟨(some 134), none, .load true 2 (.tmp 133)⟩, false, false, false, 0, [], none⟩,
           ⟨⟨(some 135), none, .mov (.tmp 0)⟩, true, false, false, 0, [], none⟩,
           ⟨⟨(some 136), none, .mov (.tmp 12)⟩, true, false, false, 0, [], none⟩,
           ⟨⟨(some 137), none, .iaddr 2 (.tmp 135) (.tmp 136)⟩, true, false, false, 0, [], none⟩,
           ⟨⟨(some 138), none, .load true 2 (.tmp 137)⟩, false, false, false, 0, [], none⟩,
           ⟨⟨(some 139), none, .iaddr 2 (.tmp 125) (.tmp 126)⟩, true, false, false, 0, [], none⟩,
           ⟨⟨none, none, .store 2 (.tmp 139) (.tmp 134)⟩, false, true, false, 0, [], none⟩], 0, [⟨(some 140), none, .iaddr 2 (.tmp 127) (.tmp 129)⟩,
           ⟨none, none, .store 2 (.tmp 140) (.tmp 138)⟩]⟩])))
        (.reg [⟨(some 110), none, .mov (.tmp 12)⟩,
          ⟨(some 111), none, .bin .add (.tmp 110) (.con (.int .i64 1))⟩,
          ⟨(some 12), none, .mov (.tmp 111)⟩]))))))
      .skip))))))))
    (.reg [⟨(some 17), none, .mov (.tmp 10)⟩,
      ⟨(some 18), none, .bin .add (.tmp 17) (.con (.int .i64 1))⟩,
      ⟨(some 10), none, .mov (.tmp 18)⟩]))))))
  (.seq (.reg [⟨(some 8), none, .mov (.con (.bool false))⟩])
  .ret))))
def g80 : Fn := ⟨4, 141, [.tmp 8], b80⟩
/- slices.partitionEqualCmpFunc[quiver/api.Hit] -/
def b81 : AC :=
  (.seq (.reg [⟨(some 10), none, .mov (.con (.int .i64 0))⟩])
  (.seq (.regd [⟨[⟨⟨(some 13), none, .mov (.tmp 0)⟩, true, false, false, 0, [], none⟩,
    ⟨⟨(some 14), none, .mov (.tmp 1)⟩, true, false, false, 0, [], none⟩,
    ⟨⟨(some 15), none, .mov (.tmp 0)⟩, true, false, false, 0, [], none⟩,
    ⟨⟨(some 16), none, .mov (.tmp 3)⟩, true, false, false, 0, [], none⟩,
    ⟨⟨(some 17), none, .mov (.tmp 0)⟩, true, false, false, 0, [], none⟩,
    ⟨⟨(some 18), none, .mov (.tmp 3)⟩, true, false, false, 0, [], none⟩,
    ⟨⟨(some 19), none, .iaddr 2 (.tmp 17) (.tmp 18)⟩, true, false, false, 0, [], none⟩,
    ⟨⟨(some 20), none, .load true 2 (.tmp 19)⟩, false, false, false, 0, [], none⟩,
    ⟨⟨(some 21), none, .mov (.tmp 0)⟩, true, false, false, 0, [], none⟩,
    ⟨⟨(some 22), none, .mov (.tmp 1)⟩, true, false, false, 0, [], none⟩,
    ⟨⟨(some 23), none, .iaddr 2 (.tmp 21) (.tmp 22)⟩, true, false, false, 0, [], none⟩,
    ⟨⟨(some 24), none, .load true 2 (.tmp 23)⟩, false, false, false, 0, [], none⟩,
    ⟨⟨(some 25), none, .iaddr 2 (.tmp 13) (.tmp 14)⟩, true, false, false, 0, [], none⟩,
    ⟨⟨none, none, .store 2 (.tmp 25) (.tmp 20)⟩, false, true, false, 0, [], none⟩], 0, [⟨(some 26), none, .iaddr 2 (.tmp 15) (.tmp 16)⟩,
    ⟨none, none, .store 2 (.tmp 26) (.tmp 24)⟩]⟩])
  (.seq (.reg [⟨(some 27), none, .mov (.tmp 1)⟩,
    ⟨(some 28), none, .bin .add (.tmp 27) (.con (.int .i64 1))⟩,
    ⟨(some 29), none, .mov (.tmp 2)⟩,
    ⟨(some 30), none, .bin .sub (.tmp 29) (.con (.int .i64 1))⟩,
    ⟨(some 11), none, .mov (.tmp 28)⟩,
    ⟨(some 12), none, .mov (.tmp 30)⟩])
  (.seq (.block 0 (.loop (.block 1 (.seq (.block 2 (.loop (.seq (.seq (.regd [⟨[⟨⟨(some 31), none, .mov (.tmp 11)⟩, true, false, false, 0, [], none⟩,
         ⟨⟨(some 32), none, .mov (.tmp 12)⟩, true, false, false, 0, [], none⟩], 0, [⟨(some 33), none, .bin .leq (.tmp 31) (.tmp 32)⟩,
         ⟨(some 34), none, .mov (.tmp 33)⟩]⟩,
        ⟨[⟨⟨(some 35), (some (34, true)), .mov (.tmp 4)⟩, true, false, false, 0, [], none⟩,
         ⟨⟨(some 36), (some (34, true)), .mov (.tmp 0)⟩, true, false, false, 0, [], none⟩,
         ⟨⟨(some 37), (some (34, true)), .mov (.tmp 1)⟩, true, false, false, 0, [], none⟩,
         ⟨⟨(some 38), (some (34, true)), .iaddr 2 (.tmp 36) (.tmp 37)⟩, true, false, false, 0, [], none⟩,
         ⟨⟨(some 39), (some (34, true)), .load true 2 (.tmp 38)⟩, false, false, false, 0, [], none⟩,
         ⟨⟨(some 40), (some (34, true)), .mov (.tmp 0)⟩, true, false, false, 0, [], none⟩,
         ⟨⟨(some 41), (some (34, true)), .mov (.tmp 11)⟩, true, false, false, 0, [], none⟩,
         ⟨⟨(some 42), (some (34, true)), .iaddr 2 (.tmp 40) (.tmp 41)⟩, true, false, false, 0, [], none⟩,
         ⟨⟨(some 43), (some (34, true)), .load true 2 (.tmp 42)⟩, false, false, false, 0, [], none⟩], 0, [⟨(some 44), (some (34, true)), .callv (.tmp 35) [(.tmp 39), (.tmp 43)]⟩,
         ⟨(some 45), (some (34, true)), .bin .lss (.tmp 44) (.con (.int .i64 0))⟩,
         ⟨(some 46), (some (34, true)), .un .not (.tmp 45)⟩,
         ⟨(some 47), none, .pick (.tmp 34) (.tmp 46) (.con (.bool false))⟩]⟩])
       (.cond (.tmp 47)
        .skip
        (.exit 2)))
       (.block 3 (.reg [⟨(some 48), none, .mov (.tmp 11)⟩,
          ⟨(some 49), none, .bin .add (.tmp 48) (.con (.int .i64 1))⟩,
          ⟨(some 11), none, .mov (.tmp 49)⟩])))))
     (.seq (.block 4 (.loop (.seq (.seq (.regd [⟨[⟨⟨(some 50), none, .mov (.tmp 11)⟩, true, false, false, 0, [], none⟩,
         ⟨⟨(some 51), none, .mov (.tmp 12)⟩, true, false, false, 0, [], none⟩], 0, [⟨(some 52), none, .bin .leq (.tmp 50) (.tmp 51)⟩,
         ⟨(some 53), none, .mov (.tmp 52)⟩]⟩,
        ⟨[⟨⟨(some 54), (some (53, true)), .mov (.tmp 4)⟩, true, false, false, 0, [], none⟩,
         ⟨⟨(some 55), (some (53, true)), .mov (.tmp 0)⟩, true, false, false, 0, [], none⟩,
         ⟨⟨(some 56), (some (53, true)), .mov (.tmp 1)⟩, true, false, false, 0, [], none⟩,
         ⟨⟨(some 57), (some (53, true)), .iaddr 2 (.tmp 55) (.tmp 56)⟩, true, false, false, 0, [], none⟩,
         ⟨⟨(some 58), (some (53, true)), .load true 2 (.tmp 57)⟩, false, false, false, 0, [], none⟩,
         ⟨⟨(some 59), (some (53, true)), .mov (.tmp 0)⟩, true, false, false, 0, [], none⟩,
         ⟨⟨(some 60), (some (53, true)), .mov (.tmp 12)⟩, true, false, false, 0, [], none⟩,
         ⟨⟨(some 61), (some (53, true)), .iaddr 2 (.tmp 59) (.tmp 60)⟩, true, false, false, 0, [], none⟩,
         ⟨⟨(some 62), (some (53, true)), .load true 2 (.tmp 61)⟩, false, false, false, 0, [], none⟩], 0, [⟨(some 63), (some (53, true)), .callv (.tmp 54) [(.tmp 58), (.tmp 62)]⟩,
         ⟨(some 64), (some (53, true)), .bin .lss (.tmp 63) (.con (.int .i64 0))⟩,
         ⟨(some 65), none, .pick (.tmp 53) (.tmp 64) (.con (.bool false))⟩]⟩])
       (.cond (.tmp 65)
        .skip
        (.exit 4)))
       (.block 5 (.reg [⟨(some 66), none, .mov (.tmp 12)⟩,
          ⟨(some 67), none, .bin .sub (.tmp 66) (.con (.int .i64 1))⟩,
          ⟨(some 12), none, .mov (.tmp 67)⟩])))))
     (.seq (.seq (.reg [⟨(some 68), none, .mov (.tmp 11)⟩,
       ⟨(some 69), none, .mov (.tmp 12)⟩,
       ⟨(some 70), none, .bin .gtr (.tmp 68) (.tmp 69)⟩])
     (.cond (.tmp 70)
      (.exit 0)
      .skip))
     (.seq (.regd [⟨[⟨⟨(some 71), none, .mov (.tmp 0)⟩, true, false, false, 0, [], none⟩,
       ⟨⟨(some 72), none, .mov (.tmp 11)⟩, true, false, false, 0, [], none⟩,
       ⟨⟨(some 73), none, .mov (.tmp 0)⟩, true, false, false, 0, [], none⟩,
       ⟨⟨(some 74), none, .mov (.tmp 12)⟩, true, false, false, 0, [], none⟩,
       ⟨⟨(some 75), none, .mov (.tmp 0)⟩, true, false, false, 0, [], none⟩,
       ⟨⟨(some 76), none, .mov (.tmp 12)⟩, true, false, false, 0, [], none⟩,
       ⟨⟨(some 77), none, .iaddr 2 (.tmp 75) (.tmp 76)⟩, true, false, false, 0, [], none⟩,
       ⟨⟨(some 78), none, .load true 2 (.tmp 77)⟩, false, false, false, 0, [], none⟩,
       ⟨⟨(some 79), none, .mov (.tmp 0)⟩, true, false, false, 0, [], none⟩,
       ⟨⟨(some 80), none, .mov (.tmp 11)⟩, true, false, false, 0, [], none⟩,
       ⟨⟨(some 81), none, .iaddr 2 (.tmp 79) (.tmp 80)⟩, true, false, false, 0, [], none⟩,
       ⟨⟨(some 82), none, .load true 2 (.tmp 81)⟩, false, false, false, 0, [], none⟩,
       ⟨⟨(some 83), none, .iaddr 2 (.tmp 71) (.tmp 72)⟩, true, false, false, 0, [], none⟩,
       ⟨⟨none, none, .store 2 (.tmp 83) (.tmp 78)⟩, false, true, false, 0, [], none⟩], 0, [⟨(some 84), none, .iaddr 2 (.tmp 73) (.tmp 74)⟩,
       ⟨none, none, .store 2 (.tmp 84) (.tmp 82)⟩]⟩])
     (.seq (.reg [⟨(some 85), none, .mov (.tmp 11)⟩,
       ⟨(some 86), none, .bin .add (.tmp 85) (.con (.int .i64 1))⟩,
       ⟨(some 11), none, .mov (.tmp 86)⟩])
     (.reg [⟨(some 87), none, .mov (.tmp 12)⟩,
       ⟨(some 88), none, .bin .sub (.tmp 87) (.con (.int .i64 1))⟩,
       ⟨(some 12), none, .mov (.tmp 88)⟩])))))))))
  (.seq (.reg [⟨(some 89), none, .mov (.tmp 11)⟩,
    ⟨(some 10), none, .mov (.tmp 89)⟩])
  .ret)))))
def g81 : Fn := ⟨5, 90, [.tmp 10], b81⟩
/- slices.partitionCmpFunc[quiver/api.Hit] -/
def b82 : AC :=
  (.seq (.reg [⟨(some 10), none, .mov (.con (.int .i64 0))⟩,
    ⟨(some 11), none, .mov (.con (.bool false))⟩])
  (.seq (.regd [⟨[⟨⟨(some 14), none, .mov (.tmp 0)⟩, true, false, false, 0, [], none⟩,
    ⟨⟨(some 15), none, .mov (.tmp 1)⟩, true, false, false, 0, [], none⟩,
    ⟨⟨(some 16), none, .mov (.tmp 0)⟩, true, false, false, 0, [], none⟩,
    ⟨⟨(some 17), none, .mov (.tmp 3)⟩, true, false, false, 0, [], none⟩,
    ⟨⟨(some 18), none, .mov (.tmp 0)⟩, true, false, false, 0, [], none⟩,
    ⟨⟨(some 19), none, .mov (.tmp 3)⟩, true, false, false, 0, [], none⟩,
    ⟨⟨(some 20), none, .iaddr 2 (.tmp 18) (.tmp 19)⟩, true, false, false, 0, [], none⟩,
    ⟨⟨(some 21), none, .load true 2 (.tmp 20)⟩, false, false, false, 0, [], none⟩,
    ⟨⟨(some 22), none, .mov (.tmp 0)⟩, true, false, false, 0, [], none⟩,
    ⟨⟨(some 23), none, .mov (.tmp 1)⟩, true, false, false, 0, [], none⟩,
    ⟨⟨(some 24), none, .iaddr 2 (.tmp 22) (.tmp 23)⟩, true, false, false, 0, [], none⟩,
    ⟨⟨(some 25), none, .load true 2 (.tmp 24)⟩, false, false, false, 0, [], none⟩,
    ⟨⟨(some 26), none, .iaddr 2 (.tmp 14) (.tmp 15)⟩, true, false, false, 0, [], none⟩,
    ⟨⟨none, none, .store 2 (.tmp 26) (.tmp 21)⟩, false, true, false, 0, [], none⟩], 0, [⟨(some 27), none, .iaddr 2 (.tmp 16) (.tmp 17)⟩,
    ⟨none, none, .store 2 (.tmp 27) (.tmp 25)⟩]⟩])
  (.seq (.reg [⟨(some 28), none, .mov (.tmp 1)⟩,
    ⟨(some 29), none, .bin .add (.tmp 28) (.con (.int .i64 1))⟩,
    ⟨(some 30), none, .mov (.tmp 2)⟩,
    ⟨(some 31), none, .bin .sub (.tmp 30) (.con (.int .i64 1))⟩,
    ⟨(some 12), none, .mov (.tmp 29)⟩,
    ⟨(some 13), none, .mov (.tmp 31)⟩])
  (.seq (.block 0 (.loop (.seq (.seq (.regd [⟨[⟨⟨(some 32), none, .mov (.tmp 12)⟩, true, false, false, 0, [], none⟩,
      ⟨⟨(some 33), none, .mov (.tmp 13)⟩, true, false, false, 0, [], none⟩], 0, [⟨(some 34), none, .bin .leq (.tmp 32) (.tmp 33)⟩,
      ⟨(some 35), none, .mov (.tmp 34)⟩]⟩,
     ⟨[⟨⟨(some 36), (some (35, true)), .mov (.tmp 4)⟩, true, false, false, 0, [], none⟩,
      ⟨⟨(some 37), (some (35, true)), .mov (.tmp 0)⟩, true, false, false, 0, [], none⟩,
      ⟨⟨(some 38), (some (35, true)), .mov (.tmp 12)⟩, true, false, false, 0, [], none⟩,
      ⟨⟨(some 39), (some (35, true)), .iaddr 2 (.tmp 37) (.tmp 38)⟩, true, false, false, 0, [], none⟩,
      ⟨⟨(some 40), (some (35, true)), .load true 2 (.tmp 39)⟩, false, false, false, 0, [], none⟩,
      ⟨⟨(some 41), (some (35, true)), .mov (.tmp 0)⟩, true, false, false, 0, [], none⟩,
      ⟨⟨(some 42), (some (35, true)), .mov (.tmp 1)⟩, true, false, false, 0, [], none⟩,
      ⟨⟨(some 43), (some (35, true)), .iaddr 2 (.tmp 41) (.tmp 42)⟩, true, false, false, 0, [], none⟩,
      ⟨⟨(some 44), (some (35, true)), .load true 2 (.tmp 43)⟩, false, false, false, 0, [], none⟩], 0, [⟨(some 45), (some (35, true)), .callv (.tmp 36) [(.tmp 40), (.tmp 44)]⟩,
      ⟨(some 46), (some (35, true)), .bin .lss (.tmp 45) (.con (.int .i64 0))⟩,
      ⟨(some 47), none, .pick (.tmp 35) (.tmp 46) (.con (.bool false))⟩]⟩])
    (.cond (.tmp 47)
     .skip
     (.exit 0)))
    (.block 1 (.reg [⟨(some 48), none, .mov (.tmp 12)⟩,
       ⟨(some 49), none, .bin .add (.tmp 48) (.con (.int .i64 1))⟩,
       ⟨(some 12), none, .mov (.tmp 49)⟩])))))
  (.seq (.block 2 (.loop (.seq (.seq (.regd [⟨[⟨⟨(some 50), none, .mov (.tmp 12)⟩, true, false, false, 0, [], none⟩,
      ⟨⟨(some 51), none, .mov (.tmp 13)⟩, true, false, false, 0, [], none⟩], 0, [⟨(some 52), none, .bin .leq (.tmp 50) (.tmp 51)⟩,
      ⟨(some 53), none, .mov (.tmp 52)⟩]⟩,
     ⟨[⟨⟨(some 54), (some (53, true)), .mov (.tmp 4)⟩, true, false, false, 0, [], none⟩,
      ⟨⟨(some 55), (some (53, true)), .mov (.tmp 0)⟩, true, false, false, 0, [], none⟩,
      ⟨⟨(some 56), (some (53, true)), .mov (.tmp 13)⟩, true, false, false, 0, [], none⟩,
      ⟨⟨(some 57), (some (53, true)), .iaddr 2 (.tmp 55) (.tmp 56)⟩, true, false, false, 0, [], none⟩,
      ⟨⟨(some 58), (some (53, true)), .load true 2 (.tmp 57)⟩, false, false, false, 0, [], none⟩,
      ⟨⟨(some 59), (some (53, true)), .mov (.tmp 0)⟩, true, false, false, 0, [], none⟩,
      ⟨⟨(some 60), (some (53, true)), .mov (.tmp 1)⟩, true, false, false, 0, [], none⟩,
      ⟨⟨(some 61), (some (53, true)), .iaddr 2 (.tmp 59) (.tmp 60)⟩, true, false, false, 0, [], none⟩,
      ⟨⟨(some 62), (some (53, true)), .load true 2 (.tmp 61)⟩, false, false, false, 0, [], none⟩], 0, [⟨(some 63), (some (53, true)), .callv (.tmp 54) [(.tmp 58), (.tmp 62)]⟩,
      ⟨(some 64), (some (53, true)), .bin .lss (.tmp 63) (.con (.int .i64 0))⟩,
      ⟨(some 65), (some (53, true)), .un .not (.tmp 64)⟩,
      ⟨(some 66), none, .pick (.tmp 53) (.tmp 65) (.con (.bool false))⟩]⟩])
    (.cond (.tmp 66)
     .skip
     (.exit 2)))
    (.block 3 (.reg [⟨(some 67), none, .mov (.tmp 13)⟩,
       ⟨(some 68), none, .bin .sub (.tmp 67) (.con (.int .i64 1))⟩,
       ⟨(some 13), none, .mov (.tmp 68)⟩])))))
  (.seq (.seq (.reg [⟨(some 69), none, .mov (.tmp 12)⟩,
    ⟨(some 70), none, .mov (.tmp 13)⟩,
    ⟨(some 71), none, .bin .gtr (.tmp 69) (.tmp 70)⟩])
  (.cond (.tmp 71)
   (.seq (.regd [⟨[⟨⟨(some 72), none, .mov (.tmp 0)⟩, true, false, false, 0, [], none⟩,
     ⟨⟨(some 73), none, .mov (.tmp 13)⟩, true, false, false, 0, [], none⟩,
     ⟨⟨(some 74), none, .mov (.tmp 0)⟩, true, false, false, 0, [], none⟩,
     ⟨⟨(some 75), none, .mov (.tmp 1)⟩, true, false, false, 0, [], none⟩,
     ⟨⟨(some 76), none, .mov (.tmp 0)⟩, true, false, false, 0, [], none⟩,
     ⟨⟨(some 77), none, .mov (.tmp 1)⟩, true, false, false, 0, [], none⟩,
     ⟨⟨(some 78), none, .iaddr 2 (.tmp 76) (.tmp 77)⟩, true, false, false, 0, [], none⟩,
     ⟨⟨(some 79), none, .load true 2 (.tmp 78)⟩, false, false, false, 0, [], none⟩,
     ⟨⟨(some 80), none, .mov (.tmp 0)⟩, true, false, false, 0, [], none⟩,
     ⟨⟨(some 81), none, .mov (.tmp 13)⟩, true, false, false, 0, [], none⟩,
     ⟨⟨(some 82), none, .iaddr 2 (.tmp 80) (.tmp 81)⟩, true, false, false, 0, [], none⟩,
     ⟨⟨(some 83), none, .load true 2 (.tmp 82)⟩, false, false, false, 0, [], none⟩,
     ⟨⟨(some 84), none, .iaddr 2 (.tmp 72) (.tmp 73)⟩, true, false, false, 0, [], none⟩,
     ⟨⟨none, none, .store 2 (.tmp 84) (.tmp 79)⟩, false, true, false, 0, [], none⟩], 0, [⟨(some 85), none, .iaddr 2 (.tmp 74) (.tmp 75)⟩,
     ⟨none, none, .store 2 (.tmp 85) (.tmp 83)⟩]⟩])
   (.seq (.reg [⟨(some 86), none, .mov (.tmp 13)⟩,
     ⟨(some 10), none, .mov (.tmp 86)⟩,
     ⟨(some 11), none, .mov (.con (.bool true))⟩])
   .ret))
   .skip))
  (.seq (.regd [⟨[⟨⟨(some 87), none, .mov (.tmp 0)⟩, true, false, false, 0, [], none⟩,
    ⟨⟨(some 88), none, .mov (.tmp 12)⟩, true, false, false, 0, [], none⟩,
    ⟨⟨(some 89), none, .mov (.tmp 0)⟩, true, false, false, 0, [], none⟩,
    ⟨⟨(some 90), none, .mov (.tmp 13)⟩, true, false, false, 0, [], none⟩,
    ⟨⟨(some 91), none, .mov (.tmp 0)⟩, true, false, false, 0, [], none⟩,
    ⟨⟨(some 92), none, .mov (.tmp 13)⟩, true, false, false, 0, [], none⟩,
    ⟨⟨(some 93), none, .iaddr 2 (.tmp 91) (.tmp 92)⟩, true, false, false, 0, [], none⟩,
    ⟨⟨(some 94), none, .load true 2 (.tmp 93)⟩, false, false, false, 0, [], none⟩,
    ⟨⟨(some 95), none, .mov (.tmp 0)⟩, true, false, false, 0, [], none⟩,
    ⟨⟨(some 96), none, .mov (.tmp 12)⟩, true, false, false, 0, [], none⟩,
    ⟨⟨(some 97), none, .iaddr 2 (.tmp 95) (.tmp 96)⟩, true, false, false, 0, [], none⟩,
    ⟨⟨(some 98), none, .load true 2 (.tmp 97)⟩, false, false, false, 0, [], none⟩,
    ⟨⟨(some 99), none, .iaddr 2 (.tmp 87) (.tmp 88)⟩, true, false, false, 0, [], none⟩,
    ⟨⟨none, none, .store 2 (.tmp 99) (.tmp 94)⟩, false, true, false, 0, [], none⟩], 0, [⟨(some 100), none, .iaddr 2 (.tmp 89) (.tmp 90)⟩,
    ⟨none, none, .store 2 (.tmp 100) (.tmp 98)⟩]⟩])
  (.seq (.reg [⟨(some 101), none, .mov (.tmp 12)⟩,
    ⟨(some 102), none, .bin .add (.tmp 101) (.con (.int .i64 1))⟩,
    ⟨(some 12), none, .mov (.tmp 102)⟩])
  (.seq (.reg [⟨(some 103), none, .mov (.tmp 13)⟩,
    ⟨(some 104), none, .bin .sub (.tmp 103) (.con (.int .i64 1))⟩,
    ⟨(some 13), none, .mov (.tmp 104)⟩])
  (.seq (.block 4 (.loop (.block 5 (.seq (.block 6 (.loop (.seq (.seq (.regd [⟨[⟨⟨(some 105), none, .mov (.tmp 12)⟩, true, false, false, 0, [], none⟩,
         ⟨⟨(some 106), none, .mov (.tmp 13)⟩, true, false, false, 0, [], none⟩], 0, [⟨(some 107), none, .bin .leq (.tmp 105) (.tmp 106)⟩,
         ⟨(some 108), none, .mov (.tmp 107)⟩]⟩,
        ⟨[⟨⟨(some 109), (some (108, true)), .mov (.tmp 4)⟩, true, false, false, 0, [], none⟩,
         ⟨⟨(some 110), (some (108, true)), .mov (.tmp 0)⟩, true, false, false, 0, [], none⟩,
         ⟨⟨(some 111), (some (108, true)), .mov (.tmp 12)⟩, true, false, false, 0, [], none⟩,
         ⟨⟨(some 112), (some (108, true)), .iaddr 2 (.tmp 110) (.tmp 111)⟩, true, false, false, 0, [], none⟩,
         ⟨⟨(some 113), (some (108, true)), .load true 2 (.tmp 112)⟩, false, false, false, 0, [], none⟩,
         ⟨⟨(some 114), (some (108, true)), .mov (.tmp 0)⟩, true, false, false, 0, [], none⟩,
         ⟨⟨(some 115), (some (108, true)), .mov (.tmp 1)⟩, true, false, false, 0, [], none⟩,
         ⟨⟨(some 116), (some (108, true)), .iaddr 2 (.tmp 114) (.tmp 115)⟩, true, false, false, 0, [], none⟩,
         ⟨⟨(some 117), (some (108, true)), .load true 2 (.tmp 116)⟩, false, false, false, 0, [], none⟩], 0, [⟨(some 118), (some (108, true)), .callv (.tmp 109) [(.tmp 113), (.tmp 117)]⟩,
         ⟨(some 119), (some (108, true)), .bin .lss (.tmp 118) (.con (.int .i64 0))⟩,
         ⟨(some 120), none, .pick (.tmp 108) (.tmp 119) (.con (.bool false))⟩]⟩])
       (.cond (.tmp 120)
        .skip
        (.exit 6)))
       (.block 7 (.reg [⟨(some 121), none, .mov (.tmp 12)⟩,
          ⟨(some 122), none, .bin .add (.tmp 121) (.con (.int .i64 1))⟩,
          ⟨(some 12), none, .mov (.tmp 122)⟩])))))
     (.seq (.block 8 (.loop (.seq (.seq (.regd [⟨[⟨⟨(some 123), none, .mov (.tmp 12)⟩, true, false, false, 0, [], none⟩,
         ⟨⟨(some 124), none, .mov (.tmp 13)⟩, true, false, false, 0, [], none⟩], 0, [⟨(some 125), none, .bin .leq (.tmp 123) (.tmp 124)⟩,
         ⟨(some 126), none, .mov (.tmp 125)⟩]⟩,
        ⟨[⟨⟨(some 127), (some (126, true)), .mov (.tmp 4)⟩, true, false, false, 0, [], none⟩,
         ⟨⟨(some 128), (some (126, true)), .mov (.tmp 0)⟩, true, false, false, 0, [], none⟩,
         ⟨⟨(some 129), (some (126, true)), .mov (.tmp 13)⟩, true, false, false, 0, [], none⟩,
         ⟨⟨(some 130), (some (126, true)), .iaddr 2 (.tmp 128) (.tmp 129)⟩, true, false, false, 0, [], none⟩,
         ⟨⟨(some 131), (some (126, true)), .load true 2 (.tmp 130)⟩, false, false, false, 0, [], none⟩,
         ⟨⟨(some 132), (some (126, true)), .mov (.tmp 0)⟩, true, false, false, 0, [], none⟩,
         ⟨⟨(some 133), (some (126, true)), .mov (.tmp 1)⟩, true, false, false, 0, [], none⟩,
         ⟨⟨(some 134), (some (126, true)), .iaddr 2 (.tmp 132) (.tmp 133)⟩, true, false, false, 0, [], none⟩,
         ⟨⟨(some 135), (some (126, true)), .load true 2 (.tmp 134)⟩, false, false, false, 0, [], none⟩], 0, [⟨(some 136), (some (126, true)), .callv (.tmp 127) [(.tmp 131), (.tmp 135)]⟩,
         ⟨(some 137), (some (126, true)), .bin .lss (.tmp 136) (.con (.int .i64 0))⟩,
         ⟨(some 138), (some (126, true)), .un .not (.tmp 137)⟩,
         ⟨(some 139), none, .pick (.tmp 126) (.tmp 138) (.con (.bool false))⟩]⟩])
       (.cond (.tmp 139)
        .skip
        (.exit 8)))
       (.block 9 (.reg [⟨(some 140), none, .mov (.tmp 13)⟩,
          ⟨(some 141), none, .bin .sub (.tmp 140) (.con (.int .i64 1))⟩,
          ⟨(some 13), none, .mov (.tmp 141)⟩])))))
     (.seq (.seq (.reg [⟨(some 142), none, .mov (.tmp 12)⟩,
       ⟨(some 143), none, .mov (.tmp 13)⟩,
       ⟨(some 144), none, .bin .gtr (.tmp 142) (.tmp 143)⟩])
     (.cond (.tmp 144)
      (.exit 4)
      .skip))
     (.seq (.regd [⟨[⟨⟨(some 145), none, .mov (.tmp 0)⟩, true, false, false, 0, [], none⟩,
       ⟨⟨(some 146), none, .mov (.tmp 12)⟩, true, false, false, 0, [], none⟩,
       ⟨⟨(some 147), none, .mov (.tmp 0)⟩, true, false, false, 0, [], none⟩,
       ⟨⟨(some 148), none, .mov (.tmp 13)⟩, true, false, false, 0, [], none⟩,
       ⟨⟨(some 149), none, .mov (.tmp 0)⟩, true, false, false, 0, [], none⟩,
       ⟨⟨(some 150), none, .mov (.tmp 13)⟩, true, false, false, 0, [], none⟩,
       ⟨⟨(some 151), none, .iaddr 2 (.tmp 149) (.tmp 150)⟩, true, false, false, 0, [], none⟩,
       ⟨⟨(some 152), none, .load true 2 (.tmp 151)⟩, false, false, false, 0, [], none⟩,
       ⟨⟨(some 153), none, .mov (.tmp 0)⟩, true, false, false, 0, [], none⟩,
       ⟨⟨(some 154), none, .mov (.tmp 12)⟩, true, false, false, 0, [], none⟩,
       ⟨⟨(some 155), none, .iaddr 2 (.tmp 153) (.tmp 154)⟩, true, false, false, 0, [], none⟩,
       ⟨⟨(some 156), none, .load true 2 (.tmp 155)⟩, false, false, false, 0, [], none⟩,
       ⟨⟨(some 157), none, .iaddr 2 (.tmp 145) (.tmp 146)⟩, true, false, false, 0, [], none⟩,
       ⟨⟨none, none, .store 2 (.tmp 157) (.tmp 152)⟩, false, true, false, 0, [], none⟩], 0, [⟨(some 158), none, .iaddr 2 (.tmp 147) (.tmp 148)⟩,
       ⟨none, none, .store 2 (.tmp 158) (.tmp 156)⟩]⟩])
     (.seq (.reg [⟨(some 159), none, .mov (.tmp 12)⟩,
       ⟨(some 160), none, .bin .add (.tmp 159) (.con (.int .i64 1))⟩,
       ⟨(some 12), none, .mov (.tmp 160)⟩])
     (.reg [⟨(some 161), none, .mov (.tmp 13)⟩,
       ⟨(some 162), none, .bin .sub (.tmp 161) (.con (.int .i64 1))⟩,
       ⟨(some 13), none, .mov (.tmp 162)⟩])))))))))
  (.seq (.regd [⟨[⟨⟨(some 163), none, .mov (.tmp 0)⟩, true, false, false, 0, [], none⟩,
    ⟨⟨(some 164), none, .mov (.tmp 13)⟩, true, false, false, 0, [], none⟩,
    ⟨⟨(some 165), none, .mov (.tmp 0)⟩, true, false, false, 0, [], none⟩,
    ⟨⟨(some 166), none, .mov (.tmp 1)⟩, true, false, false, 0, [], none⟩,
    ⟨⟨(some 167), none, .mov (.tmp 0)⟩, true, false, false, 0, [], none⟩,
    ⟨⟨(some 168), none, .mov (.tmp 1)⟩, true, false, false, 0, [], none⟩,
    ⟨⟨(some 169), none, .iaddr 2 (.tmp 167) (.tmp 168)⟩, true, false, false, 0, [], none⟩,
    ⟨⟨(some 170), none, .load true 2 (.tmp 169)⟩, false, false, false, 0, [], none⟩,
    ⟨⟨(some 171), none, .mov (.tmp 0)⟩, true, false, false, 0, [], none⟩,
    ⟨⟨(some 172), none, .mov (.tmp 13)⟩, true, false, false, 0, [], none⟩,
    ⟨⟨(some 173), none, .iaddr 2 (.tmp 171) (.tmp 172)⟩, true, false, false, 0, [], none⟩,
    ⟨⟨(some 174), none, .load true 2 (.tmp 173)⟩, false, false, false, 0, [], none⟩,
    ⟨⟨(some 175), none, .iaddr 2 (.tmp 163) (.tmp 164)⟩, true, false, false, 0, [], none⟩,
    ⟨⟨none, none, .store 2 (.tmp 175) (.tmp 170)⟩, false, true, false, 0, [], none⟩], 0, [⟨(some 176), none, .iaddr 2 (.tmp 165) (.tmp 166)⟩,
    ⟨none, none, .store 2 (.tmp 176) (.tmp 174)⟩]⟩])
  (.seq (.reg [⟨(some 177), none, .mov (.tmp 13)⟩,
    ⟨(some 10), none, .mov (.tmp 177)⟩,
    ⟨(some 11), none, .mov (.con (.bool false))⟩])
  .ret))))))))))))
def g82 : Fn := ⟨5, 178, [.tmp 10, .tmp 11], b82⟩
/- math/bits.Len32 -/
def b83 : AC :=
  (.seq (.reg [⟨(some 2), none, .mov (.con (.int .i64 0))⟩])
  (.seq (.seq (.reg [⟨(some 3), none, .mov (.tmp 0)⟩,
    ⟨(some 4), none, .bin .geq (.tmp 3) (.con (.int .u32 65536))⟩])
  (.cond (.tmp 4)
   (.seq (.reg [⟨(some 5), none, .mov (.tmp 0)⟩,
     ⟨(some 6), none, .bin .shr (.tmp 5) (.con (.int .u64 16))⟩,
     ⟨(some 0), none, .mov (.tmp 6)⟩])
   (.reg [⟨(some 2), none, .mov (.con (.int .i64 16))⟩]))
   .skip))
  (.seq (.seq (.reg [⟨(some 7), none, .mov (.tmp 0)⟩,
    ⟨(some 8), none, .bin .geq (.tmp 7) (.con (.int .u32 256))⟩])
  (.cond (.tmp 8)
   (.seq (.reg [⟨(some 9), none, .mov (.tmp 0)⟩,
     ⟨(some 10), none, .bin .shr (.tmp 9) (.con (.int .u64 8))⟩,
     ⟨(some 0), none, .mov (.tmp 10)⟩])
   (.reg [⟨(some 11), none, .mov (.tmp 2)⟩,
     ⟨(some 12), none, .bin .add (.tmp 11) (.con (.int .i64 8))⟩,
     ⟨(some 2), none, .mov (.tmp 12)⟩]))
   .skip))
  (.seq (.reg [⟨(some 13), none, .mov (.tmp 2)⟩,
    ⟨(some 14), none, .mov (.tmp 0)⟩,
    ⟨(some 15), none, .conv .u8 (.tmp 14)⟩,
    ⟨(some 16), none, .idxS (.con (.str ⟨#[0, 1, 2, 2, 3, 3, 3, 3, 4, 4, 4, 4, 4, 4, 4, 4, 5, 5, 5, 5, 5, 5, 5, 5, 5, 5, 5, 5, 5, 5, 5, 5, 6, 6, 6, 6, 6, 6, 6, 6, 6, 6, 6, 6, 6, 6, 6, 6, 6, 6, 6, 6, 6, 6, 6, 6, 6, 6, 6, 6, 6, 6, 6, 6, 7, 7, 7, 7, 7, 7, 7, 7, 7, 7, 7, 7, 7, 7, 7, 7, 7, 7, 7, 7, 7, 7, 7, 7, 7, 7, 7, 7, 7, 7, 7, 7, 7, 7, 7, 7, 7, 7, 7, 7, 7, 7, 7, 7, 7, 7, 7, 7, 7, 7, 7, 7, 7, 7, 7, 7, 7, 7, 7, 7, 7, 7, 7, 7, 8, 8, 8, 8, 8, 8, 8, 8, 8, 8, 8, 8, 8, 8, 8, 8, 8, 8, 8, 8, 8, 8, 8, 8, 8, 8, 8, 8, 8, 8, 8, 8, 8, 8, 8, 8, 8, 8, 8, 8, 8, 8, 8, 8, 8, 8, 8, 8, 8, 8, 8, 8, 8, 8, 8, 8, 8, 8, 8, 8, 8, 8, 8, 8, 8, 8, 8, 8, 8, 8, 8, 8, 8, 8, 8, 8, 8, 8, 8, 8, 8, 8, 8, 8, 8, 8, 8, 8, 8, 8, 8, 8, 8, 8, 8, 8, 8, 8, 8, 8, 8, 8, 8, 8, 8, 8, 8, 8, 8, 8, 8, 8, 8, 8, 8, 8, 8, 8, 8, 8, 8, 8, 8, 8, 8, 8, 8, 8]⟩)) (.tmp 15)⟩,
    ⟨(some 17), none, .conv .i64 (.tmp 16)⟩,
    ⟨(some 18), none, .bin .add (.tmp 13) (.tmp 17)⟩,
    ⟨(some 2), none, .mov (.tmp 18)⟩])
  .ret))))
def g83 : Fn := ⟨1, 19, [.tmp 2], b83⟩
/- math/bits.Len64 -/
def b84 : AC :=
  (.seq (.reg [⟨(some 2), none, .mov (.con (.int .i64 0))⟩])
  (.seq (.seq (.reg [⟨(some 3), none, .mov (.tmp 0)⟩,
    ⟨(some 4), none, .bin .geq (.tmp 3) (.con (.int .u64 4294967296))⟩])
  (.cond (.tmp 4)
   (.seq (.reg [⟨(some 5), none, .mov (.tmp 0)⟩,
     ⟨(some 6), none, .bin .shr (.tmp 5) (.con (.int .u64 32))⟩,
     ⟨(some 0), none, .mov (.tmp 6)⟩])
   (.reg [⟨(some 2), none, .mov (.con (.int .i64 32))⟩]))
   .skip))
  (.seq (.seq (.reg [⟨(some 7), none, .mov (.tmp 0)⟩,
    ⟨(some 8), none, .bin .geq (.tmp 7) (.con (.int .u64 65536))⟩])
  (.cond (.tmp 8)
   (.seq (.reg [⟨(some 9), none, .mov (.tmp 0)⟩,
     ⟨(some 10), none, .bin .shr (.tmp 9) (.con (.int .u64 16))⟩,
     ⟨(some 0), none, .mov (.tmp 10)⟩])
   (.reg [⟨(some 11), none, .mov (.tmp 2)⟩,
     ⟨(some 12), none, .bin .add (.tmp 11) (.con (.int .i64 16))⟩,
     ⟨(some 2), none, .mov (.tmp 12)⟩]))
   .skip))
  (.seq (.seq (.reg [⟨(some 13), none, .mov (.tmp 0)⟩,
    ⟨(some 14), none, .bin .geq (.tmp 13) (.con (.int .u64 256))⟩])
  (.cond (.tmp 14)
   (.seq (.reg [⟨(some 15), none, .mov (.tmp 0)⟩,
     ⟨(some 16), none, .bin .shr (.tmp 15) (.con (.int .u64 8))⟩,
     ⟨(some 0), none, .mov (.tmp 16)⟩])
   (.reg [⟨(some 17), none, .mov (.tmp 2)⟩,
     ⟨(some 18), none, .bin .add (.tmp 17) (.con (.int .i64 8))⟩,
     ⟨(some 2), none, .mov (.tmp 18)⟩]))
   .skip))
  (.seq (.reg [⟨(some 19), none, .mov (.tmp 2)⟩,
    ⟨(some 20), none, .mov (.tmp 0)⟩,
    ⟨(some 21), none, .conv .u8 (.tmp 20)⟩,
    ⟨(some 22), none, .idxS (.con (.str ⟨#[0, 1, 2, 2, 3, 3, 3, 3, 4, 4, 4, 4, 4, 4, 4, 4, 5, 5, 5, 5, 5, 5, 5, 5, 5, 5, 5, 5, 5, 5, 5, 5, 6, 6, 6, 6, 6, 6, 6, 6, 6, 6, 6, 6, 6, 6, 6, 6, 6, 6, 6, 6, 6, 6, 6, 6, 6, 6, 6, 6, 6, 6, 6, 6, 7, 7, 7, 7, 7, 7, 7, 7, 7, 7, 7, 7, 7, 7, 7, 7, 7, 7, 7, 7, 7, 7, 7, 7, 7, 7, 7, 7, 7, 7, 7, 7, 7, 7, 7, 7, 7, 7, 7, 7, 7, 7, 7, 7, 7, 7, 7, 7, 7, 7, 7, 7, 7, 7, 7, 7, 7, 7, 7, 7, 7, 7, 7, 7, 8, 8, 8, 8, 8, 8, 8, 8, 8, 8, 8, 8, 8, 8, 8, 8, 8, 8, 8, 8, 8, 8, 8, 8, 8, 8, 8, 8, 8, 8, 8, 8, 8, 8, 8, 8, 8, 8, 8, 8, 8, 8, 8, 8, 8, 8, 8, 8, 8, 8, 8, 8, 8, 8, 8, 8, 8, 8, 8, 8, 8, 8, 8, 8, 8, 8, 8, 8, 8, 8, 8, 8, 8, 8, 8, 8, 8, 8, 8, 8, 8, 8, 8, 8, 8, 8, 8, 8, 8, 8, 8, 8, 8, 8, 8, 8, 8, 8, 8, 8, 8, 8, 8, 8, 8, 8, 8, 8, 8, 8, 8, 8, 8, 8, 8, 8, 8, 8, 8, 8, 8, 8, 8, 8, 8, 8, 8, 8]⟩)) (.tmp 21)⟩,
    ⟨(some 23), none, .conv .i64 (.tmp 22)⟩,
    ⟨(some 24), none, .bin .add (.tmp 19) (.tmp 23)⟩,
    ⟨(some 2), none, .mov (.tmp 24)⟩])
  .ret)))))
def g84 : Fn := ⟨1, 25, [.tmp 2], b84⟩
/- quiver/topk.first -/
def b85 : AC :=
  (.seq (.reg [⟨(some 2), none, .box (.tmp 0)⟩,
    ⟨(some 4), none, .mov (.con .nilS)⟩])
  (.seq (.reg [⟨(some 9), none, .build [.nilS] []⟩,
    ⟨(some 10), none, .box (.tmp 9)⟩,
    ⟨(some 5), none, .alloc .nilP⟩,
    ⟨none, none, .store 1 (.tmp 5) (.tmp 10)⟩])
  (.seq (.reg [⟨(some 11), none, .mkfn 96 [(.tmp 5), (.tmp 2)]⟩,
    ⟨(some 6), none, .alloc .nilF⟩,
    ⟨none, none, .store 1 (.tmp 6) (.tmp 11)⟩])
  (.seq (.seq (.reg [⟨(some 12), none, .mov (.tmp 1)⟩,
    ⟨(some 13), none, .call 98 [(.tmp 12)]⟩])
  (.block 0 (.rangeF (.tmp 13) [14]
    (.reg [⟨(some 7), none, .alloc (.agg [(.int .u64 0), (.int .u64 0)])⟩,
      ⟨none, none, .store 2 (.tmp 7) (.tmp 14)⟩])
    (.block 1 (.seq (.seq (.reg [⟨(some 15), none, .load false 1 (.tmp 6)⟩,
       ⟨(some 16), none, .load true 2 (.tmp 7)⟩,
       ⟨(some 17), none, .callv (.tmp 15) [(.tmp 16)]⟩,
       ⟨(some 18), none, .un .not (.tmp 17)⟩])
     (.cond (.tmp 18)
      (.exit 1)
      .skip))
     (.seq (.reg [⟨(some 19), none, .load false 1 (.tmp 5)⟩,
       ⟨(some 20), none, .mkif 140 (.tmp 19)⟩,
       ⟨(some 21), none, .load true 2 (.tmp 7)⟩,
       ⟨(some 22), none, .mkif 47 (.tmp 21)⟩,
       ⟨(some 23), none, .call 99 [(.tmp 20), (.tmp 22)]⟩])
     (.seq (.regd [⟨[⟨⟨(some 24), none, .load false 1 (.tmp 5)⟩, false, false, false, 0, [], none⟩,
       ⟨⟨(some 25), none, .nilck (.tmp 24)⟩, true, false, false, 0, [], none⟩,
       ⟨⟨(some 26), none, .faddr (.tmp 25) 0⟩, true, false, false, 0, [], none⟩,
       ⟨⟨(some 27), none, .load false 1 (.tmp 26)⟩, false, false, false, 0, [], none⟩,
       ⟨⟨(some 28), none, .call 97 [(.tmp 27)]⟩, false, false, false, 0, [], none⟩,
       ⟨⟨(some 29), none, .load false 1 (.tmp 2)⟩, false, false, false, 0, [], none⟩], 0, [⟨(some 30), none, .bin .gtr (.tmp 28) (.tmp 29)⟩]⟩])
     (.cond (.tmp 30)
      (.reg [⟨(some 31), none, .load false 1 (.tmp 5)⟩,
        ⟨(some 32), none, .mkif 140 (.tmp 31)⟩,
        ⟨(some 33), none, .call 100 [(.tmp 32)]⟩])
      .skip))))))))
  (.seq (.reg [⟨(some 34), none, .load false 1 (.tmp 5)⟩,
    ⟨(some 35), none, .nilck (.tmp 34)⟩,
    ⟨(some 36), none, .faddr (.tmp 35) 0⟩,
    ⟨(some 37), none, .load false 1 (.tmp 36)⟩,
    ⟨(some 38), none, .call 101 [(.tmp 37)]⟩,
    ⟨(some 8), none, .mov (.tmp 38)⟩])
  (.seq (.reg [⟨(some 39), none, .mov (.tmp 8)⟩,
    ⟨(some 40), none, .call 46 [(.tmp 39), (.con (.fn 16 []))]⟩])
  (.seq (.reg [⟨(some 41), none, .mov (.tmp 8)⟩,
    ⟨(some 4), none, .mov (.tmp 41)⟩])
  .ret)))))))
def g85 : Fn := ⟨2, 42, [.tmp 4], b85⟩
/- quiver/mask.below -/
def b86 : AC :=
  (.seq (.reg [⟨(some 2), none, .alloc (.agg [(.int .u64 0), (.int .u64 0)])⟩])
  (.seq (.reg [⟨(some 3), none, .alloc (.agg [(.int .u64 0), (.int .u64 0)])⟩])
  (.seq (.seq (.reg [⟨(some 6), none, .mov (.con (.int .i64 0))⟩])
  (.block 0 (.loop (.seq (.reg [⟨(some 7), none, .bin .lss (.tmp 6) (.con (.int .i64 2))⟩])
    (.seq (.cond (.tmp 7)
     .skip
     (.exit 0))
    (.seq (.block 1 (.seq (.reg [⟨(some 8), none, .mov (.tmp 6)⟩,
       ⟨(some 4), none, .mov (.tmp 8)⟩])
     (.seq (.reg [⟨(some 9), none, .mov (.tmp 0)⟩,
       ⟨(some 10), none, .mov (.tmp 4)⟩,
       ⟨(some 11), none, .bin .mul (.con (.int .i64 64)) (.tmp 10)⟩,
       ⟨(some 12), none, .bin .sub (.tmp 9) (.tmp 11)⟩,
       ⟨(some 5), none, .mov (.tmp 12)⟩])
     (.seq (.reg [⟨(some 13), none, .mov (.tmp 5)⟩,
       ⟨(some 14), none, .bin .geq (.tmp 13) (.con (.int .i64 64))⟩])
     (.cond (.tmp 14)
      (.reg [⟨(some 15), none, .mov (.tmp 4)⟩,
        ⟨(some 16), none, .iaddrA 2 1 (.tmp 3) (.tmp 15)⟩,
        ⟨none, none, .store 1 (.tmp 16) (.con (.int .u64 18446744073709551615))⟩])
      (.seq (.reg [⟨(some 17), none, .mov (.tmp 5)⟩,
        ⟨(some 18), none, .bin .gtr (.tmp 17) (.con (.int .i64 0))⟩])
      (.cond (.tmp 18)
       (.reg [⟨(some 19), none, .mov (.tmp 4)⟩,
         ⟨(some 20), none, .mov (.tmp 5)⟩,
         ⟨(some 21), none, .bin .shl (.con (.int .u64 1)) (.tmp 20)⟩,
         ⟨(some 22), none, .bin .sub (.tmp 21) (.con (.int .u64 1))⟩,
         ⟨(some 23), none, .iaddrA 2 1 (.tmp 3) (.tmp 19)⟩,
         ⟨none, none, .store 1 (.tmp 23) (.tmp 22)⟩])
       .skip)))))))
    (.reg [⟨(some 24), none, .bin .add (.tmp 6) (.con (.int .i64 1))⟩,
      ⟨(some 6), none, .mov (.tmp 24)⟩])))))))
  (.seq (.reg [⟨(some 25), none, .load true 2 (.tmp 3)⟩,
    ⟨none, none, .store 2 (.tmp 2) (.tmp 25)⟩])
  .ret))))
def g86 : Fn := ⟨1, 26, [.cell 2 true 2], b86⟩
/- quiver/mask.each -/
def b87 : AC :=
  (.seq (.reg [⟨(some 3), none, .box (.tmp 0)⟩,
    ⟨(some 4), none, .box (.tmp 1)⟩,
    ⟨(some 6), none, .alloc (.agg [(.int .u64 0), (.int .u64 0)])⟩])
  (.seq (.seq (.reg [⟨(some 8), none, .mov (.con (.int .i64 0))⟩])
  (.block 0 (.loop (.seq (.reg [⟨(some 9), none, .bin .lss (.tmp 8) (.con (.int .i64 2))⟩])
    (.seq (.cond (.tmp 9)
     .skip
     (.exit 0))
    (.seq (.block 1 (.seq (.reg [⟨(some 10), none, .mov (.tmp 8)⟩,
       ⟨(some 7), none, .mov (.tmp 10)⟩])
     (.regd [⟨[⟨⟨(some 11), none, .mov (.tmp 7)⟩, true, false, false, 0, [], none⟩,
       ⟨⟨(some 12), none, .mov (.tmp 2)⟩, true, false, false, 0, [], none⟩,
       ⟨⟨(some 13), none, .mov (.tmp 7)⟩, true, false, false, 0, [], none⟩,
       ⟨⟨(some 14), none, .iaddrA 2 1 (.tmp 3) (.tmp 13)⟩, true, false, false, 0, [], none⟩,
       ⟨⟨(some 15), none, .load false 1 (.tmp 14)⟩, false, false, false, 0, [], none⟩,
       ⟨⟨(some 16), none, .mov (.tmp 7)⟩, true, false, false, 0, [], none⟩,
       ⟨⟨(some 17), none, .iaddrA 2 1 (.tmp 4) (.tmp 16)⟩, true, false, false, 0, [], none⟩,
       ⟨⟨(some 18), none, .load false 1 (.tmp 17)⟩, false, false, false, 0, [], none⟩,
       ⟨⟨(some 19), none, .callv (.tmp 12) [(.tmp 15), (.tmp 18)]⟩, false, false, false, 0, [], none⟩], 0, [⟨(some 20), none, .iaddrA 2 1 (.tmp 3) (.tmp 11)⟩,
       ⟨none, none, .store 1 (.tmp 20) (.tmp 19)⟩]⟩])))
    (.reg [⟨(some 21), none, .bin .add (.tmp 8) (.con (.int .i64 1))⟩,
      ⟨(some 8), none, .mov (.tmp 21)⟩])))))))
  (.seq (.reg [⟨(some 22), none, .load true 2 (.tmp 3)⟩,
    ⟨none, none, .store 2 (.tmp 6) (.tmp 22)⟩])
  .ret)))
def g87 : Fn := ⟨3, 23, [.cell 6 true 2], b87⟩
/- quiver/mask.and$1 -/
def b88 : AC :=
  (.seq (.reg [⟨(some 4), none, .mov (.con (.int .u64 0))⟩])
  (.seq (.reg [⟨(some 5), none, .mov (.tmp 0)⟩,
    ⟨(some 6), none, .mov (.tmp 1)⟩,
    ⟨(some 7), none, .bin .and (.tmp 5) (.tmp 6)⟩,
    ⟨(some 4), none, .mov (.tmp 7)⟩])
  .ret))
def g88 : Fn := ⟨2, 8, [.tmp 4], b88⟩
/- quiver/mask.or$1 -/
def b89 : AC :=
  (.seq (.reg [⟨(some 4), none, .mov (.con (.int .u64 0))⟩])
  (.seq (.reg [⟨(some 5), none, .mov (.tmp 0)⟩,
    ⟨(some 6), none, .mov (.tmp 1)⟩,
    ⟨(some 7), none, .bin .or (.tmp 5) (.tmp 6)⟩,
    ⟨(some 4), none, .mov (.tmp 7)⟩])
  .ret))
def g89 : Fn := ⟨2, 8, [.tmp 4], b89⟩
/- quiver/mask.minus$1 -/
def b90 : AC :=
  (.seq (.reg [⟨(some 4), none, .mov (.con (.int .u64 0))⟩])
  (.seq (.reg [⟨(some 5), none, .mov (.tmp 0)⟩,
    ⟨(some 6), none, .mov (.tmp 1)⟩,
    ⟨(some 7), none, .bin .andNot (.tmp 5) (.tmp 6)⟩,
    ⟨(some 4), none, .mov (.tmp 7)⟩])
  .ret))
def g90 : Fn := ⟨2, 8, [.tmp 4], b90⟩
/- slices.siftDownCmpFunc[quiver/api.Hit] -/
def b91 : AC :=
  (.seq (.reg [⟨(some 12), none, .mov (.tmp 1)⟩,
    ⟨(some 10), none, .mov (.tmp 12)⟩])
  (.block 0 (.loop (.block 1 (.seq (.reg [⟨(some 13), none, .mov (.tmp 10)⟩,
       ⟨(some 14), none, .bin .mul (.con (.int .i64 2)) (.tmp 13)⟩,
       ⟨(some 15), none, .bin .add (.tmp 14) (.con (.int .i64 1))⟩,
       ⟨(some 11), none, .mov (.tmp 15)⟩])
     (.seq (.seq (.reg [⟨(some 16), none, .mov (.tmp 11)⟩,
       ⟨(some 17), none, .mov (.tmp 2)⟩,
       ⟨(some 18), none, .bin .geq (.tmp 16) (.tmp 17)⟩])
     (.cond (.tmp 18)
      (.exit 0)
      .skip))
     (.seq (.seq (.regd [⟨[⟨⟨(some 19), none, .mov (.tmp 11)⟩, true, false, false, 0, [], none⟩,
       ⟨⟨(some 20), none, .bin .add (.tmp 19) (.con (.int .i64 1))⟩, true, false, false, 0, [], none⟩,
       ⟨⟨(some 21), none, .mov (.tmp 2)⟩, true, false, false, 0, [], none⟩], 0, [⟨(some 22), none, .bin .lss (.tmp 20) (.tmp 21)⟩,
       ⟨(some 23), none, .mov (.tmp 22)⟩]⟩,
      ⟨[⟨⟨(some 24), (some (23, true)), .mov (.tmp 4)⟩, true, false, false, 0, [], none⟩,
       ⟨⟨(some 25), (some (23, true)), .mov (.tmp 0)⟩, true, false, false, 0, [], none⟩,
       ⟨⟨(some 26), (some (23, true)), .mov (.tmp 3)⟩, true, false, false, 0, [], none⟩,
       ⟨⟨(some 27), (some (23, true)), .mov (.tmp 11)⟩, true, false, false, 0, [], none⟩,
       ⟨⟨(some 28), (some (23, true)), .bin .add (.tmp 26) (.tmp 27)⟩, true, false, false, 0, [], none⟩,
       ⟨⟨(some 29), (some (23, true)), .iaddr 2 (.tmp 25) (.tmp 28)⟩, true, false, false, 0, [], none⟩,
       ⟨⟨(some 30), (some (23, true)), .load true 2 (.tmp 29)⟩, false, false, false, 0, [], none⟩,
       ⟨⟨(some 31), (some (23, true)), .mov (.tmp 0)⟩, true, false, false, 0, [], none⟩,
       ⟨⟨(some 32), (some (23, true)), .mov (.tmp 3)⟩, true, false, false, 0, [], none⟩,
       ⟨⟨(some 33), (some (23, true)), .mov (.tmp 11)⟩, true, false, false, 0, [], none⟩,
       ⟨⟨(some 34), (some (23, true)), .bin .add (.tmp 32) (.tmp 33)⟩, true, false, false, 0, [], none⟩,
       ⟨⟨(some 35), (some (23, true)), .bin .add (.tmp 34) (.con (.int .i64 1))⟩, true, false, false, 0, [], none⟩,
       ⟨⟨(some 36), (some (23, true)), .iaddr 2 (.tmp 31) (.tmp 35)⟩, true, false, false, 0, [], none⟩,
       ⟨⟨(some 37), (some (23, true)), .load true 2 (.tmp 36)⟩, false, false, false, 0, [], none⟩], 0, [⟨(some 38), (some (23, true)), .callv (.tmp 24) [(.tmp 30), (.tmp 37)]⟩,
       ⟨(some 39), (some (23, true)), .bin .lss (.tmp 38) (.con (.int .i64 0))⟩,
       ⟨(some 40), none, .pick (.tmp 23) (.tmp 39) (.con (.bool false))⟩]⟩])
     (.cond (.tmp 40)
      (.reg [⟨(some 41), none, .mov (.tmp 11)⟩,
        ⟨(some 42), none, .bin .add (.tmp 41) (.con (.int .i64 1))⟩,
        ⟨(some 11), none, .mov (.tmp 42)⟩])
      .skip))
     (.seq (.seq (.regd [⟨[⟨⟨(some 43), none, .mov (.tmp 4)⟩, true, false, false, 0, [], none⟩,
       ⟨⟨(some 44), none, .mov (.tmp 0)⟩, true, false, false, 0, [], none⟩,
       ⟨⟨(some 45), none, .mov (.tmp 3)⟩, true, false, false, 0, [], none⟩,
       ⟨⟨(some 46), none, .mov (.tmp 10)⟩, true, false, false, 0, [], none⟩,
       ⟨⟨(some 47), none, .bin .add (.tmp 45) (.tmp 46)⟩, true, false, false, 0, [], none⟩,
       ⟨⟨(some 48), none, .iaddr 2 (.tmp 44) (.tmp 47)⟩, true, false, false, 0, [], none⟩,
       ⟨⟨(some 49), none, .load true 2 (.tmp 48)⟩, false, false, false, 0, [], none⟩,
       ⟨⟨(some 50), none, .mov (.tmp 0)⟩, true, false, false, 0, [], none⟩,
       ⟨⟨(some 51), none, .mov (.tmp 3)⟩, true, false, false, 0, [], none⟩,
       ⟨⟨(some 52), none, .mov (.tmp 11)⟩, true, false, false, 0, [], none⟩,
       ⟨⟨(some 53), none, .bin .add (.tmp 51) (.tmp 52)⟩, true, false, false, 0, [], none⟩,
       ⟨⟨(some 54), none, .iaddr 2 (.tmp 50) (.tmp 53)⟩, true, false, false, 0, [], none⟩,
       ⟨⟨(some 55), none, .load true 2 (.tmp 54)⟩, false, false, false, 0, [], none⟩], 0, [⟨(some 56), none, .callv (.tmp 43) [(.tmp 49), (.tmp 55)]⟩,
       ⟨(some 57), none, .bin .lss (.tmp 56) (.con (.int .i64 0))⟩,
       ⟨(some 58), none, .un .not (.tmp 57)⟩]⟩])
     (.cond (.tmp 58)
      .ret
      .skip))
     (.seq (.regd [⟨[⟨⟨(some 59), none, .mov (.tmp 0)⟩, true, false, false, 0, [], none⟩,
       ⟨⟨(some 60), none, .mov (.tmp 3)⟩, true, false, false, 0, [], none⟩,
       ⟨⟨(some 61), none, .mov (.tmp 10)⟩, true, false, false, 0, [], none⟩,
       ⟨⟨(some 62), none, .bin .add (.tmp 60) (.tmp 61)⟩, true, false, false, 0, [], none⟩,
       ⟨⟨(some 63), none, .mov (.tmp 0)⟩, true, false, false, 0, [], none⟩,
       ⟨⟨(some 64), none, .mov (.tmp 3)⟩, true, false, false, 0, [], none⟩,
       ⟨⟨(some 65), none, .mov (.tmp 11)⟩, true, false, false, 0, [], none⟩,
       ⟨⟨(some 66), none, .bin .add (.tmp 64) (.tmp 65)⟩, true, false, false, 0, [], none⟩,
       ⟨⟨(some 67), none, .mov (.tmp 0)⟩, true, false, false, 0, [], none⟩,
       ⟨⟨(some 68), none, .mov (.tmp 3)⟩, true, false, false, 0, [], none⟩,
       ⟨⟨(some 69), none, .mov (.tmp 11)⟩, true, false, false, 0, [], none⟩,
       ⟨⟨(some 70), none, .bin .add (.tmp 68) (.tmp 69)⟩, true, false, false, 0, [], none⟩,
       ⟨⟨(some 71), none, .iaddr 2 (.tmp 67) (.tmp 70)⟩, true, false, false, 0, [], none⟩,
       ⟨⟨(some 72), none, .load true 2 (.tmp 71)⟩, false, false, false, 0, [], none⟩,
       ⟨⟨(some 73), none, .mov (.tmp 0)⟩, true, false, false, 0, [], none⟩,
       ⟨⟨(some 74), none, .mov (.tmp 3)⟩, true, false, false, 0, [], none⟩,
       ⟨⟨(some 75), none, .mov (.tmp 10)⟩, true, false, false, 0, [], none⟩,
       ⟨⟨(some 76), none, .bin .add (.tmp 74) (.tmp 75)⟩, true, false, false, 0, [], none⟩,
       ⟨⟨(some 77), none, .iaddr 2 (.tmp 73) (.tmp 76)⟩, true, false, false, 0, [], none⟩,
       ⟨⟨(some 78), none, .load true 2 (.tmp 77)⟩, false, false, false, 0, [], none⟩,
       ⟨⟨(some 79), none, .iaddr 2 (.tmp 59) (.tmp 62)⟩, true, false, false, 0, [], none⟩,
       ⟨⟨none, none, .store 2 (.tmp 79) (.tmp 72)⟩, false, true, false, 0, [], none⟩], 0, [⟨(some 80), none, .iaddr 2 (.tmp 63) (.tmp 66)⟩,
       ⟨none, none, .store 2 (.tmp 80) (.tmp 78)⟩]⟩])
     (.reg [⟨(some 81), none, .mov (.tmp 11)⟩,
       ⟨(some 10), none, .mov (.tmp 81)⟩]))))))))))
def g91 : Fn := ⟨5, 82, [], b91⟩
/- slices.nextPowerOfTwo -/
def b92 : AC :=
  (.seq (.reg [⟨(some 2), none, .mov (.con (.int .u64 0))⟩])
  (.seq (.reg [⟨(some 3), none, .mov (.tmp 0)⟩,
    ⟨(some 4), none, .conv .u64 (.tmp 3)⟩,
    ⟨(some 5), none, .call 63 [(.tmp 4)]⟩,
    ⟨(some 6), none, .bin .shl (.con (.int .u64 1)) (.tmp 5)⟩,
    ⟨(some 2), none, .mov (.tmp 6)⟩])
  .ret))
def g92 : Fn := ⟨1, 7, [.tmp 2], b92⟩
/- (*slices.xorshift).Next -/
def b93 : AC :=
  (.seq (.reg [⟨(some 2), none, .mov (.con (.int .u64 0))⟩])
  (.seq (.regd [⟨[⟨⟨(some 3), none, .mov (.tmp 0)⟩, true, false, false, 0, [], none⟩,
    ⟨⟨(some 4), none, .nilck (.tmp 3)⟩, true, false, false, 0, [], none⟩,
    ⟨⟨(some 5), none, .load false 1 (.tmp 4)⟩, false, false, false, 0, [], none⟩,
    ⟨⟨(some 6), none, .mov (.tmp 0)⟩, true, false, false, 0, [], none⟩,
    ⟨⟨(some 7), none, .nilck (.tmp 6)⟩, true, false, false, 0, [], none⟩,
    ⟨⟨(some 8), none, .load false 1 (.tmp 7)⟩, false, false, false, 0, [], none⟩,
    ⟨⟨(some 9), none, .bin .shl (.tmp 8) (.con (.int .u64 13))⟩, true, false, false, 0, [], none⟩], 0, [⟨(some 10), none, .bin .xor (.tmp 5) (.tmp 9)⟩,
    ⟨(some 11), none, .nilck (.tmp 3)⟩,
    ⟨none, none, .store 1 (.tmp 11) (.tmp 10)⟩]⟩])
  (.seq (.regd [⟨[⟨⟨(some 12), none, .mov (.tmp 0)⟩, true, false, false, 0, [], none⟩,
    ⟨⟨(some 13), none, .nilck (.tmp 12)⟩, true, false, false, 0, [], none⟩,
    ⟨⟨(some 14), none, .load false 1 (.tmp 13)⟩, false, false, false, 0, [], none⟩,
    ⟨⟨(some 15), none, .mov (.tmp 0)⟩, true, false, false, 0, [], none⟩,
    ⟨⟨(some 16), none, .nilck (.tmp 15)⟩, true, false, false, 0, [], none⟩,
    ⟨⟨(some 17), none, .load false 1 (.tmp 16)⟩, false, false, false, 0, [], none⟩,
    ⟨⟨(some 18), none, .bin .shr (.tmp 17) (.con (.int .u64 7))⟩, true, false, false, 0, [], none⟩], 0, [⟨(some 19), none, .bin .xor (.tmp 14) (.tmp 18)⟩,
    ⟨(some 20), none, .nilck (.tmp 12)⟩,
    ⟨none, none, .store 1 (.tmp 20) (.tmp 19)⟩]⟩])
  (.seq (.regd [⟨[⟨⟨(some 21), none, .mov (.tmp 0)⟩, true, false, false, 0, [], none⟩,
    ⟨⟨(some 22), none, .nilck (.tmp 21)⟩, true, false, false, 0, [], none⟩,
    ⟨⟨(some 23), none, .load false 1 (.tmp 22)⟩, false, false, false, 0, [], none⟩,
    ⟨⟨(some 24), none, .mov (.tmp 0)⟩, true, false, false, 0, [], none⟩,
    ⟨⟨(some 25), none, .nilck (.tmp 24)⟩, true, false, false, 0, [], none⟩,
    ⟨⟨(some 26), none, .load false 1 (.tmp 25)⟩, false, false, false, 0, [], none⟩,
    ⟨⟨(some 27), none, .bin .shl (.tmp 26) (.con (.int .u64 17))⟩, true, false, false, 0, [], none⟩], 0, [⟨(some 28), none, .bin .xor (.tmp 23) (.tmp 27)⟩,
    ⟨(some 29), none, .nilck (.tmp 21)⟩,
    ⟨none, none, .store 1 (.tmp 29) (.tmp 28)⟩]⟩])
  (.seq (.reg [⟨(some 30), none, .mov (.tmp 0)⟩,
    ⟨(some 31), none, .nilck (.tmp 30)⟩,
    ⟨(some 32), none, .load false 1 (.tmp 31)⟩,
    ⟨(some 2), none, .mov (.tmp 32)⟩])
  .ret)))))
def g93 : Fn := ⟨1, 33, [.tmp 2], b93⟩
/- slices.medianAdjacentCmpFunc[quiver/api.Hit] -/
def b94 : AC :=
  (.seq (.reg [⟨(some 8), none, .mov (.con (.int .i64 0))⟩])
  (.seq (.reg [⟨(some 9), none, .mov (.tmp 0)⟩,
    ⟨(some 10), none, .mov (.tmp 1)⟩,
    ⟨(some 11), none, .bin .sub (.tmp 10) (.con (.int .i64 1))⟩,
    ⟨(some 12), none, .mov (.tmp 1)⟩,
    ⟨(some 13), none, .mov (.tmp 1)⟩,
    ⟨(some 14), none, .bin .add (.tmp 13) (.con (.int .i64 1))⟩,
    ⟨(some 15), none, .mov (.tmp 2)⟩,
    ⟨(some 16), none, .mov (.tmp 3)⟩,
    ⟨(some 17), none, .call 95 [(.tmp 9), (.tmp 11), (.tmp 12), (.tmp 14), (.tmp 15), (.tmp 16)]⟩,
    ⟨(some 8), none, .mov (.tmp 17)⟩])
  .ret))
def g94 : Fn := ⟨4, 18, [.tmp 8], b94⟩
/- slices.medianCmpFunc[quiver/api.Hit] -/
def b95 : AC :=
  (.seq (.reg [⟨(some 12), none, .mov (.con (.int .i64 0))⟩])
  (.seq (.reg [⟨(some 14), none, .mov (.tmp 0)⟩,
    ⟨(some 15), none, .mov (.tmp 1)⟩,
    ⟨(some 16), none, .mov (.tmp 2)⟩,
    ⟨(some 17), none, .mov (.tmp 4)⟩,
    ⟨(some 18), none, .mov (.tmp 5)⟩,
    ⟨(some 19), none, .call 102 [(.tmp 14), (.tmp 15), (.tmp 16), (.tmp 17), (.tmp 18)]⟩,
    ⟨(some 13), none, .mov (.tmp 19)⟩,
    ⟨(some 20), none, .ext (.tmp 13) 0⟩,
    ⟨(some 21), none, .ext (.tmp 13) 1⟩,
    ⟨(some 1), none, .mov (.tmp 20)⟩,
    ⟨(some 2), none, .mov (.tmp 21)⟩])
  (.seq (.reg [⟨(some 23), none, .mov (.tmp 0)⟩,
    ⟨(some 24), none, .mov (.tmp 2)⟩,
    ⟨(some 25), none, .mov (.tmp 3)⟩,
    ⟨(some 26), none, .mov (.tmp 4)⟩,
    ⟨(some 27), none, .mov (.tmp 5)⟩,
    ⟨(some 28), none, .call 102 [(.tmp 23), (.tmp 24), (.tmp 25), (.tmp 26), (.tmp 27)]⟩,
    ⟨(some 22), none, .mov (.tmp 28)⟩,
    ⟨(some 29), none, .ext (.tmp 22) 0⟩,
    ⟨(some 30), none, .ext (.tmp 22) 1⟩,
    ⟨(some 2), none, .mov (.tmp 29)⟩,
    ⟨(some 3), none, .mov (.tmp 30)⟩])
  (.seq (.reg [⟨(some 32), none, .mov (.tmp 0)⟩,
    ⟨(some 33), none, .mov (.tmp 1)⟩,
    ⟨(some 34), none, .mov (.tmp 2)⟩,
    ⟨(some 35), none, .mov (.tmp 4)⟩,
    ⟨(some 36), none, .mov (.tmp 5)⟩,
    ⟨(some 37), none, .call 102 [(.tmp 32), (.tmp 33), (.tmp 34), (.tmp 35), (.tmp 36)]⟩,
    ⟨(some 31), none, .mov (.tmp 37)⟩,
    ⟨(some 38), none, .ext (.tmp 31) 0⟩,
    ⟨(some 39), none, .ext (.tmp 31) 1⟩,
    ⟨(some 1), none, .mov (.tmp 38)⟩,
    ⟨(some 2), none, .mov (.tmp 39)⟩])
  (.seq (.reg [⟨(some 40), none, .mov (.tmp 2)⟩,
    ⟨(some 12), none, .mov (.tmp 40)⟩])
  .ret)))))
def g95 : Fn := ⟨6, 41, [.tmp 12], b95⟩
/- quiver/topk.first$1 -/
def b96 : AC :=
  (.seq (.reg [⟨(some 3), none, .box (.tmp 0)⟩,
    ⟨(some 4), none, .mov (.con (.bool false))⟩])
  (.seq (.regd [⟨[⟨⟨(some 5), none, .load false 1 (.tmp 1)⟩, false, false, false, 0, [], none⟩,
    ⟨⟨(some 6), none, .nilck (.tmp 5)⟩, true, false, false, 0, [], none⟩,
    ⟨⟨(some 7), none, .faddr (.tmp 6) 0⟩, true, false, false, 0, [], none⟩,
    ⟨⟨(some 8), none, .load false 1 (.tmp 7)⟩, false, false, false, 0, [], none⟩,
    ⟨⟨(some 9), none, .call 97 [(.tmp 8)]⟩, false, false, false, 0, [], none⟩,
    ⟨⟨(some 10), none, .load false 1 (.tmp 2)⟩, false, false, false, 0, [], none⟩], 0, [⟨(some 11), none, .bin .lss (.tmp 9) (.tmp 10)⟩,
    ⟨(some 12), none, .mov (.tmp 11)⟩]⟩,
   ⟨[⟨⟨(some 13), (some (12, false)), .load true 2 (.tmp 3)⟩, false, false, false, 0, [], none⟩,
    ⟨⟨(some 14), (some (12, false)), .load false 1 (.tmp 1)⟩, false, false, false, 0, [], none⟩,
    ⟨⟨(some 15), (some (12, false)), .nilck (.tmp 14)⟩, true, false, false, 0, [], none⟩,
    ⟨⟨(some 16), (some (12, false)), .faddr (.tmp 15) 0⟩, true, false, false, 0, [], none⟩,
    ⟨⟨(some 17), (some (12, false)), .load false 1 (.tmp 16)⟩, false, false, false, 0, [], none⟩,
    ⟨⟨(some 18), (some (12, false)), .iaddr 2 (.tmp 17) (.con (.int .i64 0))⟩, true, false, false, 0, [], none⟩,
    ⟨⟨(some 19), (some (12, false)), .load true 2 (.tmp 18)⟩, false, false, false, 0, [], none⟩], 0, [⟨(some 20), (some (12, false)), .call 16 [(.tmp 13), (.tmp 19)]⟩,
    ⟨(some 21), (some (12, false)), .bin .lss (.tmp 20) (.con (.int .i64 0))⟩,
    ⟨(some 22), none, .pick (.tmp 12) (.con (.bool true)) (.tmp 21)⟩,
    ⟨(some 4), none, .mov (.tmp 22)⟩]⟩])
  .ret))
def g96 : Fn := ⟨3, 23, [.tmp 4], b96⟩
/- (quiver/topk.hits).Len -/
def b97 : AC :=
  (.seq (.reg [⟨(some 2), none, .mov (.con (.int .i64 0))⟩])
  (.seq (.reg [⟨(some 3), none, .mov (.tmp 0)⟩,
    ⟨(some 4), none, .len (.tmp 3)⟩,
    ⟨(some 2), none, .mov (.tmp 4)⟩])
  .ret))
def g97 : Fn := ⟨1, 5, [.tmp 2], b97⟩
/- quiver/topk.all -/
def b98 : AC :=
  (.seq (.reg [⟨(some 1), none, .box (.tmp 0)⟩,
    ⟨(some 2), none, .mov (.con .nilF)⟩])
  (.seq (.reg [⟨(some 3), none, .mkfn 103 [(.tmp 1)]⟩,
    ⟨(some 2), none, .mov (.tmp 3)⟩])
  .ret))
def g98 : Fn := ⟨1, 4, [.tmp 2], b98⟩
/- container/heap.Push -/
def b99 : AC :=
  (.seq (.reg [⟨(some 4), none, .mov (.tmp 0)⟩,
    ⟨(some 5), none, .mov (.tmp 1)⟩,
    ⟨(some 6), none, .inv (.tmp 4) [(140, 124, none)] [(.tmp 5)]⟩])
  (.reg [⟨(some 7), none, .mov (.tmp 0)⟩,
    ⟨(some 8), none, .mov (.tmp 0)⟩,
    ⟨(some 9), none, .inv (.tmp 8) [(17, 119, none), (140, 97, some (false, 1, 0)), (141, 97, none)] []⟩,
    ⟨(some 10), none, .bin .sub (.tmp 9) (.con (.int .i64 1))⟩,
    ⟨(some 11), none, .call 104 [(.tmp 7), (.tmp 10)]⟩]))
def g99 : Fn := ⟨2, 12, [], b99⟩
/- container/heap.Pop -/
def b100 : AC :=
  (.seq (.reg [⟨(some 2), none, .mov (.con .nilI)⟩])
  (.seq (.reg [⟨(some 4), none, .mov (.tmp 0)⟩,
    ⟨(some 5), none, .inv (.tmp 4) [(17, 119, none), (140, 97, some (false, 1, 0)), (141, 97, none)] []⟩,
    ⟨(some 6), none, .bin .sub (.tmp 5) (.con (.int .i64 1))⟩,
    ⟨(some 3), none, .mov (.tmp 6)⟩])
  (.seq (.reg [⟨(some 7), none, .mov (.tmp 0)⟩,
    ⟨(some 8), none, .mov (.tmp 3)⟩,
    ⟨(some 9), none, .inv (.tmp 7) [(140, 125, some (false, 1, 0)), (141, 125, none)] [(.con (.int .i64 0)), (.tmp 8)]⟩])
  (.seq (.reg [⟨(some 10), none, .mov (.tmp 0)⟩,
    ⟨(some 11), none, .mov (.tmp 3)⟩,
    ⟨(some 12), none, .call 105 [(.tmp 10), (.con (.int .i64 0)), (.tmp 11)]⟩])
  (.seq (.reg [⟨(some 13), none, .mov (.tmp 0)⟩,
    ⟨(some 14), none, .inv (.tmp 13) [(140, 123, none)] []⟩,
    ⟨(some 2), none, .mov (.tmp 14)⟩])
  .ret)))))
def g100 : Fn := ⟨1, 15, [.tmp 2], b100⟩
/- slices.Clone[[]quiver/api.Hit,quiver/api.Hit] -/
def b101 : AC :=
  (.seq (.reg [⟨(some 2), none, .mov (.con .nilS)⟩])
  (.seq (.seq (.reg [⟨(some 3), none, .mov (.tmp 0)⟩,
    ⟨(some 4), none, .eqN false (.tmp 3)⟩])
  (.cond (.tmp 4)
   (.seq (.reg [⟨(some 2), none, .mov (.con .nilS)⟩])
   .ret)
   .skip))
  (.seq (.reg [⟨(some 5), none, .lit 2 []⟩,
    ⟨(some 6), none, .mov (.tmp 0)⟩,
    ⟨(some 7), none, .append 2 16 (.tmp 5) (.tmp 6)⟩,
    ⟨(some 2), none, .mov (.tmp 7)⟩])
  .ret)))
def g101 : Fn := ⟨1, 8, [.tmp 2], b101⟩
/- slices.order2CmpFunc[quiver/api.Hit] -/
def b102 : AC :=
  (.seq (.reg [⟨(some 10), none, .mov (.con (.int .i64 0))⟩,
    ⟨(some 11), none, .mov (.con (.int .i64 0))⟩])
  (.seq (.seq (.regd [⟨[⟨⟨(some 12), none, .mov (.tmp 4)⟩, true, false, false, 0, [], none⟩,
    ⟨⟨(some 13), none, .mov (.tmp 0)⟩, true, false, false, 0, [], none⟩,
    ⟨⟨(some 14), none, .mov (.tmp 2)⟩, true, false, false, 0, [], none⟩,
    ⟨⟨(some 15), none, .iaddr 2 (.tmp 13) (.tmp 14)⟩, true, false, false, 0, [], none⟩,
    ⟨⟨(some 16), none, .load true 2 (.tmp 15)⟩, false, false, false, 0, [], none⟩,
    ⟨⟨(some 17), none, .mov (.tmp 0)⟩, true, false, false, 0, [], none⟩,
    ⟨⟨(some 18), none, .mov (.tmp 1)⟩, true, false, false, 0, [], none⟩,
    ⟨⟨(some 19), none, .iaddr 2 (.tmp 17) (.tmp 18)⟩, true, false, false, 0, [], none⟩,
    ⟨⟨(some 20), none, .load true 2 (.tmp 19)⟩, false, false, false, 0, [], none⟩], 0, [⟨(some 21), none, .callv (.tmp 12) [(.tmp 16), (.tmp 20)]⟩,
    ⟨(some 22), none, .bin .lss (.tmp 21) (.con (.int .i64 0))⟩]⟩])
  (.cond (.tmp 22)
   (.seq (.reg [⟨(some 23), none, .mov (.tmp 3)⟩,
     ⟨(some 24), none, .nilck (.tmp 23)⟩,
     ⟨(some 25), none, .load false 1 (.tmp 24)⟩,
     ⟨(some 26), none, .bin .add (.tmp 25) (.con (.int .i64 1))⟩,
     ⟨(some 27), none, .nilck (.tmp 23)⟩,
     ⟨none, none, .store 1 (.tmp 27) (.tmp 26)⟩])
   (.seq (.reg [⟨(some 28), none, .mov (.tmp 2)⟩,
     ⟨(some 29), none, .mov (.tmp 1)⟩,
     ⟨(some 10), none, .mov (.tmp 28)⟩,
     ⟨(some 11), none, .mov (.tmp 29)⟩])
   .ret))
   .skip))
  (.seq (.reg [⟨(some 30), none, .mov (.tmp 1)⟩,
    ⟨(some 31), none, .mov (.tmp 2)⟩,
    ⟨(some 10), none, .mov (.tmp 30)⟩,
    ⟨(some 11), none, .mov (.tmp 31)⟩])
  .ret)))
def g102 : Fn := ⟨5, 32, [.tmp 10, .tmp 11], b102⟩
/- quiver/topk.all$1 -/
def b103 : AC :=
  (.seq (.reg [⟨(some 7), none, .load false 1 (.tmp 1)⟩,
    ⟨(some 8), none, .len (.tmp 7)⟩,
    ⟨(some 9), none, .mov (.con (.int .i64 0))⟩])
  (.block 0 (.loop (.seq (.reg [⟨(some 10), none, .bin .lss (.tmp 9) (.tmp 8)⟩])
    (.seq (.cond (.tmp 10)
     .skip
     (.exit 0))
    (.seq (.block 1 (.seq (.reg [⟨(some 11), none, .iaddr 1 (.tmp 7) (.tmp 9)⟩,
       ⟨(some 12), none, .load false 1 (.tmp 11)⟩,
       ⟨(some 4), none, .mov (.tmp 12)⟩])
     (.seq (.reg [⟨(some 13), none, .mov (.tmp 4)⟩,
       ⟨(some 14), none, .len (.tmp 13)⟩,
       ⟨(some 15), none, .mov (.con (.int .i64 0))⟩])
     (.block 2 (.loop (.seq (.reg [⟨(some 16), none, .bin .lss (.tmp 15) (.tmp 14)⟩])
       (.seq (.cond (.tmp 16)
        .skip
        (.exit 2))
       (.seq (.block 3 (.seq (.reg [⟨(some 17), none, .iaddr 2 (.tmp 13) (.tmp 15)⟩,
          ⟨(some 18), none, .load true 2 (.tmp 17)⟩,
          ⟨(some 6), none, .alloc (.agg [(.int .u64 0), (.int .u64 0)])⟩,
          ⟨none, none, .store 2 (.tmp 6) (.tmp 18)⟩])
        (.seq (.reg [⟨(some 19), none, .mov (.tmp 0)⟩,
          ⟨(some 20), none, .load true 2 (.tmp 6)⟩,
          ⟨(some 21), none, .callv (.tmp 19) [(.tmp 20)]⟩,
          ⟨(some 22), none, .un .not (.tmp 21)⟩])
        (.cond (.tmp 22)
         .ret
         .skip))))
       (.reg [⟨(some 23), none, .bin .add (.tmp 15) (.con (.int .i64 1))⟩,
         ⟨(some 15), none, .mov (.tmp 23)⟩])))))))))
    (.reg [⟨(some 24), none, .bin .add (.tmp 9) (.con (.int .i64 1))⟩,
      ⟨(some 9), none, .mov (.tmp 24)⟩])))))))
def g103 : Fn := ⟨2, 25, [], b103⟩
/- container/heap.up -/
def b104 : AC :=
  (.block 0 (.loop (.block 1 (.seq (.reg [⟨(some 5), none, .mov (.tmp 1)⟩,
       ⟨(some 6), none, .bin .sub (.tmp 5) (.con (.int .i64 1))⟩,
       ⟨(some 7), none, .bin .quo (.tmp 6) (.con (.int .i64 2))⟩,
       ⟨(some 4), none, .mov (.tmp 7)⟩])
     (.seq (.seq (.reg [⟨(some 8), none, .mov (.tmp 4)⟩,
       ⟨(some 9), none, .mov (.tmp 1)⟩,
       ⟨(some 10), none, .bin .eql (.tmp 8) (.tmp 9)⟩,
       ⟨(some 11), none, .mov (.tmp 10)⟩,
       ⟨(some 12), (some (11, false)), .mov (.tmp 0)⟩,
       ⟨(some 13), (some (11, false)), .mov (.tmp 1)⟩,
       ⟨(some 14), (some (11, false)), .mov (.tmp 4)⟩,
       ⟨(some 15), (some (11, false)), .inv (.tmp 12) [(140, 122, none)] [(.tmp 13), (.tmp 14)]⟩,
       ⟨(some 16), (some (11, false)), .un .not (.tmp 15)⟩,
       ⟨(some 17), none, .pick (.tmp 11) (.con (.bool true)) (.tmp 16)⟩])
     (.cond (.tmp 17)
      (.exit 0)
      .skip))
     (.seq (.reg [⟨(some 18), none, .mov (.tmp 0)⟩,
       ⟨(some 19), none, .mov (.tmp 4)⟩,
       ⟨(some 20), none, .mov (.tmp 1)⟩,
       ⟨(some 21), none, .inv (.tmp 18) [(140, 125, some (false, 1, 0)), (141, 125, none)] [(.tmp 19), (.tmp 20)]⟩])
     (.reg [⟨(some 22), none, .mov (.tmp 4)⟩,
       ⟨(some 1), none, .mov (.tmp 22)⟩])))))))
def g104 : Fn := ⟨2, 23, [], b104⟩
/- container/heap.down -/
def b105 : AC :=
  (.seq (.reg [⟨(some 6), none, .mov (.con (.bool false))⟩])
  (.seq (.reg [⟨(some 11), none, .mov (.tmp 1)⟩,
    ⟨(some 7), none, .mov (.tmp 11)⟩])
  (.seq (.block 0 (.loop (.block 1 (.seq (.reg [⟨(some 12), none, .mov (.tmp 7)⟩,
       ⟨(some 13), none, .bin .mul (.con (.int .i64 2)) (.tmp 12)⟩,
       ⟨(some 14), none, .bin .add (.tmp 13) (.con (.int .i64 1))⟩,
       ⟨(some 8), none, .mov (.tmp 14)⟩])
     (.seq (.seq (.reg [⟨(some 15), none, .mov (.tmp 8)⟩,
       ⟨(some 16), none, .mov (.tmp 2)⟩,
       ⟨(some 17), none, .bin .geq (.tmp 15) (.tmp 16)⟩,
       ⟨(some 18), none, .mov (.tmp 17)⟩,
       ⟨(some 19), (some (18, false)), .mov (.tmp 8)⟩,
       ⟨(some 20), (some (18, false)), .bin .lss (.tmp 19) (.con (.int .i64 0))⟩,
       ⟨(some 21), none, .pick (.tmp 18) (.con (.bool true)) (.tmp 20)⟩])
     (.cond (.tmp 21)
      (.exit 0)
      .skip))
     (.seq (.reg [⟨(some 22), none, .mov (.tmp 8)⟩,
       ⟨(some 9), none, .mov (.tmp 22)⟩])
     (.seq (.seq (.reg [⟨(some 23), none, .mov (.tmp 8)⟩,
       ⟨(some 24), none, .bin .add (.tmp 23) (.con (.int .i64 1))⟩,
       ⟨(some 10), none, .mov (.tmp 24)⟩])
     (.seq (.reg [⟨(some 25), none, .mov (.tmp 10)⟩,
       ⟨(some 26), none, .mov (.tmp 2)⟩,
       ⟨(some 27), none, .bin .lss (.tmp 25) (.tmp 26)⟩,
       ⟨(some 28), none, .mov (.tmp 27)⟩,
       ⟨(some 29), (some (28, true)), .mov (.tmp 0)⟩,
       ⟨(some 30), (some (28, true)), .mov (.tmp 10)⟩,
       ⟨(some 31), (some (28, true)), .mov (.tmp 8)⟩,
       ⟨(some 32), (some (28, true)), .inv (.tmp 29) [(140, 122, none)] [(.tmp 30), (.tmp 31)]⟩,
       ⟨(some 33), none, .pick (.tmp 28) (.tmp 32) (.con (.bool false))⟩])
     (.cond (.tmp 33)
      (.reg [⟨(some 34), none, .mov (.tmp 10)⟩,
        ⟨(some 9), none, .mov (.tmp 34)⟩])
      .skip)))
     (.seq (.seq (.reg [⟨(some 35), none, .mov (.tmp 0)⟩,
       ⟨(some 36), none, .mov (.tmp 9)⟩,
       ⟨(some 37), none, .mov (.tmp 7)⟩,
       ⟨(some 38), none, .inv (.tmp 35) [(140, 122, none)] [(.tmp 36), (.tmp 37)]⟩,
       ⟨(some 39), none, .un .not (.tmp 38)⟩])
     (.cond (.tmp 39)
      (.exit 0)
      .skip))
     (.seq (.reg [⟨(some 40), none, .mov (.tmp 0)⟩,
       ⟨(some 41), none, .mov (.tmp 7)⟩,
       ⟨(some 42), none, .mov (.tmp 9)⟩,
       ⟨(some 43), none, .inv (.tmp 40) [(140, 125, some (false, 1, 0)), (141, 125, none)] [(.tmp 41), (.tmp 42)]⟩])
     (.reg [⟨(some 44), none, .mov (.tmp 9)⟩,
       ⟨(some 7), none, .mov (.tmp 44)⟩]))))))))))
  (.seq (.reg [⟨(some 45), none, .mov (.tmp 7)⟩,
    ⟨(some 46), none, .mov (.tmp 1)⟩,
    ⟨(some 47), none, .bin .gtr (.tmp 45) (.tmp 46)⟩,
    ⟨(some 6), none, .mov (.tmp 47)⟩])
  .ret))))
def g105 : Fn := ⟨3, 48, [.tmp 6], b105⟩
/- (*quiver/topk.worst).Less -/
def b122 : AC :=
  (.seq (.reg [⟨(some 6), none, .mov (.con (.bool false))⟩])
  (.seq (.regd [⟨[⟨⟨(some 7), none, .mov (.tmp 0)⟩, true, false, false, 0, [], none⟩,
    ⟨⟨(some 8), none, .nilck (.tmp 7)⟩, true, false, false, 0, [], none⟩,
    ⟨⟨(some 9), none, .faddr (.tmp 8) 0⟩, true, false, false, 0, [], none⟩,
    ⟨⟨(some 10), none, .load false 1 (.tmp 9)⟩, false, false, false, 0, [], none⟩,
    ⟨⟨(some 11), none, .mov (.tmp 1)⟩, true, false, false, 0, [], none⟩,
    ⟨⟨(some 12), none, .iaddr 2 (.tmp 10) (.tmp 11)⟩, true, false, false, 0, [], none⟩,
    ⟨⟨(some 13), none, .load true 2 (.tmp 12)⟩, false, false, false, 0, [], none⟩,
    ⟨⟨(some 14), none, .mov (.tmp 0)⟩, true, false, false, 0, [], none⟩,
    ⟨⟨(some 15), none, .nilck (.tmp 14)⟩, true, false, false, 0, [], none⟩,
    ⟨⟨(some 16), none, .faddr (.tmp 15) 0⟩, true, false, false, 0, [], none⟩,
    ⟨⟨(some 17), none, .load false 1 (.tmp 16)⟩, false, false, false, 0, [], none⟩,
    ⟨⟨(some 18), none, .mov (.tmp 2)⟩, true, false, false, 0, [], none⟩,
    ⟨⟨(some 19), none, .iaddr 2 (.tmp 17) (.tmp 18)⟩, true, false, false, 0, [], none⟩,
    ⟨⟨(some 20), none, .load true 2 (.tmp 19)⟩, false, false, false, 0, [], none⟩], 0, [⟨(some 21), none, .call 16 [(.tmp 13), (.tmp 20)]⟩,
    ⟨(some 22), none, .bin .gtr (.tmp 21) (.con (.int .i64 0))⟩,
    ⟨(some 6), none, .mov (.tmp 22)⟩]⟩])
  .ret))
def g122 : Fn := ⟨3, 23, [.tmp 6], b122⟩
/- (*quiver/topk.worst).Pop -/
def b123 : AC :=
  (.seq (.reg [⟨(some 2), none, .mov (.con .nilI)⟩])
  (.seq (.reg [⟨(some 5), none, .mov (.tmp 0)⟩,
    ⟨(some 6), none, .nilck (.tmp 5)⟩,
    ⟨(some 7), none, .faddr (.tmp 6) 0⟩,
    ⟨(some 8), none, .load false 1 (.tmp 7)⟩,
    ⟨(some 9), none, .len (.tmp 8)⟩,
    ⟨(some 10), none, .bin .sub (.tmp 9) (.con (.int .i64 1))⟩,
    ⟨(some 3), none, .mov (.tmp 10)⟩])
  (.seq (.reg [⟨(some 11), none, .mov (.tmp 0)⟩,
    ⟨(some 12), none, .nilck (.tmp 11)⟩,
    ⟨(some 13), none, .faddr (.tmp 12) 0⟩,
    ⟨(some 14), none, .load false 1 (.tmp 13)⟩,
    ⟨(some 15), none, .mov (.tmp 3)⟩,
    ⟨(some 16), none, .iaddr 2 (.tmp 14) (.tmp 15)⟩,
    ⟨(some 17), none, .load true 2 (.tmp 16)⟩,
    ⟨(some 4), none, .alloc (.agg [(.int .u64 0), (.int .u64 0)])⟩,
    ⟨none, none, .store 2 (.tmp 4) (.tmp 17)⟩])
  (.seq (.reg [⟨(some 18), none, .mov (.tmp 0)⟩,
    ⟨(some 19), none, .mov (.tmp 0)⟩,
    ⟨(some 20), none, .nilck (.tmp 19)⟩,
    ⟨(some 21), none, .faddr (.tmp 20) 0⟩,
    ⟨(some 22), none, .load false 1 (.tmp 21)⟩,
    ⟨(some 23), none, .mov (.tmp 3)⟩,
    ⟨(some 24), none, .slice 2 (.tmp 22) none (some (.tmp 23))⟩,
    ⟨(some 25), none, .nilck (.tmp 18)⟩,
    ⟨(some 26), none, .faddr (.tmp 25) 0⟩,
    ⟨none, none, .store 1 (.tmp 26) (.tmp 24)⟩])
  (.seq (.reg [⟨(some 27), none, .load true 2 (.tmp 4)⟩,
    ⟨(some 28), none, .mkif 47 (.tmp 27)⟩,
    ⟨(some 2), none, .mov (.tmp 28)⟩])
  .ret)))))
def g123 : Fn := ⟨1, 29, [.tmp 2], b123⟩
/- (*quiver/topk.worst).Push -/
def b124 : AC :=
  (.seq (.reg [⟨(some 7), none, .mov (.tmp 1)⟩,
    ⟨(some 8), none, .tas true 47 (.agg [(.int .u64 0), (.int .u64 0)]) (.tmp 7)⟩,
    ⟨(some 6), none, .mov (.tmp 8)⟩,
    ⟨(some 9), none, .ext (.tmp 6) 0⟩,
    ⟨(some 10), none, .ext (.tmp 6) 1⟩,
    ⟨(some 4), none, .alloc (.agg [(.int .u64 0), (.int .u64 0)])⟩,
    ⟨none, none, .store 2 (.tmp 4) (.tmp 9)⟩,
    ⟨(some 5), none, .mov (.tmp 10)⟩])
  (.seq (.reg [⟨(some 11), none, .mov (.tmp 5)⟩])
  (.cond (.tmp 11)
   (.regd [⟨[⟨⟨(some 12), none, .mov (.tmp 0)⟩, true, false, false, 0, [], none⟩,
     ⟨⟨(some 13), none, .mov (.tmp 0)⟩, true, false, false, 0, [], none⟩,
     ⟨⟨(some 14), none, .nilck (.tmp 13)⟩, true, false, false, 0, [], none⟩,
     ⟨⟨(some 15), none, .faddr (.tmp 14) 0⟩, true, false, false, 0, [], none⟩,
     ⟨⟨(some 16), none, .load false 1 (.tmp 15)⟩, false, false, false, 0, [0], none⟩,
     ⟨⟨(some 17), none, .load true 2 (.tmp 4)⟩, false, false, false, 0, [], none⟩,
     ⟨⟨(some 18), none, .lit 2 [(.tmp 17)]⟩, false, false, true, 0, [], none⟩,
     ⟨⟨(some 19), none, .append 2 16 (.tmp 16) (.tmp 18)⟩, false, true, true, 1, [], none⟩], 2, [⟨(some 20), none, .nilck (.tmp 12)⟩,
     ⟨(some 21), none, .faddr (.tmp 20) 0⟩,
     ⟨none, none, .store 1 (.tmp 21) (.tmp 19)⟩]⟩])
   .skip)))
def g124 : Fn := ⟨2, 22, [], b124⟩
/- (quiver/topk.hits).Swap -/
def b125 : AC :=
  (.regd [⟨[⟨⟨(some 6), none, .mov (.tmp 0)⟩, true, false, false, 0, [], none⟩,
    ⟨⟨(some 7), none, .mov (.tmp 1)⟩, true, false, false, 0, [], none⟩,
    ⟨⟨(some 8), none, .mov (.tmp 0)⟩, true, false, false, 0, [], none⟩,
    ⟨⟨(some 9), none, .mov (.tmp 2)⟩, true, false, false, 0, [], none⟩,
    ⟨⟨(some 10), none, .mov (.tmp 0)⟩, true, false, false, 0, [], none⟩,
    ⟨⟨(some 11), none, .mov (.tmp 2)⟩, true, false, false, 0, [], none⟩,
    ⟨⟨(some 12), none, .iaddr 2 (.tmp 10) (.tmp 11)⟩, true, false, false, 0, [], none⟩,
    ⟨⟨(some 13), none, .load true 2 (.tmp 12)⟩, false, false, false, 0, [], none⟩,
    ⟨⟨(some 14), none, .mov (.tmp 0)⟩, true, false, false, 0, [], none⟩,
    ⟨⟨(some 15), none, .mov (.tmp 1)⟩, true, false, false, 0, [], none⟩,
    ⟨⟨(some 16), none, .iaddr 2 (.tmp 14) (.tmp 15)⟩, true, false, false, 0, [], none⟩,
    ⟨⟨(some 17), none, .load true 2 (.tmp 16)⟩, false, false, false, 0, [], none⟩,
    ⟨⟨(some 18), none, .iaddr 2 (.tmp 6) (.tmp 7)⟩, true, false, false, 0, [], none⟩,
    ⟨⟨none, none, .store 2 (.tmp 18) (.tmp 13)⟩, false, true, false, 0, [], none⟩], 0, [⟨(some 19), none, .iaddr 2 (.tmp 8) (.tmp 9)⟩,
    ⟨none, none, .store 2 (.tmp 19) (.tmp 17)⟩]⟩])
def g125 : Fn := ⟨3, 20, [], b125⟩

def fnOf : Nat → Option Fn
  | 3 => some g3
  | 7 => some g7
  | 8 => some g8
  | 9 => some g9
  | 10 => some g10
  | 11 => some g11
  | 12 => some g12
  | 15 => some g15
  | 16 => some g16
  | 17 => some g17
  | 18 => some g18
  | 19 => some g19
  | 21 => some g21
  | 22 => some g22
  | 23 => some g23
  | 24 => some g24
  | 25 => some g25
  | 26 => some g26
  | 27 => some g27
  | 28 => some g28
  | 29 => some g29
  | 30 => some g30
  | 31 => some g31
  | 32 => some g32
  | 33 => some g33
  | 34 => some g34
  | 35 => some g35
  | 36 => some g36
  | 37 => some g37
  | 38 => some g38
  | 39 => some g39
  | 40 => some g40
  | 41 => some g41
  | 43 => some g43
  | 44 => some g44
  | 45 => some g45
  | 46 => some g46
  | 47 => some g47
  | 48 => some g48
  | 49 => some g49
  | 50 => some g50
  | 51 => some g51
  | 52 => some g52
  | 53 => some g53
  | 54 => some g54
  | 55 => some g55
  | 56 => some g56
  | 57 => some g57
  | 58 => some g58
  | 59 => some g59
  | 60 => some g60
  | 61 => some g61
  | 62 => some g62
  | 63 => some g63
  | 64 => some g64
  | 65 => some g65
  | 66 => some g66
  | 67 => some g67
  | 68 => some g68
  | 69 => some g69
  | 70 => some g70
  | 71 => some g71
  | 72 => some g72
  | 73 => some g73
  | 74 => some g74
  | 75 => some g75
  | 76 => some g76
  | 77 => some g77
  | 78 => some g78
  | 79 => some g79
  | 80 => some g80
  | 81 => some g81
  | 82 => some g82
  | 83 => some g83
  | 84 => some g84
  | 85 => some g85
  | 86 => some g86
  | 87 => some g87
  | 88 => some g88
  | 89 => some g89
  | 90 => some g90
  | 91 => some g91
  | 92 => some g92
  | 93 => some g93
  | 94 => some g94
  | 95 => some g95
  | 96 => some g96
  | 97 => some g97
  | 98 => some g98
  | 99 => some g99
  | 100 => some g100
  | 101 => some g101
  | 102 => some g102
  | 103 => some g103
  | 104 => some g104
  | 105 => some g105
  | 122 => some g122
  | 123 => some g123
  | 124 => some g124
  | 125 => some g125
  | _ => none
def modeOf (f : Nat) : Mode := if f ∈ [85, 101, 55, 67, 10, 15, 19, 39] then .own else if f ∈ [99, 100, 104, 105, 124, 123, 125, 46, 62, 75, 76, 77, 79, 80, 81, 82, 91, 93, 94, 95, 102] then .raw else .pure
def T : Tab := ⟨fnOf, modeOf⟩
end Go.Q.S14
end

section
/- Small functions of seat 08. -/
set_option linter.unusedSimpArgs false
set_option linter.unusedVariables false
namespace Go.Q.S14
open Go.Q

structure Ver where
  b : Int
  e : Int
  v : Option (List Int)

def i32V (x : Int) : V := .int .i32 x
structure OpV where
  k : Int
  ts : Int
  near : Bool
  v : Option (List Int)
def okI (x : Int) : Bool := decide (-1073741823 ≤ x) && decide (x ≤ 1073741823)

theorem r43 (x : Int) : res T 43 [.int .i32 x] = some (.bool (!okI x)) := by
  refine run_res (run_pure (fn := g43) rfl rfl (by decide) ?_)
  simp only [g43, b43]
  simp +contextual -implicitDefEqProofs (maxSteps := 2000000) only [↓wP, wQ, wQ1, wQ2, wQ3, wR, boxE, partsOf, ↓reduceIte, Nat.reduceEqDiff, Nat.reduceAdd, Nat.reduceSub, Nat.reduceLeDiff, Nat.reduceLT, Nat.reduceMul, reduceCtorEq, Int.reduceBNe, Int.reduceBEq, Int.reduceLT, Int.reduceLE, Int.reduceGT]
  simp only [okI, Option.some.injEq, V.bool.injEq, Bool.not_and]
  congr 1 <;> simp only [← decide_not, Int.not_le]

theorem f43 (x : Int) (fs : Bool) (σ : Sto) (n lk : Nat) : callE T fs 43 [.int .i32 x] σ n lk = some (.bool (!okI x), σ, n) :=
  callE_tr (by decide) (r43 x) (by simp [Tr, Tr_slV]) rfl fs σ n lk

def idxF {α : Type} (p : α → Bool) (l : List α) : Int := match l.findIdx? p with
  | some i => i
  | none => -1

theorem r56 (o : Option (List Int)) (F : Nat) (caps : List V) (p : Int → Bool) (hl : (lst o).length < 9223372036854775808)     (hp : ∀ x fs σ n lk, callE T fs F (i32V x :: caps) σ n lk = some (.bool (p x), σ, n)) : res T 56 [slV 1 i32V o, .fn F caps] = some (.int .i64 (idxF p (lst o))) := by
  refine run_res (run_pure (fn := g56) rfl rfl (by decide) ?_)
  simp only [g56, b56]
  simp +contextual -implicitDefEqProofs (maxSteps := 2000000) only [↓wP, wQ, wQ1, wQ2, wQ3, wR, boxE, partsOf, ↓reduceIte, Nat.reduceEqDiff, Nat.reduceAdd, Nat.reduceSub, Nat.reduceLeDiff, Nat.reduceLT, Nat.reduceMul, reduceCtorEq, Int.reduceBNe, Int.reduceBEq, Int.reduceLT, Int.reduceLE, Int.reduceGT]
  refine WC_for (lst o).length 0 (fun (j : Nat) env _ _ => env 0 = slV 1 i32V o ∧ env 1 = .fn F caps ∧ (lst o).findIdx? p = (((lst o).drop j).findIdx? p).map (· + j)) (by omega) (by decide) (by decide) (fun _ _ => rfl) (fun _ _ _ => rfl) ?_ ?_ _ _ _ rfl rfl ?_
  · intro j env σ n hj h1 h2 ⟨h3, h4, h5⟩
    simp only [vl_tmp] at h2
    have hx : (lst o)[j]? = some (lst o)[j] := List.getElem?_eq_getElem hj
    have hp' := hp (lst o)[j]
    simp only [i32V] at hp'
    simp +contextual -implicitDefEqProofs (maxSteps := 2000000) only [↓wP, wQ, wQ1, wQ2, wQ3, wR, boxE, partsOf, ↓reduceIte, Nat.reduceEqDiff, Nat.reduceAdd, Nat.reduceSub, Nat.reduceLeDiff, Nat.reduceLT, Nat.reduceMul, reduceCtorEq, Int.reduceBNe, Int.reduceBEq, Int.reduceLT, Int.reduceLE, Int.reduceGT, h1, h2, h3, h4, hx, i32V, hp']
    rw [List.drop_eq_getElem_cons hj, List.findIdx?_cons] at h5
    refine condC_split (fun hb => ?_) (fun hb => ?_)
    · simp +contextual -implicitDefEqProofs (maxSteps := 2000000) only [↓wP, wQ, wQ1, wQ2, wQ3, wR, boxE, partsOf, ↓reduceIte, Nat.reduceEqDiff, Nat.reduceAdd, Nat.reduceSub, Nat.reduceLeDiff, Nat.reduceLT, Nat.reduceMul, reduceCtorEq, Int.reduceBNe, Int.reduceBEq, Int.reduceLT, Int.reduceLE, Int.reduceGT]
      simp [idxF, h5, hb]
    · simp +contextual -implicitDefEqProofs (maxSteps := 2000000) only [↓wP, wQ, wQ1, wQ2, wQ3, wR, boxE, partsOf, ↓reduceIte, Nat.reduceEqDiff, Nat.reduceAdd, Nat.reduceSub, Nat.reduceLeDiff, Nat.reduceLT, Nat.reduceMul, reduceCtorEq, Int.reduceBNe, Int.reduceBEq, Int.reduceLT, Int.reduceLE, Int.reduceGT, h1, h2, h3, h4]
      rw [h5, hb]
      simp only [Bool.false_eq_true, if_false, Option.map_map, Function.comp_def]
      congr 1; funext i; omega
  · intro env σ n ⟨h3, h4, h5⟩ h1 h2
    simp +contextual -implicitDefEqProofs (maxSteps := 2000000) only [↓wP, wQ, wQ1, wQ2, wQ3, wR, boxE, partsOf, ↓reduceIte, Nat.reduceEqDiff, Nat.reduceAdd, Nat.reduceSub, Nat.reduceLeDiff, Nat.reduceLT, Nat.reduceMul, reduceCtorEq, Int.reduceBNe, Int.reduceBEq, Int.reduceLT, Int.reduceLE, Int.reduceGT]
    simp [idxF, h5]
  · exact ⟨rfl, rfl, by simp⟩

theorem idxF_any {α : Type} (p : α → Bool) (l : List α) : decide (0 ≤ idxF p l) = l.any p := by
  unfold idxF
  cases h : l.findIdx? p with
  | none =>
    simp only [List.findIdx?_eq_none_iff] at h
    simp only [Int.reduceNeg, Int.reduceLE, decide_false]
    exact (List.any_eq_false.2 fun x hx => by simp [h x hx]).symm
  | some i =>
    simp only [List.findIdx?_eq_some_iff_getElem] at h
    obtain ⟨h, h1, -⟩ := h
    simp only [Int.natCast_nonneg, decide_true]
    exact (List.any_eq_true.2 ⟨_, List.getElem_mem h, h1⟩).symm

theorem r44 (o : Option (List Int)) (hl : (lst o).length < 9223372036854775808) : res T 44 [slV 1 i32V o, .fn 43 []] = some (.bool ((lst o).any fun x => !okI x)) := by
  refine run_res (run_pure (fn := g44) rfl rfl (by decide) ?_)
  simp only [g44, b44]
  have h := r56 o 43 [] (fun x => !okI x) hl (fun x fs σ n lk => f43 x fs σ n lk)
  have hm : T.mode 56 ≠ .raw := by decide
  simp +contextual -implicitDefEqProofs (maxSteps := 2000000) only [↓wP, wQ, wQ1, wQ2, wQ3, wR, boxE, partsOf, ↓reduceIte, Nat.reduceEqDiff, Nat.reduceAdd, Nat.reduceSub, Nat.reduceLeDiff, Nat.reduceLT, Nat.reduceMul, reduceCtorEq, Int.reduceBNe, Int.reduceBEq, Int.reduceLT, Int.reduceLE, Int.reduceGT, h, callE_eq hm, idxF_any]

theorem f44 (o : Option (List Int)) (hl : (lst o).length < 9223372036854775808) (fs : Bool) (σ : Sto) (n lk : Nat) : callE T fs 44 [slV 1 i32V o, .fn 43 []] σ n lk = some (.bool ((lst o).any fun x => !okI x), σ, n) :=
  callE_tr (by decide) (r44 o hl) (by simp [Tr, Tr_slV]) rfl fs σ n lk

def okV (o : Option (List Int)) : Bool := decide (0 < (lst o).length) && decide ((lst o).length ≤ 4) && (lst o).all okI

theorem r22 (o : Option (List Int)) (hl : (lst o).length < 9223372036854775808) : res T 22 [slV 1 i32V o] = some (.int .i64 (if okV o then 0 else 150)) := by
  refine run_res (run_pure (fn := g22) rfl rfl (by decide) ?_)
  simp only [g22, b22]
  have h := f44 o hl
  simp +contextual -implicitDefEqProofs (maxSteps := 2000000) only [↓wP, wQ, wQ1, wQ2, wQ3, wR, boxE, partsOf, ↓reduceIte, Nat.reduceEqDiff, Nat.reduceAdd, Nat.reduceSub, Nat.reduceLeDiff, Nat.reduceLT, Nat.reduceMul, reduceCtorEq, Int.reduceBNe, Int.reduceBEq, Int.reduceLT, Int.reduceLE, Int.reduceGT, h]
  have hk : (decide (((lst o).length : Int) < 1) || decide (4 < ((lst o).length : Int)) || (lst o).any fun x => !okI x) = !okV o := by
    unfold okV
    rw [Bool.not_and, Bool.not_and, List.not_all_eq_any_not, ← decide_not, ← decide_not]
    congr 2 <;> exact decide_eq_decide.2 (by omega)
  rw [hk]
  cases hb : okV o <;> simp +contextual -implicitDefEqProofs (maxSteps := 2000000) only [↓wP, wQ, wQ1, wQ2, wQ3, wR, boxE, partsOf, ↓reduceIte, Nat.reduceEqDiff, Nat.reduceAdd, Nat.reduceSub, Nat.reduceLeDiff, Nat.reduceLT, Nat.reduceMul, reduceCtorEq, Int.reduceBNe, Int.reduceBEq, Int.reduceLT, Int.reduceLE, Int.reduceGT]

theorem f22 (o : Option (List Int)) (hl : (lst o).length < 9223372036854775808) (fs : Bool) (σ : Sto) (n lk : Nat) : callE T fs 22 [slV 1 i32V o] σ n lk = some (.int .i64 (if okV o then 0 else 150), σ, n) :=
  callE_tr (by decide) (r22 o hl) (by simp [Tr, Tr_slV]) rfl fs σ n lk

end Go.Q.S14
end

section
/- More functions of seat 08: equality, what may be, last traces. -/
set_option linter.unusedSimpArgs false
set_option linter.unusedVariables false
namespace Go.Q.S14
open Go.Q

theorem eq_drop {α : Type} [BEq α] {a b : List α} {j : Nat} (ha : j < a.length) (hb : j < b.length) : (a.drop j == b.drop j) = (a[j] == b[j] && a.drop (j + 1) == b.drop (j + 1)) := by
  rw [List.drop_eq_getElem_cons ha, List.drop_eq_getElem_cons hb]
  rfl

theorem eq_len {α : Type} [BEq α] : ∀ {a b : List α}, a.length ≠ b.length → (a == b) = false
  | [], [], h => absurd rfl h
  | [], _ :: _, _ => rfl
  | _ :: _, [], _ => rfl
  | x :: a, y :: b, h => by
    show (x == y && a == b) = false
    rw [eq_len (a := a) (b := b) (by simpa using h)]
    simp

theorem r25 (a : Option (List Int)) (ha : (lst a).length < 9223372036854775808) : res T 25 [slV 1 i32V a] = some (.bool (okV a)) := by
  refine run_res (run_pure (fn := g25) rfl rfl (by decide) ?_)
  simp only [g25, b25]
  simp +contextual -implicitDefEqProofs (maxSteps := 2000000) only [↓wP, wQ, wQ1, wQ2, wQ3, wR, boxE, partsOf, ↓reduceIte, Nat.reduceEqDiff, Nat.reduceAdd, Nat.reduceSub, Nat.reduceLeDiff, Nat.reduceLT, Nat.reduceMul, reduceCtorEq, Int.reduceBNe, Int.reduceBEq, Int.reduceLT, Int.reduceLE, Int.reduceGT]
  refine WC_loopI 0 (fun (j : Nat) env _ _ => j ≤ (lst a).length ∧ env 3 = .int .i64 (j : Int) ∧ env 0 = slV 1 i32V a ∧ (lst a).all okI = ((lst a).drop j).all okI)
    (fun j => (lst a).length - j) ?_ 0 _ _ _ ⟨Nat.zero_le _, rfl, rfl, by simp⟩
  intro j env σ n ⟨h0, h1, h3, h5⟩
  by_cases hj : j < (lst a).length
  · have hd : decide ((j : Int) < ((lst a).length : Int)) = true := by simp [hj]
    have hw : IntKind.i64.wrap ((j : Int) + 1) = ((j + 1 : Nat) : Int) := by rw [wrap_i64] <;> omega
    have hx : (lst a)[j]? = some (lst a)[j] := List.getElem?_eq_getElem hj
    rw [List.drop_eq_getElem_cons hj, List.all_cons] at h5
    simp +contextual -implicitDefEqProofs (maxSteps := 2000000) only [↓wP, wQ, wQ1, wQ2, wQ3, wR, boxE, partsOf, ↓reduceIte, Nat.reduceEqDiff, Nat.reduceAdd, Nat.reduceSub, Nat.reduceLeDiff, Nat.reduceLT, Nat.reduceMul, reduceCtorEq, Int.reduceBNe, Int.reduceBEq, Int.reduceLT, Int.reduceLE, Int.reduceGT, h1, h3, hx, i32V, hd]
    refine condC_split (fun hb => ?_) (fun hb => ?_)
    · have e1 : okI (lst a)[j] = false := by simp [okI] at hb ⊢; omega
      rw [e1, Bool.false_and] at h5
      have h6 : okV a = false := by simp [okV, h5]
      simp +contextual -implicitDefEqProofs (maxSteps := 2000000) only [↓wP, wQ, wQ1, wQ2, wQ3, wR, boxE, partsOf, ↓reduceIte, Nat.reduceEqDiff, Nat.reduceAdd, Nat.reduceSub, Nat.reduceLeDiff, Nat.reduceLT, Nat.reduceMul, reduceCtorEq, Int.reduceBNe, Int.reduceBEq, Int.reduceLT, Int.reduceLE, Int.reduceGT, h6]
    · have e1 : okI (lst a)[j] = true := by simp [okI] at hb ⊢; omega
      rw [e1, Bool.true_and] at h5
      simp +contextual -implicitDefEqProofs (maxSteps := 2000000) only [↓wP, wQ, wQ1, wQ2, wQ3, wR, boxE, partsOf, ↓reduceIte, Nat.reduceEqDiff, Nat.reduceAdd, Nat.reduceSub, Nat.reduceLeDiff, Nat.reduceLT, Nat.reduceMul, reduceCtorEq, Int.reduceBNe, Int.reduceBEq, Int.reduceLT, Int.reduceLE, Int.reduceGT, h1, h3, hw]
      exact ⟨j + 1, by omega, by omega, rfl, h5⟩
  · have hd : decide ((j : Int) < ((lst a).length : Int)) = false := by simp; omega
    have e1 : (lst a).drop j = [] := by rw [List.drop_eq_nil_iff]; omega
    rw [e1, List.all_nil] at h5
    have h6 : okV a = (decide (1 ≤ ((lst a).length : Int)) && decide (((lst a).length : Int) ≤ 4)) := by
      unfold okV
      rw [h5, Bool.and_true]
      congr 1 <;> exact decide_eq_decide.2 (by omega)
    simp +contextual -implicitDefEqProofs (maxSteps := 2000000) only [↓wP, wQ, wQ1, wQ2, wQ3, wR, boxE, partsOf, ↓reduceIte, Nat.reduceEqDiff, Nat.reduceAdd, Nat.reduceSub, Nat.reduceLeDiff, Nat.reduceLT, Nat.reduceMul, reduceCtorEq, Int.reduceBNe, Int.reduceBEq, Int.reduceLT, Int.reduceLE, Int.reduceGT, h1, h3, hd, h6]

theorem f25 (a : Option (List Int)) (ha : (lst a).length < 9223372036854775808) (fs : Bool) (σ : Sto) (n lk : Nat) : callE T fs 25 [slV 1 i32V a] σ n lk = some (.bool (okV a), σ, n) :=
  callE_tr (by decide) (r25 a ha) (by simp [Tr, Tr_slV]) rfl fs σ n lk

end Go.Q.S14
end

section
/- Hits, and which stands ahead. -/
set_option linter.unusedSimpArgs false
set_option linter.unusedVariables false
namespace Go.Q.S14
open Go.Q

structure Hit where
  id : Int
  d : Int
  deriving Inhabited, DecidableEq

def hitV (x : Hit) : V := .agg [.int .u64 x.id, .int .u64 x.d]

def cmpU (x y : Int) : Int := if x < y then -1 else if y < x then 1 else 0
def cmpH (a b : Hit) : Int := if cmpU a.d b.d = 0 then cmpU a.id b.id else cmpU a.d b.d
/-- Does a hit stand ahead of another one? -/
def ahead (a b : Hit) : Bool := decide (a.d < b.d) || (a.d == b.d && decide (a.id < b.id))

theorem cmp_lt (a b : Hit) : decide (cmpH a b < 0) = ahead a b := by
  unfold cmpH cmpU ahead
  by_cases h1 : a.d < b.d
  · simp [h1]
  · by_cases h2 : b.d < a.d
    · have : a.d ≠ b.d := by omega
      simp [h1, h2, this]
    · have e : a.d = b.d := by omega
      by_cases h3 : a.id < b.id
      · simp [e, h3]
      · by_cases h4 : b.id < a.id <;> simp [e, h3, h4]
theorem cmp_gt (a b : Hit) : decide (0 < cmpH a b) = ahead b a := by
  unfold cmpH cmpU ahead
  by_cases h1 : b.d < a.d
  · have : ¬ a.d < b.d := by omega
    simp [h1, this]
  · by_cases h2 : a.d < b.d
    · have : b.d ≠ a.d := by omega
      simp [h1, h2, this]
    · have e : b.d = a.d := by omega
      by_cases h3 : b.id < a.id
      · have : ¬ a.id < b.id := by omega
        simp [e, h3, this]
      · by_cases h4 : a.id < b.id <;> simp [e, h3, h4]

theorem r51 (x : Int) : res T 51 [.int .u64 x] = some (.bool false) := by
  refine run_res (run_pure (fn := g51) rfl rfl (by decide) ?_)
  simp only [g51, b51]
  simp +contextual -implicitDefEqProofs (maxSteps := 2000000) only [↓wP, wQ, wQ1, wQ2, wQ3, wR, boxE, partsOf, ↓reduceIte, Nat.reduceEqDiff, Nat.reduceAdd, Nat.reduceSub, Nat.reduceLeDiff, Nat.reduceLT, Nat.reduceMul, reduceCtorEq, Int.reduceBNe, Int.reduceBEq, Int.reduceLT, Int.reduceLE, Int.reduceGT]

theorem f51 (x : Int) (fs : Bool) (σ : Sto) (n lk : Nat) : callE T fs 51 [.int .u64 x] σ n lk = some (.bool false, σ, n) :=
  callE_tr (by decide) (r51 x) (by simp [Tr, Tr_slV]) rfl fs σ n lk

theorem r35 (x y : Int) : res T 35 [.int .u64 x, .int .u64 y] = some (.int .i64 (cmpU x y)) := by
  refine run_res (run_pure (fn := g35) rfl rfl (by decide) ?_)
  simp only [g35, b35]
  simp +contextual -implicitDefEqProofs (maxSteps := 2000000) only [↓wP, wQ, wQ1, wQ2, wQ3, wR, boxE, partsOf, ↓reduceIte, Nat.reduceEqDiff, Nat.reduceAdd, Nat.reduceSub, Nat.reduceLeDiff, Nat.reduceLT, Nat.reduceMul, reduceCtorEq, Int.reduceBNe, Int.reduceBEq, Int.reduceLT, Int.reduceLE, Int.reduceGT, f51]
  unfold cmpU
  by_cases h1 : x < y
  · simp +contextual -implicitDefEqProofs (maxSteps := 2000000) only [↓wP, wQ, wQ1, wQ2, wQ3, wR, boxE, partsOf, ↓reduceIte, Nat.reduceEqDiff, Nat.reduceAdd, Nat.reduceSub, Nat.reduceLeDiff, Nat.reduceLT, Nat.reduceMul, reduceCtorEq, Int.reduceBNe, Int.reduceBEq, Int.reduceLT, Int.reduceLE, Int.reduceGT, h1]
  · by_cases h2 : y < x
    · simp +contextual -implicitDefEqProofs (maxSteps := 2000000) only [↓wP, wQ, wQ1, wQ2, wQ3, wR, boxE, partsOf, ↓reduceIte, Nat.reduceEqDiff, Nat.reduceAdd, Nat.reduceSub, Nat.reduceLeDiff, Nat.reduceLT, Nat.reduceMul, reduceCtorEq, Int.reduceBNe, Int.reduceBEq, Int.reduceLT, Int.reduceLE, Int.reduceGT, h1, h2]
    · simp +contextual -implicitDefEqProofs (maxSteps := 2000000) only [↓wP, wQ, wQ1, wQ2, wQ3, wR, boxE, partsOf, ↓reduceIte, Nat.reduceEqDiff, Nat.reduceAdd, Nat.reduceSub, Nat.reduceLeDiff, Nat.reduceLT, Nat.reduceMul, reduceCtorEq, Int.reduceBNe, Int.reduceBEq, Int.reduceLT, Int.reduceLE, Int.reduceGT, h1, h2]

theorem f35 (x y : Int) (fs : Bool) (σ : Sto) (n lk : Nat) : callE T fs 35 [.int .u64 x, .int .u64 y] σ n lk = some (.int .i64 (cmpU x y), σ, n) :=
  callE_tr (by decide) (r35 x y) (by simp [Tr, Tr_slV]) rfl fs σ n lk

theorem r34 (a b : Int) : res T 34 [.sl 1 [.int .i64 a, .int .i64 b]] = some (.int .i64 (if a = 0 then b else a)) := by
  refine run_res (run_pure (fn := g34) rfl rfl (by decide) ?_)
  simp only [g34, b34]
  simp +contextual -implicitDefEqProofs (maxSteps := 2000000) only [↓wP, wQ, wQ1, wQ2, wQ3, wR, boxE, partsOf, ↓reduceIte, Nat.reduceEqDiff, Nat.reduceAdd, Nat.reduceSub, Nat.reduceLeDiff, Nat.reduceLT, Nat.reduceMul, reduceCtorEq, Int.reduceBNe, Int.reduceBEq, Int.reduceLT, Int.reduceLE, Int.reduceGT]
  refine WC_for 2 0 (fun (j : Nat) env σ n => env 3 = .int .i64 0 ∧ env 6 = .sl 1 [.int .i64 a, .int .i64 b] ∧ (0 < j → a = 0) ∧ (1 < j → b = 0)) (by omega) (by decide) (by decide) (fun _ _ => rfl) (fun _ _ _ => rfl) ?_ ?_ _ _ _ rfl rfl ?_
  · intro j env σ n hj h1 h2 ⟨h3, h4, h5, h6⟩
    simp only [vl_tmp] at h2
    match j, hj with
    | 0, _ =>
      by_cases ha : a = 0
      · have hd : (a != 0) = false := by simp [ha]
        simp +contextual -implicitDefEqProofs (maxSteps := 2000000) only [↓wP, wQ, wQ1, wQ2, wQ3, wR, boxE, partsOf, ↓reduceIte, Nat.reduceEqDiff, Nat.reduceAdd, Nat.reduceSub, Nat.reduceLeDiff, Nat.reduceLT, Nat.reduceMul, reduceCtorEq, Int.reduceBNe, Int.reduceBEq, Int.reduceLT, Int.reduceLE, Int.reduceGT, h1, h2, h3, h4, hd]
        exact ⟨fun _ => ha, fun h => h.elim⟩
      · have hd : (a != 0) = true := by simp [ha]
        simp +contextual -implicitDefEqProofs (maxSteps := 2000000) only [↓wP, wQ, wQ1, wQ2, wQ3, wR, boxE, partsOf, ↓reduceIte, Nat.reduceEqDiff, Nat.reduceAdd, Nat.reduceSub, Nat.reduceLeDiff, Nat.reduceLT, Nat.reduceMul, reduceCtorEq, Int.reduceBNe, Int.reduceBEq, Int.reduceLT, Int.reduceLE, Int.reduceGT, h1, h2, h3, h4, hd, ha]
    | 1, _ =>
      have ha := h5 (by omega)
      by_cases hb : b = 0
      · have hd : (b != 0) = false := by simp [hb]
        simp +contextual -implicitDefEqProofs (maxSteps := 2000000) only [↓wP, wQ, wQ1, wQ2, wQ3, wR, boxE, partsOf, ↓reduceIte, Nat.reduceEqDiff, Nat.reduceAdd, Nat.reduceSub, Nat.reduceLeDiff, Nat.reduceLT, Nat.reduceMul, reduceCtorEq, Int.reduceBNe, Int.reduceBEq, Int.reduceLT, Int.reduceLE, Int.reduceGT, h1, h2, h3, h4, hd]
        exact ⟨fun _ => ha, fun _ => hb⟩
      · have hd : (b != 0) = true := by simp [hb]
        simp +contextual -implicitDefEqProofs (maxSteps := 2000000) only [↓wP, wQ, wQ1, wQ2, wQ3, wR, boxE, partsOf, ↓reduceIte, Nat.reduceEqDiff, Nat.reduceAdd, Nat.reduceSub, Nat.reduceLeDiff, Nat.reduceLT, Nat.reduceMul, reduceCtorEq, Int.reduceBNe, Int.reduceBEq, Int.reduceLT, Int.reduceLE, Int.reduceGT, h1, h2, h3, h4, hd, ha]
  · intro env σ n ⟨h3, h4, h5, h6⟩ h1 h2
    have ha : a = 0 := h5 (by decide)
    have hb : b = 0 := h6 (by decide)
    simp +contextual -implicitDefEqProofs (maxSteps := 2000000) only [↓wP, wQ, wQ1, wQ2, wQ3, wR, boxE, partsOf, ↓reduceIte, Nat.reduceEqDiff, Nat.reduceAdd, Nat.reduceSub, Nat.reduceLeDiff, Nat.reduceLT, Nat.reduceMul, reduceCtorEq, Int.reduceBNe, Int.reduceBEq, Int.reduceLT, Int.reduceLE, Int.reduceGT, h3, ha, hb]
  · simp +contextual -implicitDefEqProofs (maxSteps := 2000000) only [↓wP, wQ, wQ1, wQ2, wQ3, wR, boxE, partsOf, ↓reduceIte, Nat.reduceEqDiff, Nat.reduceAdd, Nat.reduceSub, Nat.reduceLeDiff, Nat.reduceLT, Nat.reduceMul, reduceCtorEq, Int.reduceBNe, Int.reduceBEq, Int.reduceLT, Int.reduceLE, Int.reduceGT]
    exact ⟨fun h => absurd h (by decide), fun h => absurd h (by decide)⟩

theorem f34 (a b : Int) (fs : Bool) (σ : Sto) (n lk : Nat) : callE T fs 34 [.sl 1 [.int .i64 a, .int .i64 b]] σ n lk = some (.int .i64 (if a = 0 then b else a), σ, n) :=
  callE_tr (by decide) (r34 a b) (by simp [Tr, Tr_slV]) rfl fs σ n lk

theorem r16 (i d i' d' : Int) : res T 16 [.agg [.int .u64 i, .int .u64 d], .agg [.int .u64 i', .int .u64 d']] = some (.int .i64 (cmpH ⟨i, d⟩ ⟨i', d'⟩)) := by
  refine run_res (run_pure (fn := g16) rfl rfl (by decide) ?_)
  simp only [g16, b16]
  have h26 := r34 (cmpU d d') (cmpU i i')
  have hm26 : T.mode 34 ≠ .raw := by decide
  simp +contextual -implicitDefEqProofs (maxSteps := 2000000) only [↓wP, wQ, wQ1, wQ2, wQ3, wR, boxE, partsOf, ↓reduceIte, Nat.reduceEqDiff, Nat.reduceAdd, Nat.reduceSub, Nat.reduceLeDiff, Nat.reduceLT, Nat.reduceMul, reduceCtorEq, Int.reduceBNe, Int.reduceBEq, Int.reduceLT, Int.reduceLE, Int.reduceGT, f35, callE_eq hm26, frz_rf, h26]
  rfl

theorem f16 (i d i' d' : Int) (fs : Bool) (σ : Sto) (n lk : Nat) : callE T fs 16 [.agg [.int .u64 i, .int .u64 d], .agg [.int .u64 i', .int .u64 d']] σ n lk = some (.int .i64 (cmpH ⟨i, d⟩ ⟨i', d'⟩), σ, n) :=
  callE_tr (by decide) (r16 i d i' d') (by simp [Tr, Tr_slV]) rfl fs σ n lk

end Go.Q.S14
end

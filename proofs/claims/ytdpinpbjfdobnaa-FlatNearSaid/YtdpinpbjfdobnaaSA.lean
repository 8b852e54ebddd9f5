/- The compact code of this seat's functions, printed by a program. -/
import Derived.Test.YtdpinpbjfdobnaaQD
import Derived.Test.YtdpinpbjfdobnaaProg
import Derived.KernelRfl
section
namespace Go.Q.S11
/- quiver/quiverlaw11.FlatNear -/
def b6 : AC :=
  (.seq (.reg [⟨(some 3), none, .box (.tmp 1)⟩,
    ⟨(some 4), none, .mov (.con (.bool false))⟩])
  (.seq (.seq (.reg [⟨(some 16), none, .call 9 []⟩,
    ⟨(some 17), none, .un .not (.tmp 16)⟩])
  (.cond (.tmp 17)
   (.seq (.reg [⟨(some 4), none, .mov (.con (.bool false))⟩])
   .ret)
   .skip))
  (.seq (.seq (.reg [⟨(some 18), none, .mov (.tmp 0)⟩,
    ⟨(some 19), none, .call 20 [(.tmp 18)]⟩,
    ⟨(some 20), none, .mov (.tmp 19)⟩,
    ⟨(some 21), (some (20, false)), .faddr (.tmp 3) 0⟩,
    ⟨(some 22), (some (20, false)), .load false 1 (.tmp 21)⟩,
    ⟨(some 23), (some (20, false)), .len (.tmp 22)⟩,
    ⟨(some 24), (some (20, false)), .bin .gtr (.tmp 23) (.con (.int .i64 50))⟩,
    ⟨(some 25), none, .pick (.tmp 20) (.con (.bool true)) (.tmp 24)⟩])
  (.cond (.tmp 25)
   (.seq (.reg [⟨(some 4), none, .mov (.con (.bool true))⟩])
   .ret)
   .skip))
  (.seq (.reg [⟨(some 27), none, .mov (.tmp 0)⟩,
    ⟨(some 28), none, .load true 2 (.tmp 3)⟩,
    ⟨(some 29), none, .call 21 [(.tmp 27), (.tmp 28)]⟩,
    ⟨(some 26), none, .mov (.tmp 29)⟩,
    ⟨(some 30), none, .ext (.tmp 26) 0⟩,
    ⟨(some 31), none, .ext (.tmp 26) 1⟩,
    ⟨(some 5), none, .mov (.tmp 30)⟩,
    ⟨(some 6), none, .mov (.tmp 31)⟩])
  (.seq (.seq (.reg [⟨(some 32), none, .mov (.tmp 6)⟩,
    ⟨(some 33), none, .bin .neq (.tmp 32) (.con (.int .i64 0))⟩])
  (.cond (.tmp 33)
   (.seq (.reg [⟨(some 34), none, .mov (.tmp 5)⟩,
     ⟨(some 35), none, .len (.tmp 34)⟩,
     ⟨(some 36), none, .bin .eql (.tmp 35) (.con (.int .i64 0))⟩,
     ⟨(some 4), none, .mov (.tmp 36)⟩])
   .ret)
   .skip))
  (.seq (.seq (.reg [⟨(some 37), none, .mov (.tmp 5)⟩,
    ⟨(some 38), none, .len (.tmp 37)⟩,
    ⟨(some 39), none, .faddr (.tmp 3) 1⟩,
    ⟨(some 40), none, .load false 1 (.tmp 39)⟩,
    ⟨(some 41), none, .mov (.tmp 0)⟩,
    ⟨(some 42), none, .len (.tmp 41)⟩,
    ⟨(some 43), none, .min [(.tmp 40), (.tmp 42)]⟩,
    ⟨(some 44), none, .bin .neq (.tmp 38) (.tmp 43)⟩])
  (.cond (.tmp 44)
   (.seq (.reg [⟨(some 4), none, .mov (.con (.bool false))⟩])
   .ret)
   .skip))
  (.seq (.reg [⟨(some 45), none, .mkmap⟩,
    ⟨(some 7), none, .mov (.tmp 45)⟩])
  (.seq (.seq (.reg [⟨(some 46), none, .mov (.tmp 0)⟩,
    ⟨(some 47), none, .len (.tmp 46)⟩,
    ⟨(some 48), none, .mov (.con (.int .i64 0))⟩])
  (.block 0 (.loop (.seq (.reg [⟨(some 49), none, .bin .lss (.tmp 48) (.tmp 47)⟩])
    (.seq (.cond (.tmp 49)
     .skip
     (.exit 0))
    (.seq (.block 1 (.seq (.reg [⟨(some 50), none, .iaddr 2 (.tmp 46) (.tmp 48)⟩,
       ⟨(some 51), none, .load true 2 (.tmp 50)⟩,
       ⟨(some 9), none, .alloc (.agg [(.int .u64 0), .nilS])⟩,
       ⟨none, none, .store 2 (.tmp 9) (.tmp 51)⟩])
     (.seq (.reg [⟨(some 53), none, .faddr (.tmp 9) 1⟩,
       ⟨(some 54), none, .load false 1 (.tmp 53)⟩,
       ⟨(some 55), none, .faddr (.tmp 3) 0⟩,
       ⟨(some 56), none, .load false 1 (.tmp 55)⟩,
       ⟨(some 57), none, .call 23 [(.tmp 54), (.tmp 56)]⟩,
       ⟨(some 52), none, .mov (.tmp 57)⟩,
       ⟨(some 58), none, .ext (.tmp 52) 0⟩,
       ⟨(some 59), none, .ext (.tmp 52) 1⟩,
       ⟨(some 10), none, .mov (.tmp 58)⟩,
       ⟨(some 11), none, .mov (.tmp 59)⟩])
     (.seq (.seq (.reg [⟨(some 60), none, .mov (.tmp 11)⟩,
       ⟨(some 61), none, .bin .neq (.tmp 60) (.con (.int .i64 0))⟩])
     (.cond (.tmp 61)
      (.seq (.reg [⟨(some 4), none, .mov (.con (.bool false))⟩])
      .ret)
      .skip))
     (.regd [⟨[⟨⟨(some 62), none, .mov (.tmp 7)⟩, true, false, false, 0, [], none⟩,
       ⟨⟨(some 63), none, .faddr (.tmp 9) 0⟩, true, false, false, 0, [], none⟩,
       ⟨⟨(some 64), none, .load false 1 (.tmp 63)⟩, false, false, false, 0, [], none⟩,
       ⟨⟨(some 65), none, .mov (.tmp 10)⟩, true, false, false, 0, [], none⟩,
       ⟨⟨(some 66), none, .build [(.int .u64 0), (.int .u64 0)] [(0, 1, (.tmp 64)), (1, 1, (.tmp 65))]⟩, true, false, false, 0, [], none⟩,
       ⟨⟨(some 67), none, .mget false (.agg [.int, .int]) (.int .i64 0) (.tmp 62) (.tmp 66)⟩, false, false, false, 0, [], none⟩,
       ⟨⟨(some 68), none, .bin .add (.tmp 67) (.con (.int .i64 1))⟩, true, false, false, 0, [], none⟩,
       ⟨⟨(some 69), none, .ment (.agg [.int, .int]) (.int .i64 0) (.tmp 62) (.tmp 66)⟩, false, true, false, 0, [], none⟩,
       ⟨⟨(some 70), none, .ext (.tmp 69) 1⟩, true, false, false, 0, [], none⟩], 0, [⟨none, none, .mest (.tmp 62) (.tmp 70) (.tmp 68)⟩]⟩])))))
    (.reg [⟨(some 71), none, .bin .add (.tmp 48) (.con (.int .i64 1))⟩,
      ⟨(some 48), none, .mov (.tmp 71)⟩])))))))
  (.seq (.seq (.reg [⟨(some 72), none, .mov (.tmp 5)⟩,
    ⟨(some 73), none, .len (.tmp 72)⟩,
    ⟨(some 74), none, .mov (.con (.int .i64 0))⟩])
  (.block 2 (.loop (.seq (.reg [⟨(some 75), none, .bin .lss (.tmp 74) (.tmp 73)⟩])
    (.seq (.cond (.tmp 75)
     .skip
     (.exit 2))
    (.seq (.block 3 (.seq (.reg [⟨(some 76), none, .mov (.tmp 74)⟩,
       ⟨(some 77), none, .iaddr 2 (.tmp 72) (.tmp 74)⟩,
       ⟨(some 78), none, .load true 2 (.tmp 77)⟩,
       ⟨(some 13), none, .alloc (.agg [(.int .u64 0), (.int .u64 0)])⟩,
       ⟨(some 12), none, .mov (.tmp 76)⟩,
       ⟨none, none, .store 2 (.tmp 13) (.tmp 78)⟩])
     (.seq (.regd [⟨[⟨⟨(some 79), none, .mov (.tmp 7)⟩, true, false, false, 0, [], none⟩,
       ⟨⟨(some 80), none, .load true 2 (.tmp 13)⟩, false, false, false, 0, [], none⟩,
       ⟨⟨(some 81), none, .mget false (.agg [.int, .int]) (.int .i64 0) (.tmp 79) (.tmp 80)⟩, false, false, false, 0, [], none⟩,
       ⟨⟨(some 82), none, .bin .sub (.tmp 81) (.con (.int .i64 1))⟩, true, false, false, 0, [], none⟩,
       ⟨⟨(some 83), none, .ment (.agg [.int, .int]) (.int .i64 0) (.tmp 79) (.tmp 80)⟩, false, true, false, 0, [], none⟩,
       ⟨⟨(some 84), none, .ext (.tmp 83) 1⟩, true, false, false, 0, [], none⟩], 0, [⟨none, none, .mest (.tmp 79) (.tmp 84) (.tmp 82)⟩]⟩])
     (.seq (.regd [⟨[⟨⟨(some 85), none, .mov (.tmp 7)⟩, true, false, false, 0, [], none⟩,
       ⟨⟨(some 86), none, .load true 2 (.tmp 13)⟩, false, false, false, 0, [], none⟩], 0, [⟨(some 87), none, .mget false (.agg [.int, .int]) (.int .i64 0) (.tmp 85) (.tmp 86)⟩,
       ⟨(some 88), none, .bin .lss (.tmp 87) (.con (.int .i64 0))⟩,
       ⟨(some 89), none, .mov (.tmp 88)⟩,
       ⟨(some 90), (some (89, false)), .mov (.tmp 12)⟩,
       ⟨(some 91), (some (89, false)), .bin .gtr (.tmp 90) (.con (.int .i64 0))⟩,
       ⟨(some 92), (some (89, false)), .mov (.tmp 91)⟩]⟩,
      ⟨[⟨⟨(some 93), (some (92, true)), .mov (.tmp 5)⟩, true, false, false, 0, [], none⟩,
       ⟨⟨(some 94), (some (92, true)), .mov (.tmp 12)⟩, true, false, false, 0, [], none⟩,
       ⟨⟨(some 95), (some (92, true)), .bin .sub (.tmp 94) (.con (.int .i64 1))⟩, true, false, false, 0, [], none⟩,
       ⟨⟨(some 96), (some (92, true)), .iaddr 2 (.tmp 93) (.tmp 95)⟩, true, false, false, 0, [], none⟩,
       ⟨⟨(some 97), (some (92, true)), .load true 2 (.tmp 96)⟩, false, false, false, 0, [], none⟩,
       ⟨⟨(some 98), (some (92, true)), .load true 2 (.tmp 13)⟩, false, false, false, 0, [], none⟩], 0, [⟨(some 99), (some (92, true)), .call 24 [(.tmp 97), (.tmp 98)]⟩,
       ⟨(some 100), (some (92, true)), .bin .gtr (.tmp 99) (.con (.int .i64 0))⟩,
       ⟨(some 101), (some (89, false)), .pick (.tmp 92) (.tmp 100) (.con (.bool false))⟩,
       ⟨(some 102), none, .pick (.tmp 89) (.con (.bool true)) (.tmp 101)⟩]⟩])
     (.cond (.tmp 102)
      (.seq (.reg [⟨(some 4), none, .mov (.con (.bool false))⟩])
      .ret)
      .skip)))))
    (.reg [⟨(some 103), none, .bin .add (.tmp 74) (.con (.int .i64 1))⟩,
      ⟨(some 74), none, .mov (.tmp 103)⟩])))))))
  (.seq (.seq (.reg [⟨(some 104), none, .mov (.tmp 7)⟩,
    ⟨(some 105), none, .range (.tmp 104)⟩])
  (.block 4 (.loop (.seq (.reg [⟨(some 106), none, .next (.tmp 105)⟩,
      ⟨(some 107), none, .ext (.tmp 106) 0⟩])
    (.seq (.cond (.tmp 107)
     .skip
     (.exit 4))
    (.block 5 (.seq (.reg [⟨(some 108), none, .entry (.tmp 105)⟩,
       ⟨(some 109), none, .ext (.tmp 108) 0⟩,
       ⟨(some 110), none, .ext (.tmp 108) 1⟩,
       ⟨(some 14), none, .alloc (.agg [(.int .u64 0), (.int .u64 0)])⟩,
       ⟨none, none, .store 2 (.tmp 14) (.tmp 109)⟩,
       ⟨(some 15), none, .mov (.tmp 110)⟩])
     (.seq (.regd [⟨[], 0, [⟨(some 111), none, .mov (.tmp 15)⟩,
       ⟨(some 112), none, .bin .gtr (.tmp 111) (.con (.int .i64 0))⟩,
       ⟨(some 113), none, .mov (.tmp 112)⟩,
       ⟨(some 114), (some (113, true)), .mov (.tmp 5)⟩,
       ⟨(some 115), (some (113, true)), .len (.tmp 114)⟩,
       ⟨(some 116), (some (113, true)), .bin .gtr (.tmp 115) (.con (.int .i64 0))⟩,
       ⟨(some 117), none, .pick (.tmp 113) (.tmp 116) (.con (.bool false))⟩,
       ⟨(some 118), none, .mov (.tmp 117)⟩]⟩,
      ⟨[⟨⟨(some 119), (some (118, true)), .load true 2 (.tmp 14)⟩, false, false, false, 0, [], none⟩,
       ⟨⟨(some 120), (some (118, true)), .mov (.tmp 5)⟩, true, false, false, 0, [], none⟩,
       ⟨⟨(some 121), (some (118, true)), .mov (.tmp 5)⟩, true, false, false, 0, [], none⟩,
       ⟨⟨(some 122), (some (118, true)), .len (.tmp 121)⟩, true, false, false, 0, [], none⟩,
       ⟨⟨(some 123), (some (118, true)), .bin .sub (.tmp 122) (.con (.int .i64 1))⟩, true, false, false, 0, [], none⟩,
       ⟨⟨(some 124), (some (118, true)), .iaddr 2 (.tmp 120) (.tmp 123)⟩, true, false, false, 0, [], none⟩,
       ⟨⟨(some 125), (some (118, true)), .load true 2 (.tmp 124)⟩, false, false, false, 0, [], none⟩], 0, [⟨(some 126), (some (118, true)), .call 24 [(.tmp 119), (.tmp 125)]⟩,
       ⟨(some 127), (some (118, true)), .bin .lss (.tmp 126) (.con (.int .i64 0))⟩,
       ⟨(some 128), none, .pick (.tmp 118) (.tmp 127) (.con (.bool false))⟩]⟩])
     (.cond (.tmp 128)
      (.seq (.reg [⟨(some 4), none, .mov (.con (.bool false))⟩])
      .ret)
      .skip)))))))))
  (.seq (.reg [⟨(some 4), none, .mov (.con (.bool true))⟩])
  .ret)))))))))))
def g6 : Fn := ⟨2, 129, [.tmp 4], b6⟩
/- quiver/quiverlaw11.wakes -/
def b9 : AC :=
  (.seq (.reg [⟨(some 0), none, .mov (.con (.bool false))⟩])
  (.seq (.reg [⟨(some 4), none, .call 30 []⟩,
    ⟨(some 5), none, .build [(.int .u64 0), (.int .u64 0)] [(0, 1, (.con (.int .u64 3)))]⟩,
    ⟨(some 6), none, .lit 1 [(.con (.int .i32 6))]⟩,
    ⟨(some 7), none, .build [.nilS, (.int .i64 0)] [(0, 1, (.tmp 6)), (1, 1, (.con (.int .i64 2)))]⟩,
    ⟨(some 8), none, .call 11 [(.tmp 4), (.tmp 5), (.tmp 7)]⟩,
    ⟨(some 3), none, .mov (.tmp 8)⟩,
    ⟨(some 9), none, .ext (.tmp 3) 0⟩,
    ⟨(some 10), none, .ext (.tmp 3) 1⟩,
    ⟨(some 1), none, .mov (.tmp 9)⟩,
    ⟨(some 2), none, .mov (.tmp 10)⟩])
  (.seq (.reg [⟨(some 11), none, .mov (.tmp 2)⟩,
    ⟨(some 12), none, .bin .eql (.tmp 11) (.con (.int .i64 0))⟩,
    ⟨(some 13), none, .mov (.tmp 12)⟩,
    ⟨(some 14), (some (13, true)), .mov (.tmp 1)⟩,
    ⟨(some 15), (some (13, true)), .len (.tmp 14)⟩,
    ⟨(some 16), (some (13, true)), .bin .eql (.tmp 15) (.con (.int .i64 2))⟩,
    ⟨(some 17), none, .pick (.tmp 13) (.tmp 16) (.con (.bool false))⟩,
    ⟨(some 18), none, .mov (.tmp 17)⟩,
    ⟨(some 19), (some (18, true)), .mov (.tmp 1)⟩,
    ⟨(some 20), (some (18, true)), .iaddr 2 (.tmp 19) (.con (.int .i64 0))⟩,
    ⟨(some 21), (some (18, true)), .load true 2 (.tmp 20)⟩,
    ⟨(some 22), (some (18, true)), .build [(.int .u64 0), (.int .u64 0)] [(0, 1, (.con (.int .u64 7))), (1, 1, (.con (.int .u64 1)))]⟩,
    ⟨(some 23), (some (18, true)), .eqA false [.int, .int] (.tmp 21) (.tmp 22)⟩,
    ⟨(some 24), none, .pick (.tmp 18) (.tmp 23) (.con (.bool false))⟩,
    ⟨(some 25), none, .mov (.tmp 24)⟩,
    ⟨(some 26), (some (25, true)), .mov (.tmp 1)⟩,
    ⟨(some 27), (some (25, true)), .iaddr 2 (.tmp 26) (.con (.int .i64 1))⟩,
    ⟨(some 28), (some (25, true)), .load true 2 (.tmp 27)⟩,
    ⟨(some 29), (some (25, true)), .build [(.int .u64 0), (.int .u64 0)] [(0, 1, (.con (.int .u64 2))), (1, 1, (.con (.int .u64 9)))]⟩,
    ⟨(some 30), (some (25, true)), .eqA false [.int, .int] (.tmp 28) (.tmp 29)⟩,
    ⟨(some 31), none, .pick (.tmp 25) (.tmp 30) (.con (.bool false))⟩,
    ⟨(some 0), none, .mov (.tmp 31)⟩])
  .ret)))
def g9 : Fn := ⟨0, 32, [.tmp 0], b9⟩
/- quiver/flat.Scan -/
def b11 : AC :=
  (.seq (.reg [⟨(some 3), none, .box (.tmp 0)⟩,
    ⟨(some 4), none, .box (.tmp 1)⟩,
    ⟨(some 5), none, .box (.tmp 2)⟩,
    ⟨(some 6), none, .mov (.con .nilS)⟩,
    ⟨(some 7), none, .mov (.con (.int .i64 0))⟩])
  (.seq (.seq (.reg [⟨(some 11), none, .load true 2 (.tmp 5)⟩,
    ⟨(some 12), none, .call 13 [(.tmp 11)]⟩,
    ⟨(some 8), none, .mov (.tmp 12)⟩])
  (.seq (.reg [⟨(some 13), none, .mov (.tmp 8)⟩,
    ⟨(some 14), none, .bin .neq (.tmp 13) (.con (.int .i64 0))⟩])
  (.cond (.tmp 14)
   (.seq (.reg [⟨(some 15), none, .mov (.tmp 8)⟩,
     ⟨(some 6), none, .mov (.con .nilS)⟩,
     ⟨(some 7), none, .mov (.tmp 15)⟩])
   .ret)
   .skip)))
  (.seq (.seq (.reg [⟨(some 16), none, .load true 1 (.tmp 3)⟩,
    ⟨(some 17), none, .call 31 [(.tmp 16)]⟩,
    ⟨(some 9), none, .mov (.tmp 17)⟩])
  (.seq (.reg [⟨(some 18), none, .mov (.tmp 9)⟩,
    ⟨(some 19), none, .bin .neq (.tmp 18) (.con (.int .i64 0))⟩])
  (.cond (.tmp 19)
   (.seq (.reg [⟨(some 20), none, .mov (.tmp 9)⟩,
     ⟨(some 6), none, .mov (.con .nilS)⟩,
     ⟨(some 7), none, .mov (.tmp 20)⟩])
   .ret)
   .skip)))
  (.seq (.reg [⟨(some 21), none, .load true 2 (.tmp 5)⟩,
    ⟨(some 22), none, .build [.nilS, (.int .i64 0)] [(0, 2, (.tmp 21))]⟩,
    ⟨(some 10), none, .alloc (.agg [.nilS, (.int .i64 0)])⟩,
    ⟨none, none, .store 2 (.tmp 10) (.tmp 22)⟩])
  (.seq (.reg [⟨(some 23), none, .load true 2 (.tmp 10)⟩,
    ⟨(some 24), none, .mkfn 33 [(.tmp 3), (.tmp 4)]⟩,
    ⟨(some 25), none, .load true 2 (.tmp 10)⟩,
    ⟨(some 26), none, .mkbnd 37 [(.tmp 25)]⟩,
    ⟨(some 27), none, .call 32 [(.tmp 23), (.tmp 24), (.tmp 26)]⟩,
    ⟨(some 28), none, .ext (.tmp 27) 0⟩,
    ⟨(some 29), none, .ext (.tmp 27) 1⟩,
    ⟨(some 6), none, .mov (.tmp 28)⟩,
    ⟨(some 7), none, .mov (.tmp 29)⟩])
  .ret)))))
def g11 : Fn := ⟨3, 30, [.tmp 6, .tmp 7], b11⟩
/- quiver/flat.Check -/
def b13 : AC :=
  (.seq (.reg [⟨(some 1), none, .box (.tmp 0)⟩,
    ⟨(some 2), none, .mov (.con (.int .i64 0))⟩])
  (.seq (.seq (.reg [⟨(some 3), none, .faddr (.tmp 1) 1⟩,
    ⟨(some 4), none, .load false 1 (.tmp 3)⟩,
    ⟨(some 5), none, .bin .lss (.tmp 4) (.con (.int .i64 1))⟩,
    ⟨(some 6), none, .mov (.tmp 5)⟩,
    ⟨(some 7), (some (6, false)), .faddr (.tmp 1) 1⟩,
    ⟨(some 8), (some (6, false)), .load false 1 (.tmp 7)⟩,
    ⟨(some 9), (some (6, false)), .bin .gtr (.tmp 8) (.con (.int .i64 16))⟩,
    ⟨(some 10), none, .pick (.tmp 6) (.con (.bool true)) (.tmp 9)⟩])
  (.cond (.tmp 10)
   (.seq (.reg [⟨(some 2), none, .mov (.con (.int .i64 2))⟩])
   .ret)
   .skip))
  (.seq (.reg [⟨(some 11), none, .faddr (.tmp 1) 0⟩,
    ⟨(some 12), none, .load false 1 (.tmp 11)⟩,
    ⟨(some 13), none, .call 38 [(.tmp 12)]⟩,
    ⟨(some 2), none, .mov (.tmp 13)⟩])
  .ret)))
def g13 : Fn := ⟨1, 14, [.tmp 2], b13⟩
/- quiver/topk.Merge -/
def b18 : AC :=
  (.seq (.reg [⟨(some 4), none, .mov (.con .nilS)⟩,
    ⟨(some 5), none, .mov (.con (.int .i64 0))⟩])
  (.seq (.seq (.reg [⟨(some 9), none, .mov (.tmp 0)⟩,
    ⟨(some 10), none, .bin .lss (.tmp 9) (.con (.int .i64 1))⟩,
    ⟨(some 11), none, .mov (.tmp 10)⟩,
    ⟨(some 12), (some (11, false)), .mov (.tmp 0)⟩,
    ⟨(some 13), (some (11, false)), .bin .gtr (.tmp 12) (.con (.int .i64 16))⟩,
    ⟨(some 14), none, .pick (.tmp 11) (.con (.bool true)) (.tmp 13)⟩])
  (.cond (.tmp 14)
   (.seq (.reg [⟨(some 4), none, .mov (.con .nilS)⟩,
     ⟨(some 5), none, .mov (.con (.int .i64 2))⟩])
   .ret)
   .skip))
  (.seq (.reg [⟨(some 6), none, .mov (.con (.int .i64 0))⟩])
  (.seq (.seq (.reg [⟨(some 15), none, .mov (.tmp 1)⟩,
    ⟨(some 16), none, .len (.tmp 15)⟩,
    ⟨(some 17), none, .mov (.con (.int .i64 0))⟩])
  (.block 0 (.loop (.seq (.reg [⟨(some 18), none, .bin .lss (.tmp 17) (.tmp 16)⟩])
    (.seq (.cond (.tmp 18)
     .skip
     (.exit 0))
    (.seq (.block 1 (.seq (.reg [⟨(some 19), none, .iaddr 1 (.tmp 15) (.tmp 17)⟩,
       ⟨(some 20), none, .load false 1 (.tmp 19)⟩,
       ⟨(some 8), none, .mov (.tmp 20)⟩])
     (.seq (.reg [⟨(some 21), none, .mov (.tmp 6)⟩,
       ⟨(some 22), none, .mov (.tmp 8)⟩,
       ⟨(some 23), none, .len (.tmp 22)⟩,
       ⟨(some 24), none, .bin .add (.tmp 21) (.tmp 23)⟩,
       ⟨(some 6), none, .mov (.tmp 24)⟩])
     (.seq (.reg [⟨(some 25), none, .mov (.tmp 6)⟩,
       ⟨(some 26), none, .bin .gtr (.tmp 25) (.con (.int .i64 2000))⟩])
     (.cond (.tmp 26)
      (.seq (.reg [⟨(some 4), none, .mov (.con .nilS)⟩,
        ⟨(some 5), none, .mov (.con (.int .i64 3))⟩])
      .ret)
      .skip)))))
    (.reg [⟨(some 27), none, .bin .add (.tmp 17) (.con (.int .i64 1))⟩,
      ⟨(some 17), none, .mov (.tmp 27)⟩])))))))
  (.seq (.reg [⟨(some 28), none, .mov (.tmp 0)⟩,
    ⟨(some 29), none, .mov (.tmp 1)⟩,
    ⟨(some 30), none, .call 42 [(.tmp 28), (.tmp 29)]⟩,
    ⟨(some 4), none, .mov (.tmp 30)⟩,
    ⟨(some 5), none, .mov (.con (.int .i64 0))⟩])
  .ret)))))
def g18 : Fn := ⟨2, 31, [.tmp 4, .tmp 5], b18⟩
/- quiver/quiverlaw11.overRows -/
def b20 : AC :=
  (.seq (.reg [⟨(some 2), none, .mov (.con (.bool false))⟩])
  (.seq (.seq (.reg [⟨(some 5), none, .mov (.tmp 0)⟩,
    ⟨(some 6), none, .len (.tmp 5)⟩,
    ⟨(some 7), none, .bin .gtr (.tmp 6) (.con (.int .i64 300))⟩])
  (.cond (.tmp 7)
   (.seq (.reg [⟨(some 2), none, .mov (.con (.bool true))⟩])
   .ret)
   .skip))
  (.seq (.seq (.reg [⟨(some 8), none, .mov (.tmp 0)⟩,
    ⟨(some 9), none, .len (.tmp 8)⟩,
    ⟨(some 10), none, .mov (.con (.int .i64 0))⟩])
  (.block 0 (.loop (.seq (.reg [⟨(some 11), none, .bin .lss (.tmp 10) (.tmp 9)⟩])
    (.seq (.cond (.tmp 11)
     .skip
     (.exit 0))
    (.seq (.block 1 (.seq (.reg [⟨(some 12), none, .iaddr 2 (.tmp 8) (.tmp 10)⟩,
       ⟨(some 13), none, .load true 2 (.tmp 12)⟩,
       ⟨(some 4), none, .alloc (.agg [(.int .u64 0), .nilS])⟩,
       ⟨none, none, .store 2 (.tmp 4) (.tmp 13)⟩])
     (.seq (.reg [⟨(some 14), none, .faddr (.tmp 4) 1⟩,
       ⟨(some 15), none, .load false 1 (.tmp 14)⟩,
       ⟨(some 16), none, .len (.tmp 15)⟩,
       ⟨(some 17), none, .bin .gtr (.tmp 16) (.con (.int .i64 50))⟩])
     (.cond (.tmp 17)
      (.seq (.reg [⟨(some 2), none, .mov (.con (.bool true))⟩])
      .ret)
      .skip))))
    (.reg [⟨(some 18), none, .bin .add (.tmp 10) (.con (.int .i64 1))⟩,
      ⟨(some 10), none, .mov (.tmp 18)⟩])))))))
  (.seq (.reg [⟨(some 2), none, .mov (.con (.bool false))⟩])
  .ret))))
def g20 : Fn := ⟨1, 19, [.tmp 2], b20⟩
/- quiver/flat.Rows -/
def b21 : AC :=
  (.seq (.reg [⟨(some 2), none, .box (.tmp 0)⟩,
    ⟨(some 3), none, .box (.tmp 1)⟩,
    ⟨(some 4), none, .mov (.con .nilS)⟩,
    ⟨(some 5), none, .mov (.con (.int .i64 0))⟩])
  (.seq (.seq (.reg [⟨(some 11), none, .load true 2 (.tmp 3)⟩,
    ⟨(some 12), none, .call 13 [(.tmp 11)]⟩,
    ⟨(some 6), none, .mov (.tmp 12)⟩])
  (.seq (.reg [⟨(some 13), none, .mov (.tmp 6)⟩,
    ⟨(some 14), none, .bin .neq (.tmp 13) (.con (.int .i64 0))⟩])
  (.cond (.tmp 14)
   (.seq (.reg [⟨(some 15), none, .mov (.tmp 6)⟩,
     ⟨(some 4), none, .mov (.con .nilS)⟩,
     ⟨(some 5), none, .mov (.tmp 15)⟩])
   .ret)
   .skip)))
  (.seq (.seq (.reg [⟨(some 16), none, .load false 1 (.tmp 2)⟩,
    ⟨(some 17), none, .len (.tmp 16)⟩,
    ⟨(some 18), none, .mov (.con (.int .i64 0))⟩])
  (.block 0 (.loop (.seq (.reg [⟨(some 19), none, .bin .lss (.tmp 18) (.tmp 17)⟩])
    (.seq (.cond (.tmp 19)
     .skip
     (.exit 0))
    (.seq (.block 1 (.seq (.reg [⟨(some 20), none, .iaddr 2 (.tmp 16) (.tmp 18)⟩,
       ⟨(some 21), none, .load true 2 (.tmp 20)⟩,
       ⟨(some 8), none, .alloc (.agg [(.int .u64 0), .nilS])⟩,
       ⟨none, none, .store 2 (.tmp 8) (.tmp 21)⟩])
     (.seq (.reg [⟨(some 22), none, .load true 2 (.tmp 8)⟩,
       ⟨(some 23), none, .call 43 [(.tmp 22)]⟩,
       ⟨(some 9), none, .mov (.tmp 23)⟩])
     (.seq (.reg [⟨(some 24), none, .mov (.tmp 9)⟩,
       ⟨(some 25), none, .bin .neq (.tmp 24) (.con (.int .i64 0))⟩])
     (.cond (.tmp 25)
      (.seq (.reg [⟨(some 26), none, .mov (.tmp 9)⟩,
        ⟨(some 4), none, .mov (.con .nilS)⟩,
        ⟨(some 5), none, .mov (.tmp 26)⟩])
      .ret)
      .skip)))))
    (.reg [⟨(some 27), none, .bin .add (.tmp 18) (.con (.int .i64 1))⟩,
      ⟨(some 18), none, .mov (.tmp 27)⟩])))))))
  (.seq (.seq (.reg [⟨(some 28), none, .load false 1 (.tmp 2)⟩,
    ⟨(some 29), none, .len (.tmp 28)⟩,
    ⟨(some 30), none, .bin .gtr (.tmp 29) (.con (.int .i64 2000))⟩])
  (.cond (.tmp 30)
   (.seq (.reg [⟨(some 4), none, .mov (.con .nilS)⟩,
     ⟨(some 5), none, .mov (.con (.int .i64 3))⟩])
   .ret)
   .skip))
  (.seq (.reg [⟨(some 31), none, .load true 2 (.tmp 3)⟩,
    ⟨(some 32), none, .build [.nilS, (.int .i64 0)] [(0, 2, (.tmp 31))]⟩,
    ⟨(some 10), none, .alloc (.agg [.nilS, (.int .i64 0)])⟩,
    ⟨none, none, .store 2 (.tmp 10) (.tmp 32)⟩])
  (.seq (.reg [⟨(some 33), none, .load true 2 (.tmp 10)⟩,
    ⟨(some 34), none, .mkfn 44 [(.tmp 2)]⟩,
    ⟨(some 35), none, .load true 2 (.tmp 10)⟩,
    ⟨(some 36), none, .mkbnd 37 [(.tmp 35)]⟩,
    ⟨(some 37), none, .call 32 [(.tmp 33), (.tmp 34), (.tmp 36)]⟩,
    ⟨(some 38), none, .ext (.tmp 37) 0⟩,
    ⟨(some 39), none, .ext (.tmp 37) 1⟩,
    ⟨(some 4), none, .mov (.tmp 38)⟩,
    ⟨(some 5), none, .mov (.tmp 39)⟩])
  .ret))))))
def g21 : Fn := ⟨2, 40, [.tmp 4, .tmp 5], b21⟩
/- quiver/vec.Dist -/
def b23 : AC :=
  (.seq (.reg [⟨(some 4), none, .mov (.con (.int .u64 0))⟩,
    ⟨(some 5), none, .mov (.con (.int .i64 0))⟩])
  (.seq (.seq (.reg [⟨(some 7), none, .mov (.tmp 0)⟩,
    ⟨(some 8), none, .mov (.tmp 1)⟩,
    ⟨(some 9), none, .lit 1 [(.tmp 7), (.tmp 8)]⟩,
    ⟨(some 10), none, .call 45 [(.tmp 9)]⟩,
    ⟨(some 6), none, .mov (.tmp 10)⟩])
  (.seq (.reg [⟨(some 11), none, .mov (.tmp 6)⟩,
    ⟨(some 12), none, .bin .neq (.tmp 11) (.con (.int .i64 0))⟩])
  (.cond (.tmp 12)
   (.seq (.reg [⟨(some 13), none, .mov (.tmp 6)⟩,
     ⟨(some 4), none, .mov (.con (.int .u64 0))⟩,
     ⟨(some 5), none, .mov (.tmp 13)⟩])
   .ret)
   .skip)))
  (.seq (.reg [⟨(some 14), none, .mov (.tmp 0)⟩,
    ⟨(some 15), none, .mov (.tmp 1)⟩,
    ⟨(some 16), none, .call 46 [(.tmp 14), (.tmp 15)]⟩,
    ⟨(some 4), none, .mov (.tmp 16)⟩,
    ⟨(some 5), none, .mov (.con (.int .i64 0))⟩])
  .ret)))
def g23 : Fn := ⟨2, 17, [.tmp 4, .tmp 5], b23⟩
/- quiver/vec.Compare -/
def b24 : AC :=
  (.seq (.reg [⟨(some 2), none, .box (.tmp 0)⟩,
    ⟨(some 3), none, .box (.tmp 1)⟩,
    ⟨(some 4), none, .mov (.con (.int .i64 0))⟩])
  (.seq (.regd [⟨[⟨⟨(some 5), none, .faddr (.tmp 2) 1⟩, true, false, false, 0, [], none⟩,
    ⟨⟨(some 6), none, .load false 1 (.tmp 5)⟩, false, false, false, 0, [], none⟩,
    ⟨⟨(some 7), none, .faddr (.tmp 3) 1⟩, true, false, false, 0, [], none⟩,
    ⟨⟨(some 8), none, .load false 1 (.tmp 7)⟩, false, false, false, 0, [], none⟩,
    ⟨⟨(some 9), none, .call 48 [(.tmp 6), (.tmp 8)]⟩, false, false, false, 0, [], none⟩,
    ⟨⟨(some 10), none, .faddr (.tmp 2) 0⟩, true, false, false, 0, [], none⟩,
    ⟨⟨(some 11), none, .load false 1 (.tmp 10)⟩, false, false, false, 0, [], none⟩,
    ⟨⟨(some 12), none, .faddr (.tmp 3) 0⟩, true, false, false, 0, [], none⟩,
    ⟨⟨(some 13), none, .load false 1 (.tmp 12)⟩, false, false, false, 0, [], none⟩], 0, [⟨(some 14), none, .call 48 [(.tmp 11), (.tmp 13)]⟩,
    ⟨(some 15), none, .lit 1 [(.tmp 9), (.tmp 14)]⟩,
    ⟨(some 16), none, .call 47 [(.tmp 15)]⟩,
    ⟨(some 4), none, .mov (.tmp 16)⟩]⟩])
  .ret))
def g24 : Fn := ⟨2, 17, [.tmp 4], b24⟩
/- quiver/quiverlaw11.two -/
def b30 : AC :=
  (.seq (.reg [⟨(some 0), none, .alloc (.agg [.nilS])⟩])
  (.seq (.reg [⟨(some 2), none, .call 53 []⟩,
    ⟨(some 3), none, .lit 1 [(.con (.int .i32 5))]⟩,
    ⟨(some 4), none, .build [(.int .u64 0), (.int .u64 0), .nilS] [(0, 1, (.con (.int .u64 1))), (2, 1, (.tmp 3))]⟩,
    ⟨(some 5), none, .build [(.bool false), (.int .u64 0), (.int .u64 0), (.int .u64 0), .nilS] [(0, 1, (.con (.bool true))), (1, 1, (.con (.int .u64 7))), (2, 3, (.tmp 4))]⟩,
    ⟨(some 6), none, .call 52 [(.tmp 2), (.con (.int .i64 0)), (.tmp 5)]⟩,
    ⟨(some 1), none, .alloc (.agg [.nilS])⟩,
    ⟨none, none, .store 1 (.tmp 1) (.tmp 6)⟩])
  (.seq (.reg [⟨(some 7), none, .load true 1 (.tmp 1)⟩,
    ⟨(some 8), none, .lit 1 [(.con (.int .i32 9))]⟩,
    ⟨(some 9), none, .build [(.int .u64 0), (.int .u64 0), .nilS] [(0, 1, (.con (.int .u64 1))), (2, 1, (.tmp 8))]⟩,
    ⟨(some 10), none, .build [(.bool false), (.int .u64 0), (.int .u64 0), (.int .u64 0), .nilS] [(0, 1, (.con (.bool true))), (1, 1, (.con (.int .u64 2))), (2, 3, (.tmp 9))]⟩,
    ⟨(some 11), none, .call 52 [(.tmp 7), (.con (.int .i64 1)), (.tmp 10)]⟩,
    ⟨none, none, .store 1 (.tmp 0) (.tmp 11)⟩])
  .ret)))
def g30 : Fn := ⟨0, 12, [.cell 0 true 1], b30⟩
/- quiver/arena.Check -/
def b31 : AC :=
  (.seq (.reg [⟨(some 1), none, .box (.tmp 0)⟩,
    ⟨(some 2), none, .mov (.con (.int .i64 0))⟩])
  (.seq (.reg [⟨(some 3), none, .mov (.con (.fn 54 []))⟩])
  (.seq (.seq (.reg [⟨(some 4), none, .faddr (.tmp 1) 0⟩,
    ⟨(some 5), none, .load false 1 (.tmp 4)⟩,
    ⟨(some 6), none, .len (.tmp 5)⟩,
    ⟨(some 7), none, .bin .neq (.tmp 6) (.con (.int .i64 96))⟩,
    ⟨(some 8), none, .mov (.tmp 7)⟩,
    ⟨(some 9), (some (8, false)), .faddr (.tmp 1) 0⟩,
    ⟨(some 10), (some (8, false)), .load false 1 (.tmp 9)⟩,
    ⟨(some 11), (some (8, false)), .mov (.tmp 3)⟩,
    ⟨(some 12), (some (8, false)), .call 55 [(.tmp 10), (.tmp 11)]⟩,
    ⟨(some 13), none, .pick (.tmp 8) (.con (.bool true)) (.tmp 12)⟩])
  (.cond (.tmp 13)
   (.seq (.reg [⟨(some 2), none, .mov (.con (.int .i64 190))⟩])
   .ret)
   .skip))
  (.seq (.reg [⟨(some 2), none, .mov (.con (.int .i64 0))⟩])
  .ret))))
def g31 : Fn := ⟨1, 14, [.tmp 2], b31⟩
/- (quiver/flat.seeker).found -/
def b32 : AC :=
  (.seq (.reg [⟨(some 3), none, .box (.tmp 0)⟩,
    ⟨(some 5), none, .box (.tmp 2)⟩,
    ⟨(some 6), none, .alloc .nilS⟩,
    ⟨(some 7), none, .alloc (.int .i64 0)⟩])
  (.seq (.reg [⟨(some 8), none, .alloc .nilS⟩])
  (.seq (.seq (.reg [⟨(some 13), none, .mov (.tmp 1)⟩])
  (.block 0 (.rangeF (.tmp 13) [14, 15]
    (.seq (.reg [⟨(some 9), none, .mov (.tmp 14)⟩])
    (.reg [⟨(some 10), none, .mov (.tmp 15)⟩]))
    (.block 1 (.seq (.reg [⟨(some 17), none, .load false 1 (.tmp 5)⟩,
       ⟨(some 18), none, .mov (.tmp 9)⟩,
       ⟨(some 19), none, .mov (.tmp 10)⟩,
       ⟨(some 20), none, .callv (.tmp 17) [(.tmp 18), (.tmp 19)]⟩,
       ⟨(some 16), none, .mov (.tmp 20)⟩,
       ⟨(some 21), none, .ext (.tmp 16) 0⟩,
       ⟨(some 22), none, .ext (.tmp 16) 1⟩,
       ⟨(some 11), none, .alloc (.agg [(.int .u64 0), (.int .u64 0)])⟩,
       ⟨none, none, .store 2 (.tmp 11) (.tmp 21)⟩,
       ⟨(some 12), none, .mov (.tmp 22)⟩])
     (.seq (.seq (.reg [⟨(some 23), none, .mov (.tmp 12)⟩,
       ⟨(some 24), none, .bin .neq (.tmp 23) (.con (.int .i64 0))⟩])
     (.cond (.tmp 24)
      (.seq (.reg [⟨(some 25), none, .mov (.tmp 12)⟩,
        ⟨none, none, .store 1 (.tmp 6) (.con .nilS)⟩,
        ⟨none, none, .store 1 (.tmp 7) (.tmp 25)⟩])
      .ret)
      .skip))
     (.reg [⟨(some 26), none, .load false 1 (.tmp 8)⟩,
       ⟨(some 27), none, .load true 2 (.tmp 11)⟩,
       ⟨(some 28), none, .lit 2 [(.tmp 27)]⟩,
       ⟨(some 29), none, .append 2 16 (.tmp 26) (.tmp 28)⟩,
       ⟨none, none, .store 1 (.tmp 8) (.tmp 29)⟩])))))))
  (.seq (.reg [⟨(some 30), none, .load false 1 (.tmp 8)⟩,
    ⟨(some 31), none, .faddr (.tmp 3) 0⟩,
    ⟨(some 32), none, .faddr (.tmp 31) 1⟩,
    ⟨(some 33), none, .load false 1 (.tmp 32)⟩,
    ⟨(some 34), none, .call 56 [(.tmp 30), (.tmp 33)]⟩,
    ⟨(some 35), none, .ext (.tmp 34) 0⟩,
    ⟨(some 36), none, .ext (.tmp 34) 1⟩,
    ⟨none, none, .store 1 (.tmp 6) (.tmp 35)⟩,
    ⟨none, none, .store 1 (.tmp 7) (.tmp 36)⟩])
  .ret))))
def g32 : Fn := ⟨3, 37, [.cell 6 false 1, .cell 7 false 1], b32⟩
/- quiver/flat.Scan$1 -/
def b33 : AC :=
  (.seq (.reg [⟨(some 3), none, .box (.tmp 0)⟩])
  (.seq (.reg [⟨(some 5), none, .load true 1 (.tmp 1)⟩,
    ⟨(some 6), none, .mkfn 35 [(.tmp 2)]⟩,
    ⟨(some 7), none, .call 34 [(.tmp 5), (.tmp 6)]⟩])
  (.block 0 (.rangeF (.tmp 7) [8]
    (.reg [⟨(some 4), none, .alloc (.agg [(.bool false), (.int .u64 0), (.int .u64 0), (.int .u64 0), .nilS])⟩,
      ⟨none, none, .store 5 (.tmp 4) (.tmp 8)⟩])
    (.block 1 (.seq (.reg [⟨(some 9), none, .load false 1 (.tmp 3)⟩,
       ⟨(some 10), none, .faddr (.tmp 4) 1⟩,
       ⟨(some 11), none, .load false 1 (.tmp 10)⟩,
       ⟨(some 12), none, .faddr (.tmp 4) 2⟩,
       ⟨(some 13), none, .faddr (.tmp 12) 2⟩,
       ⟨(some 14), none, .load false 1 (.tmp 13)⟩,
       ⟨(some 15), none, .callv (.tmp 9) [(.tmp 11), (.tmp 14)]⟩,
       ⟨(some 16), none, .un .not (.tmp 15)⟩])
     (.cond (.tmp 16)
      .ret
      .skip)))))))
def g33 : Fn := ⟨3, 17, [], b33⟩
/- quiver/flat.cells -/
def b34 : AC :=
  (.seq (.reg [⟨(some 2), none, .box (.tmp 0)⟩,
    ⟨(some 3), none, .box (.tmp 1)⟩,
    ⟨(some 4), none, .mov (.con .nilF)⟩])
  (.seq (.reg [⟨(some 5), none, .mkfn 57 [(.tmp 2), (.tmp 3)]⟩,
    ⟨(some 4), none, .mov (.tmp 5)⟩])
  .ret))
def g34 : Fn := ⟨2, 6, [.tmp 4], b34⟩
/- quiver/flat.Scan$1$1 -/
def b35 : AC :=
  (.seq (.reg [⟨(some 3), none, .mov (.con (.bool false))⟩])
  (.seq (.reg [⟨(some 4), none, .load true 2 (.tmp 1)⟩,
    ⟨(some 5), none, .mov (.tmp 0)⟩,
    ⟨(some 6), none, .call 36 [(.tmp 4), (.tmp 5)]⟩,
    ⟨(some 3), none, .mov (.tmp 6)⟩])
  .ret))
def g35 : Fn := ⟨2, 7, [.tmp 3], b35⟩
/- quiver/mask.Has -/
def b36 : AC :=
  (.seq (.reg [⟨(some 2), none, .box (.tmp 0)⟩,
    ⟨(some 4), none, .mov (.con (.bool false))⟩])
  (.seq (.regd [⟨[], 0, [⟨(some 5), none, .mov (.tmp 1)⟩,
    ⟨(some 6), none, .call 58 [(.tmp 5)]⟩,
    ⟨(some 7), none, .mov (.tmp 6)⟩]⟩,
   ⟨[⟨⟨(some 8), (some (7, true)), .load true 2 (.tmp 2)⟩, false, false, false, 0, [], none⟩,
    ⟨⟨(some 9), (some (7, true)), .mov (.tmp 1)⟩, true, false, false, 0, [], none⟩,
    ⟨⟨(some 10), (some (7, true)), .call 60 [(.tmp 9)]⟩, false, false, false, 0, [], none⟩,
    ⟨⟨(some 11), (some (7, true)), .call 59 [(.tmp 8), (.tmp 10)]⟩, false, false, false, 0, [], none⟩,
    ⟨⟨(some 12), (some (7, true)), .build [(.int .u64 0), (.int .u64 0)] []⟩, true, false, false, 0, [], none⟩], 0, [⟨(some 13), (some (7, true)), .eqA true [.int, .int] (.tmp 11) (.tmp 12)⟩,
    ⟨(some 14), none, .pick (.tmp 7) (.tmp 13) (.con (.bool false))⟩,
    ⟨(some 4), none, .mov (.tmp 14)⟩]⟩])
  .ret))
def g36 : Fn := ⟨2, 15, [.tmp 4], b36⟩
/- (quiver/flat.seeker).hit -/
def b37 : AC :=
  (.seq (.reg [⟨(some 3), none, .box (.tmp 0)⟩,
    ⟨(some 6), none, .alloc (.agg [(.int .u64 0), (.int .u64 0)])⟩,
    ⟨(some 7), none, .mov (.con (.int .i64 0))⟩])
  (.seq (.reg [⟨(some 11), none, .faddr (.tmp 3) 0⟩,
    ⟨(some 12), none, .faddr (.tmp 11) 0⟩,
    ⟨(some 13), none, .load false 1 (.tmp 12)⟩,
    ⟨(some 14), none, .mov (.tmp 2)⟩,
    ⟨(some 15), none, .call 23 [(.tmp 13), (.tmp 14)]⟩,
    ⟨(some 10), none, .mov (.tmp 15)⟩,
    ⟨(some 16), none, .ext (.tmp 10) 0⟩,
    ⟨(some 17), none, .ext (.tmp 10) 1⟩,
    ⟨(some 8), none, .mov (.tmp 16)⟩,
    ⟨(some 9), none, .mov (.tmp 17)⟩])
  (.seq (.reg [⟨(some 18), none, .mov (.tmp 1)⟩,
    ⟨(some 19), none, .mov (.tmp 8)⟩,
    ⟨(some 20), none, .build [(.int .u64 0), (.int .u64 0)] [(0, 1, (.tmp 18)), (1, 1, (.tmp 19))]⟩,
    ⟨(some 21), none, .mov (.tmp 9)⟩,
    ⟨none, none, .store 2 (.tmp 6) (.tmp 20)⟩,
    ⟨(some 7), none, .mov (.tmp 21)⟩])
  .ret)))
def g37 : Fn := ⟨3, 22, [.cell 6 true 2, .tmp 7], b37⟩
/- quiver/vec.Check -/
def b38 : AC :=
  (.seq (.reg [⟨(some 2), none, .mov (.con (.int .i64 0))⟩])
  (.seq (.reg [⟨(some 3), none, .mov (.con (.fn 61 []))⟩])
  (.seq (.seq (.reg [⟨(some 4), none, .mov (.tmp 0)⟩,
    ⟨(some 5), none, .len (.tmp 4)⟩,
    ⟨(some 6), none, .bin .lss (.tmp 5) (.con (.int .i64 1))⟩,
    ⟨(some 7), none, .mov (.tmp 6)⟩,
    ⟨(some 8), (some (7, false)), .mov (.tmp 0)⟩,
    ⟨(some 9), (some (7, false)), .len (.tmp 8)⟩,
    ⟨(some 10), (some (7, false)), .bin .gtr (.tmp 9) (.con (.int .i64 4))⟩,
    ⟨(some 11), none, .pick (.tmp 7) (.con (.bool true)) (.tmp 10)⟩,
    ⟨(some 12), none, .mov (.tmp 11)⟩,
    ⟨(some 13), (some (12, false)), .mov (.tmp 0)⟩,
    ⟨(some 14), (some (12, false)), .mov (.tmp 3)⟩,
    ⟨(some 15), (some (12, false)), .call 62 [(.tmp 13), (.tmp 14)]⟩,
    ⟨(some 16), none, .pick (.tmp 12) (.con (.bool true)) (.tmp 15)⟩])
  (.cond (.tmp 16)
   (.seq (.reg [⟨(some 2), none, .mov (.con (.int .i64 150))⟩])
   .ret)
   .skip))
  (.seq (.reg [⟨(some 2), none, .mov (.con (.int .i64 0))⟩])
  .ret))))
def g38 : Fn := ⟨1, 17, [.tmp 2], b38⟩
/- quiver/topk.first -/
def b42 : AC :=
  (.seq (.reg [⟨(some 2), none, .box (.tmp 0)⟩,
    ⟨(some 4), none, .mov (.con .nilS)⟩])
  (.seq (.reg [⟨(some 9), none, .build [.nilS] []⟩,
    ⟨(some 10), none, .box (.tmp 9)⟩,
    ⟨(some 5), none, .alloc .nilP⟩,
    ⟨none, none, .store 1 (.tmp 5) (.tmp 10)⟩])
  (.seq (.reg [⟨(some 11), none, .mkfn 64 [(.tmp 5), (.tmp 2)]⟩,
    ⟨(some 6), none, .alloc .nilF⟩,
    ⟨none, none, .store 1 (.tmp 6) (.tmp 11)⟩])
  (.seq (.seq (.reg [⟨(some 12), none, .mov (.tmp 1)⟩,
    ⟨(some 13), none, .call 66 [(.tmp 12)]⟩])
  (.block 0 (.rangeF (.tmp 13) [14]
    (.reg [⟨(some 7), none, .alloc (.agg [(.int .u64 0), (.int .u64 0)])⟩,
      ⟨none, none, .store 2 (.tmp 7) (.tmp 14)⟩])
    (.block 1 (.seq (.seq (.reg [⟨(some 15), none, .load false 1 (.tmp 6)⟩,
       ⟨(some 16), none, .load true 2 (.tmp 7)⟩,
       ⟨(some 17), none, .callv (.tmp 15) [(.tmp 16)]⟩,
       ⟨(some 18), none, .un .not (.tmp 17)⟩])
     (.cond (.tmp 18)
      (.exit 1)
      .skip))
     (.seq (.reg [⟨(some 19), none, .load false 1 (.tmp 5)⟩,
       ⟨(some 20), none, .mkif 104 (.tmp 19)⟩,
       ⟨(some 21), none, .load true 2 (.tmp 7)⟩,
       ⟨(some 22), none, .mkif 47 (.tmp 21)⟩,
       ⟨(some 23), none, .call 67 [(.tmp 20), (.tmp 22)]⟩])
     (.seq (.regd [⟨[⟨⟨(some 24), none, .load false 1 (.tmp 5)⟩, false, false, false, 0, [], none⟩,
       ⟨⟨(some 25), none, .nilck (.tmp 24)⟩, true, false, false, 0, [], none⟩,
       ⟨⟨(some 26), none, .faddr (.tmp 25) 0⟩, true, false, false, 0, [], none⟩,
       ⟨⟨(some 27), none, .load false 1 (.tmp 26)⟩, false, false, false, 0, [], none⟩,
       ⟨⟨(some 28), none, .call 65 [(.tmp 27)]⟩, false, false, false, 0, [], none⟩,
       ⟨⟨(some 29), none, .load false 1 (.tmp 2)⟩, false, false, false, 0, [], none⟩], 0, [⟨(some 30), none, .bin .gtr (.tmp 28) (.tmp 29)⟩]⟩])
     (.cond (.tmp 30)
      (.reg [⟨(some 31), none, .load false 1 (.tmp 5)⟩,
        ⟨(some 32), none, .mkif 104 (.tmp 31)⟩,
        ⟨(some 33), none, .call 68 [(.tmp 32)]⟩])
      .skip))))))))
  (.seq (.reg [⟨(some 34), none, .load false 1 (.tmp 5)⟩,
    ⟨(some 35), none, .nilck (.tmp 34)⟩,
    ⟨(some 36), none, .faddr (.tmp 35) 0⟩,
    ⟨(some 37), none, .load false 1 (.tmp 36)⟩,
    ⟨(some 38), none, .call 69 [(.tmp 37)]⟩,
    ⟨(some 8), none, .mov (.tmp 38)⟩])
  (.seq (.reg [⟨(some 39), none, .mov (.tmp 8)⟩,
    ⟨(some 40), none, .call 70 [(.tmp 39), (.con (.fn 24 []))]⟩])
  (.seq (.reg [⟨(some 41), none, .mov (.tmp 8)⟩,
    ⟨(some 4), none, .mov (.tmp 41)⟩])
  .ret)))))))
def g42 : Fn := ⟨2, 42, [.tmp 4], b42⟩
/- quiver/codec.CheckRow -/
def b43 : AC :=
  (.seq (.reg [⟨(some 1), none, .box (.tmp 0)⟩,
    ⟨(some 2), none, .mov (.con (.int .i64 0))⟩])
  (.seq (.seq (.reg [⟨(some 3), none, .faddr (.tmp 1) 1⟩,
    ⟨(some 4), none, .load false 1 (.tmp 3)⟩,
    ⟨(some 5), none, .call 38 [(.tmp 4)]⟩,
    ⟨(some 6), none, .bin .neq (.tmp 5) (.con (.int .i64 0))⟩])
  (.cond (.tmp 6)
   (.seq (.reg [⟨(some 2), none, .mov (.con (.int .i64 170))⟩])
   .ret)
   .skip))
  (.seq (.reg [⟨(some 2), none, .mov (.con (.int .i64 0))⟩])
  .ret)))
def g43 : Fn := ⟨1, 7, [.tmp 2], b43⟩
/- quiver/flat.Rows$1 -/
def b44 : AC :=
  (.seq (.reg [⟨(some 5), none, .load false 1 (.tmp 1)⟩,
    ⟨(some 6), none, .len (.tmp 5)⟩,
    ⟨(some 7), none, .mov (.con (.int .i64 0))⟩])
  (.block 0 (.loop (.seq (.reg [⟨(some 8), none, .bin .lss (.tmp 7) (.tmp 6)⟩])
    (.seq (.cond (.tmp 8)
     .skip
     (.exit 0))
    (.seq (.block 1 (.seq (.reg [⟨(some 9), none, .iaddr 2 (.tmp 5) (.tmp 7)⟩,
       ⟨(some 10), none, .load true 2 (.tmp 9)⟩,
       ⟨(some 4), none, .alloc (.agg [(.int .u64 0), .nilS])⟩,
       ⟨none, none, .store 2 (.tmp 4) (.tmp 10)⟩])
     (.seq (.reg [⟨(some 11), none, .mov (.tmp 0)⟩,
       ⟨(some 12), none, .faddr (.tmp 4) 0⟩,
       ⟨(some 13), none, .load false 1 (.tmp 12)⟩,
       ⟨(some 14), none, .faddr (.tmp 4) 1⟩,
       ⟨(some 15), none, .load false 1 (.tmp 14)⟩,
       ⟨(some 16), none, .callv (.tmp 11) [(.tmp 13), (.tmp 15)]⟩,
       ⟨(some 17), none, .un .not (.tmp 16)⟩])
     (.cond (.tmp 17)
      .ret
      .skip))))
    (.reg [⟨(some 18), none, .bin .add (.tmp 7) (.con (.int .i64 1))⟩,
      ⟨(some 7), none, .mov (.tmp 18)⟩])))))))
def g44 : Fn := ⟨2, 19, [], b44⟩
/- quiver/vec.all -/
def b45 : AC :=
  (.seq (.reg [⟨(some 1), none, .box (.tmp 0)⟩,
    ⟨(some 2), none, .mov (.con (.int .i64 0))⟩])
  (.seq (.seq (.reg [⟨(some 7), none, .load false 1 (.tmp 1)⟩,
    ⟨(some 8), none, .len (.tmp 7)⟩,
    ⟨(some 9), none, .mov (.con (.int .i64 0))⟩])
  (.block 0 (.loop (.seq (.reg [⟨(some 10), none, .bin .lss (.tmp 9) (.tmp 8)⟩])
    (.seq (.cond (.tmp 10)
     .skip
     (.exit 0))
    (.seq (.block 1 (.seq (.reg [⟨(some 11), none, .iaddr 1 (.tmp 7) (.tmp 9)⟩,
       ⟨(some 12), none, .load false 1 (.tmp 11)⟩,
       ⟨(some 4), none, .mov (.tmp 12)⟩])
     (.seq (.reg [⟨(some 13), none, .mov (.tmp 4)⟩,
       ⟨(some 14), none, .call 38 [(.tmp 13)]⟩,
       ⟨(some 5), none, .mov (.tmp 14)⟩])
     (.seq (.reg [⟨(some 15), none, .mov (.tmp 5)⟩,
       ⟨(some 16), none, .bin .neq (.tmp 15) (.con (.int .i64 0))⟩])
     (.cond (.tmp 16)
      (.seq (.reg [⟨(some 17), none, .mov (.tmp 5)⟩,
        ⟨(some 2), none, .mov (.tmp 17)⟩])
      .ret)
      .skip)))))
    (.reg [⟨(some 18), none, .bin .add (.tmp 9) (.con (.int .i64 1))⟩,
      ⟨(some 9), none, .mov (.tmp 18)⟩])))))))
  (.seq (.reg [⟨(some 19), none, .mkfn 71 [(.tmp 1)]⟩,
    ⟨(some 6), none, .mov (.tmp 19)⟩])
  (.seq (.seq (.reg [⟨(some 20), none, .load false 1 (.tmp 1)⟩,
    ⟨(some 21), none, .mov (.tmp 6)⟩,
    ⟨(some 22), none, .call 72 [(.tmp 20), (.tmp 21)]⟩])
  (.cond (.tmp 22)
   (.seq (.reg [⟨(some 2), none, .mov (.con (.int .i64 151))⟩])
   .ret)
   .skip))
  (.seq (.reg [⟨(some 2), none, .mov (.con (.int .i64 0))⟩])
  .ret)))))
def g45 : Fn := ⟨1, 23, [.tmp 2], b45⟩
/- quiver/vec.dist -/
def b46 : AC :=
  (.seq (.reg [⟨(some 4), none, .mov (.con (.int .u64 0))⟩])
  (.seq (.reg [⟨(some 5), none, .alloc (.int .u64 0)⟩,
    ⟨none, none, .store 1 (.tmp 5) (.con (.int .u64 0))⟩])
  (.seq (.seq (.reg [⟨(some 9), none, .mov (.tmp 0)⟩,
    ⟨(some 10), none, .mov (.tmp 1)⟩,
    ⟨(some 11), none, .call 73 [(.tmp 9), (.tmp 10)]⟩])
  (.block 0 (.rangeF (.tmp 11) [12, 13]
    (.seq (.reg [⟨(some 6), none, .mov (.tmp 12)⟩])
    (.reg [⟨(some 7), none, .mov (.tmp 13)⟩]))
    (.block 1 (.seq (.reg [⟨(some 14), none, .mov (.tmp 6)⟩,
       ⟨(some 15), none, .mov (.tmp 7)⟩,
       ⟨(some 16), none, .bin .sub (.tmp 14) (.tmp 15)⟩,
       ⟨(some 17), none, .mov (.tmp 7)⟩,
       ⟨(some 18), none, .mov (.tmp 6)⟩,
       ⟨(some 19), none, .bin .sub (.tmp 17) (.tmp 18)⟩,
       ⟨(some 20), none, .max [(.tmp 16), (.tmp 19)]⟩,
       ⟨(some 21), none, .conv .u64 (.tmp 20)⟩,
       ⟨(some 8), none, .mov (.tmp 21)⟩])
     (.reg [⟨(some 22), none, .load false 1 (.tmp 5)⟩,
       ⟨(some 23), none, .mov (.tmp 8)⟩,
       ⟨(some 24), none, .mov (.tmp 8)⟩,
       ⟨(some 25), none, .bin .mul (.tmp 23) (.tmp 24)⟩,
       ⟨(some 26), none, .bin .add (.tmp 22) (.tmp 25)⟩,
       ⟨none, none, .store 1 (.tmp 5) (.tmp 26)⟩]))))))
  (.seq (.reg [⟨(some 27), none, .load false 1 (.tmp 5)⟩,
    ⟨(some 4), none, .mov (.tmp 27)⟩])
  .ret))))
def g46 : Fn := ⟨2, 28, [.tmp 4], b46⟩
/- cmp.Or[int] -/
def b47 : AC :=
  (.seq (.reg [⟨(some 2), none, .mov (.con (.int .i64 0))⟩])
  (.seq (.reg [⟨(some 3), none, .mov (.con (.int .i64 0))⟩])
  (.seq (.seq (.reg [⟨(some 6), none, .mov (.tmp 0)⟩,
    ⟨(some 7), none, .len (.tmp 6)⟩,
    ⟨(some 8), none, .mov (.con (.int .i64 0))⟩])
  (.block 0 (.loop (.seq (.reg [⟨(some 9), none, .bin .lss (.tmp 8) (.tmp 7)⟩])
    (.seq (.cond (.tmp 9)
     .skip
     (.exit 0))
    (.seq (.block 1 (.seq (.reg [⟨(some 10), none, .iaddr 1 (.tmp 6) (.tmp 8)⟩,
       ⟨(some 11), none, .load false 1 (.tmp 10)⟩,
       ⟨(some 5), none, .mov (.tmp 11)⟩])
     (.seq (.reg [⟨(some 12), none, .mov (.tmp 5)⟩,
       ⟨(some 13), none, .mov (.tmp 3)⟩,
       ⟨(some 14), none, .bin .neq (.tmp 12) (.tmp 13)⟩])
     (.cond (.tmp 14)
      (.seq (.reg [⟨(some 15), none, .mov (.tmp 5)⟩,
        ⟨(some 2), none, .mov (.tmp 15)⟩])
      .ret)
      .skip))))
    (.reg [⟨(some 16), none, .bin .add (.tmp 8) (.con (.int .i64 1))⟩,
      ⟨(some 8), none, .mov (.tmp 16)⟩])))))))
  (.seq (.reg [⟨(some 17), none, .mov (.tmp 3)⟩,
    ⟨(some 2), none, .mov (.tmp 17)⟩])
  .ret))))
def g47 : Fn := ⟨1, 18, [.tmp 2], b47⟩
/- cmp.Compare[uint64] -/
def b48 : AC :=
  (.seq (.reg [⟨(some 4), none, .mov (.con (.int .i64 0))⟩])
  (.seq (.reg [⟨(some 7), none, .mov (.tmp 0)⟩,
    ⟨(some 8), none, .call 74 [(.tmp 7)]⟩,
    ⟨(some 5), none, .mov (.tmp 8)⟩])
  (.seq (.reg [⟨(some 9), none, .mov (.tmp 1)⟩,
    ⟨(some 10), none, .call 74 [(.tmp 9)]⟩,
    ⟨(some 6), none, .mov (.tmp 10)⟩])
  (.seq (.seq (.reg [⟨(some 11), none, .mov (.tmp 5)⟩])
  (.cond (.tmp 11)
   (.seq (.seq (.reg [⟨(some 12), none, .mov (.tmp 6)⟩])
   (.cond (.tmp 12)
    (.seq (.reg [⟨(some 4), none, .mov (.con (.int .i64 0))⟩])
    .ret)
    .skip))
   (.seq (.reg [⟨(some 4), none, .mov (.con (.int .i64 (-1)))⟩])
   .ret))
   .skip))
  (.seq (.seq (.reg [⟨(some 13), none, .mov (.tmp 6)⟩])
  (.cond (.tmp 13)
   (.seq (.reg [⟨(some 4), none, .mov (.con (.int .i64 1))⟩])
   .ret)
   .skip))
  (.seq (.seq (.reg [⟨(some 14), none, .mov (.tmp 0)⟩,
    ⟨(some 15), none, .mov (.tmp 1)⟩,
    ⟨(some 16), none, .bin .lss (.tmp 14) (.tmp 15)⟩])
  (.cond (.tmp 16)
   (.seq (.reg [⟨(some 4), none, .mov (.con (.int .i64 (-1)))⟩])
   .ret)
   .skip))
  (.seq (.seq (.reg [⟨(some 17), none, .mov (.tmp 0)⟩,
    ⟨(some 18), none, .mov (.tmp 1)⟩,
    ⟨(some 19), none, .bin .gtr (.tmp 17) (.tmp 18)⟩])
  (.cond (.tmp 19)
   (.seq (.reg [⟨(some 4), none, .mov (.con (.int .i64 1))⟩])
   .ret)
   .skip))
  (.seq (.reg [⟨(some 4), none, .mov (.con (.int .i64 0))⟩])
  .ret))))))))
def g48 : Fn := ⟨2, 20, [.tmp 4], b48⟩
/- quiver/arena.right -/
def b51 : AC :=
  (.seq (.reg [⟨(some 1), none, .box (.tmp 0)⟩,
    ⟨(some 2), none, .mov (.con (.bool false))⟩])
  (.seq (.seq (.reg [⟨(some 3), none, .faddr (.tmp 1) 0⟩,
    ⟨(some 4), none, .load false 1 (.tmp 3)⟩,
    ⟨(some 5), none, .un .not (.tmp 4)⟩])
  (.cond (.tmp 5)
   (.seq (.reg [⟨(some 6), none, .faddr (.tmp 1) 1⟩,
     ⟨(some 7), none, .load false 1 (.tmp 6)⟩,
     ⟨(some 8), none, .bin .eql (.tmp 7) (.con (.int .u64 0))⟩,
     ⟨(some 9), none, .mov (.tmp 8)⟩,
     ⟨(some 10), (some (9, true)), .faddr (.tmp 1) 2⟩,
     ⟨(some 11), (some (9, true)), .load true 3 (.tmp 10)⟩,
     ⟨(some 12), (some (9, true)), .build [(.int .u64 0), (.int .u64 0), .nilS] []⟩,
     ⟨(some 13), (some (9, true)), .call 77 [(.tmp 11), (.tmp 12)]⟩,
     ⟨(some 14), none, .pick (.tmp 9) (.tmp 13) (.con (.bool false))⟩,
     ⟨(some 2), none, .mov (.tmp 14)⟩])
   .ret)
   .skip))
  (.seq (.reg [⟨(some 15), none, .faddr (.tmp 1) 2⟩,
    ⟨(some 16), none, .load true 3 (.tmp 15)⟩,
    ⟨(some 17), none, .call 78 [(.tmp 16)]⟩,
    ⟨(some 18), none, .bin .eql (.tmp 17) (.con (.int .i64 0))⟩,
    ⟨(some 2), none, .mov (.tmp 18)⟩])
  .ret)))
def g51 : Fn := ⟨1, 19, [.tmp 2], b51⟩
/- quiver/quiverref09.With -/
def b52 : AC :=
  (.seq (.reg [⟨(some 3), none, .box (.tmp 0)⟩,
    ⟨(some 5), none, .box (.tmp 2)⟩,
    ⟨(some 6), none, .alloc (.agg [.nilS])⟩])
  (.seq (.reg [⟨(some 8), none, .lit 5 []⟩,
    ⟨(some 9), none, .faddr (.tmp 3) 0⟩,
    ⟨(some 10), none, .load false 1 (.tmp 9)⟩,
    ⟨(some 11), none, .append 5 56 (.tmp 8) (.tmp 10)⟩,
    ⟨(some 7), none, .mov (.tmp 11)⟩])
  (.seq (.reg [⟨(some 12), none, .mov (.tmp 7)⟩,
    ⟨(some 13), none, .mov (.tmp 1)⟩,
    ⟨(some 14), none, .load true 5 (.tmp 5)⟩,
    ⟨(some 15), none, .iaddr 5 (.tmp 12) (.tmp 13)⟩,
    ⟨none, none, .store 5 (.tmp 15) (.tmp 14)⟩])
  (.seq (.reg [⟨(some 16), none, .mov (.tmp 7)⟩,
    ⟨(some 17), none, .build [.nilS] [(0, 1, (.tmp 16))]⟩,
    ⟨none, none, .store 1 (.tmp 6) (.tmp 17)⟩])
  .ret))))
def g52 : Fn := ⟨3, 18, [.cell 6 true 1], b52⟩
/- quiver/quiverref09.New -/
def b53 : AC :=
  (.seq (.reg [⟨(some 0), none, .alloc (.agg [.nilS])⟩])
  (.seq (.reg [⟨(some 1), none, .mksl 5 56 (.agg [(.bool false), (.int .u64 0), (.int .u64 0), (.int .u64 0), .nilS]) (.con (.int .i64 96))⟩,
    ⟨(some 2), none, .build [.nilS] [(0, 1, (.tmp 1))]⟩,
    ⟨none, none, .store 1 (.tmp 0) (.tmp 2)⟩])
  .ret))
def g53 : Fn := ⟨0, 3, [.cell 0 true 1], b53⟩
/- quiver/arena.Check$1 -/
def b54 : AC :=
  (.seq (.reg [⟨(some 1), none, .box (.tmp 0)⟩,
    ⟨(some 2), none, .mov (.con (.bool false))⟩])
  (.seq (.reg [⟨(some 3), none, .load true 5 (.tmp 1)⟩,
    ⟨(some 4), none, .call 51 [(.tmp 3)]⟩,
    ⟨(some 5), none, .un .not (.tmp 4)⟩,
    ⟨(some 2), none, .mov (.tmp 5)⟩])
  .ret))
def g54 : Fn := ⟨1, 6, [.tmp 2], b54⟩
/- slices.ContainsFunc[[]quiver/api.Cell,quiver/api.Cell] -/
def b55 : AC :=
  (.seq (.reg [⟨(some 4), none, .mov (.con (.bool false))⟩])
  (.seq (.reg [⟨(some 5), none, .mov (.tmp 0)⟩,
    ⟨(some 6), none, .mov (.tmp 1)⟩,
    ⟨(some 7), none, .call 79 [(.tmp 5), (.tmp 6)]⟩,
    ⟨(some 8), none, .bin .geq (.tmp 7) (.con (.int .i64 0))⟩,
    ⟨(some 4), none, .mov (.tmp 8)⟩])
  .ret))
def g55 : Fn := ⟨2, 9, [.tmp 4], b55⟩
/- quiver/topk.First -/
def b56 : AC :=
  (.seq (.reg [⟨(some 4), none, .mov (.con .nilS)⟩,
    ⟨(some 5), none, .mov (.con (.int .i64 0))⟩])
  (.seq (.reg [⟨(some 6), none, .mov (.tmp 1)⟩,
    ⟨(some 7), none, .mov (.tmp 0)⟩,
    ⟨(some 8), none, .lit 1 [(.tmp 7)]⟩,
    ⟨(some 9), none, .call 18 [(.tmp 6), (.tmp 8)]⟩,
    ⟨(some 10), none, .ext (.tmp 9) 0⟩,
    ⟨(some 11), none, .ext (.tmp 9) 1⟩,
    ⟨(some 4), none, .mov (.tmp 10)⟩,
    ⟨(some 5), none, .mov (.tmp 11)⟩])
  .ret))
def g56 : Fn := ⟨2, 12, [.tmp 4, .tmp 5], b56⟩
/- quiver/flat.cells$1 -/
def b57 : AC :=
  (.seq (.reg [⟨(some 6), none, .faddr (.tmp 1) 0⟩,
    ⟨(some 7), none, .load false 1 (.tmp 6)⟩,
    ⟨(some 8), none, .len (.tmp 7)⟩,
    ⟨(some 9), none, .mov (.con (.int .i64 0))⟩])
  (.block 0 (.loop (.seq (.reg [⟨(some 10), none, .bin .lss (.tmp 9) (.tmp 8)⟩])
    (.seq (.cond (.tmp 10)
     .skip
     (.exit 0))
    (.seq (.block 1 (.seq (.reg [⟨(some 11), none, .mov (.tmp 9)⟩,
       ⟨(some 12), none, .iaddr 5 (.tmp 7) (.tmp 9)⟩,
       ⟨(some 13), none, .load true 5 (.tmp 12)⟩,
       ⟨(some 5), none, .alloc (.agg [(.bool false), (.int .u64 0), (.int .u64 0), (.int .u64 0), .nilS])⟩,
       ⟨(some 4), none, .mov (.tmp 11)⟩,
       ⟨none, none, .store 5 (.tmp 5) (.tmp 13)⟩])
     (.seq (.reg [⟨(some 14), none, .faddr (.tmp 5) 0⟩,
       ⟨(some 15), none, .load false 1 (.tmp 14)⟩,
       ⟨(some 16), none, .mov (.tmp 15)⟩,
       ⟨(some 17), (some (16, true)), .load false 1 (.tmp 2)⟩,
       ⟨(some 18), (some (16, true)), .mov (.tmp 4)⟩,
       ⟨(some 19), (some (16, true)), .callv (.tmp 17) [(.tmp 18)]⟩,
       ⟨(some 20), none, .pick (.tmp 16) (.tmp 19) (.con (.bool false))⟩,
       ⟨(some 21), none, .mov (.tmp 20)⟩,
       ⟨(some 22), (some (21, true)), .mov (.tmp 0)⟩,
       ⟨(some 23), (some (21, true)), .load true 5 (.tmp 5)⟩,
       ⟨(some 24), (some (21, true)), .callv (.tmp 22) [(.tmp 23)]⟩,
       ⟨(some 25), (some (21, true)), .un .not (.tmp 24)⟩,
       ⟨(some 26), none, .pick (.tmp 21) (.tmp 25) (.con (.bool false))⟩])
     (.cond (.tmp 26)
      .ret
      .skip))))
    (.reg [⟨(some 27), none, .bin .add (.tmp 9) (.con (.int .i64 1))⟩,
      ⟨(some 9), none, .mov (.tmp 27)⟩])))))))
def g57 : Fn := ⟨3, 28, [], b57⟩
/- quiver/mask.slot -/
def b58 : AC :=
  (.seq (.reg [⟨(some 2), none, .mov (.con (.bool false))⟩])
  (.seq (.reg [⟨(some 3), none, .mov (.tmp 0)⟩,
    ⟨(some 4), none, .bin .geq (.tmp 3) (.con (.int .i64 0))⟩,
    ⟨(some 5), none, .mov (.tmp 4)⟩,
    ⟨(some 6), (some (5, true)), .mov (.tmp 0)⟩,
    ⟨(some 7), (some (5, true)), .bin .lss (.tmp 6) (.con (.int .i64 96))⟩,
    ⟨(some 8), none, .pick (.tmp 5) (.tmp 7) (.con (.bool false))⟩,
    ⟨(some 2), none, .mov (.tmp 8)⟩])
  .ret))
def g58 : Fn := ⟨1, 9, [.tmp 2], b58⟩
/- quiver/mask.and -/
def b59 : AC :=
  (.seq (.reg [⟨(some 2), none, .box (.tmp 0)⟩,
    ⟨(some 3), none, .box (.tmp 1)⟩,
    ⟨(some 4), none, .alloc (.agg [(.int .u64 0), (.int .u64 0)])⟩])
  (.seq (.reg [⟨(some 5), none, .load true 2 (.tmp 2)⟩,
    ⟨(some 6), none, .load true 2 (.tmp 3)⟩,
    ⟨(some 7), none, .call 80 [(.tmp 5), (.tmp 6), (.con (.fn 81 []))]⟩,
    ⟨none, none, .store 2 (.tmp 4) (.tmp 7)⟩])
  .ret))
def g59 : Fn := ⟨2, 8, [.cell 4 true 2], b59⟩
/- quiver/mask.bit -/
def b60 : AC :=
  (.seq (.reg [⟨(some 2), none, .alloc (.agg [(.int .u64 0), (.int .u64 0)])⟩])
  (.seq (.reg [⟨(some 3), none, .alloc (.agg [(.int .u64 0), (.int .u64 0)])⟩])
  (.seq (.reg [⟨(some 4), none, .mov (.tmp 0)⟩,
    ⟨(some 5), none, .bin .quo (.tmp 4) (.con (.int .i64 64))⟩,
    ⟨(some 6), none, .mov (.tmp 0)⟩,
    ⟨(some 7), none, .bin .rem (.tmp 6) (.con (.int .i64 64))⟩,
    ⟨(some 8), none, .bin .shl (.con (.int .u64 1)) (.tmp 7)⟩,
    ⟨(some 9), none, .iaddrA 2 1 (.tmp 3) (.tmp 5)⟩,
    ⟨none, none, .store 1 (.tmp 9) (.tmp 8)⟩])
  (.seq (.reg [⟨(some 10), none, .load true 2 (.tmp 3)⟩,
    ⟨none, none, .store 2 (.tmp 2) (.tmp 10)⟩])
  .ret))))
def g60 : Fn := ⟨1, 11, [.cell 2 true 2], b60⟩
/- quiver/vec.Check$1 -/
def b61 : AC :=
  (.seq (.reg [⟨(some 2), none, .mov (.con (.bool false))⟩])
  (.seq (.reg [⟨(some 3), none, .mov (.tmp 0)⟩,
    ⟨(some 4), none, .bin .lss (.tmp 3) (.con (.int .i32 (-1073741823)))⟩,
    ⟨(some 5), none, .mov (.tmp 4)⟩,
    ⟨(some 6), (some (5, false)), .mov (.tmp 0)⟩,
    ⟨(some 7), (some (5, false)), .bin .gtr (.tmp 6) (.con (.int .i32 1073741823))⟩,
    ⟨(some 8), none, .pick (.tmp 5) (.con (.bool true)) (.tmp 7)⟩,
    ⟨(some 2), none, .mov (.tmp 8)⟩])
  .ret))
def g61 : Fn := ⟨1, 9, [.tmp 2], b61⟩
/- slices.ContainsFunc[[]int32,int32] -/
def b62 : AC :=
  (.seq (.reg [⟨(some 4), none, .mov (.con (.bool false))⟩])
  (.seq (.reg [⟨(some 5), none, .mov (.tmp 0)⟩,
    ⟨(some 6), none, .mov (.tmp 1)⟩,
    ⟨(some 7), none, .call 82 [(.tmp 5), (.tmp 6)]⟩,
    ⟨(some 8), none, .bin .geq (.tmp 7) (.con (.int .i64 0))⟩,
    ⟨(some 4), none, .mov (.tmp 8)⟩])
  .ret))
def g62 : Fn := ⟨2, 9, [.tmp 4], b62⟩
/- quiver/topk.first$1 -/
def b64 : AC :=
  (.seq (.reg [⟨(some 3), none, .box (.tmp 0)⟩,
    ⟨(some 4), none, .mov (.con (.bool false))⟩])
  (.seq (.regd [⟨[⟨⟨(some 5), none, .load false 1 (.tmp 1)⟩, false, false, false, 0, [], none⟩,
    ⟨⟨(some 6), none, .nilck (.tmp 5)⟩, true, false, false, 0, [], none⟩,
    ⟨⟨(some 7), none, .faddr (.tmp 6) 0⟩, true, false, false, 0, [], none⟩,
    ⟨⟨(some 8), none, .load false 1 (.tmp 7)⟩, false, false, false, 0, [], none⟩,
    ⟨⟨(some 9), none, .call 65 [(.tmp 8)]⟩, false, false, false, 0, [], none⟩,
    ⟨⟨(some 10), none, .load false 1 (.tmp 2)⟩, false, false, false, 0, [], none⟩], 0, [⟨(some 11), none, .bin .lss (.tmp 9) (.tmp 10)⟩,
    ⟨(some 12), none, .mov (.tmp 11)⟩]⟩,
   ⟨[⟨⟨(some 13), (some (12, false)), .load true 2 (.tmp 3)⟩, false, false, false, 0, [], none⟩,
    ⟨⟨(some 14), (some (12, false)), .load false 1 (.tmp 1)⟩, false, false, false, 0, [], none⟩,
    ⟨⟨(some 15), (some (12, false)), .nilck (.tmp 14)⟩, true, false, false, 0, [], none⟩,
    ⟨⟨(some 16), (some (12, false)), .faddr (.tmp 15) 0⟩, true, false, false, 0, [], none⟩,
    ⟨⟨(some 17), (some (12, false)), .load false 1 (.tmp 16)⟩, false, false, false, 0, [], none⟩,
    ⟨⟨(some 18), (some (12, false)), .iaddr 2 (.tmp 17) (.con (.int .i64 0))⟩, true, false, false, 0, [], none⟩,
    ⟨⟨(some 19), (some (12, false)), .load true 2 (.tmp 18)⟩, false, false, false, 0, [], none⟩], 0, [⟨(some 20), (some (12, false)), .call 24 [(.tmp 13), (.tmp 19)]⟩,
    ⟨(some 21), (some (12, false)), .bin .lss (.tmp 20) (.con (.int .i64 0))⟩,
    ⟨(some 22), none, .pick (.tmp 12) (.con (.bool true)) (.tmp 21)⟩,
    ⟨(some 4), none, .mov (.tmp 22)⟩]⟩])
  .ret))
def g64 : Fn := ⟨3, 23, [.tmp 4], b64⟩
/- (quiver/topk.hits).Len -/
def b65 : AC :=
  (.seq (.reg [⟨(some 2), none, .mov (.con (.int .i64 0))⟩])
  (.seq (.reg [⟨(some 3), none, .mov (.tmp 0)⟩,
    ⟨(some 4), none, .len (.tmp 3)⟩,
    ⟨(some 2), none, .mov (.tmp 4)⟩])
  .ret))
def g65 : Fn := ⟨1, 5, [.tmp 2], b65⟩
/- quiver/topk.all -/
def b66 : AC :=
  (.seq (.reg [⟨(some 1), none, .box (.tmp 0)⟩,
    ⟨(some 2), none, .mov (.con .nilF)⟩])
  (.seq (.reg [⟨(some 3), none, .mkfn 83 [(.tmp 1)]⟩,
    ⟨(some 2), none, .mov (.tmp 3)⟩])
  .ret))
def g66 : Fn := ⟨1, 4, [.tmp 2], b66⟩
/- container/heap.Push -/
def b67 : AC :=
  (.seq (.reg [⟨(some 4), none, .mov (.tmp 0)⟩,
    ⟨(some 5), none, .mov (.tmp 1)⟩,
    ⟨(some 6), none, .inv (.tmp 4) [(104, 132, none)] [(.tmp 5)]⟩])
  (.reg [⟨(some 7), none, .mov (.tmp 0)⟩,
    ⟨(some 8), none, .mov (.tmp 0)⟩,
    ⟨(some 9), none, .inv (.tmp 8) [(17, 127, none), (104, 65, some (false, 1, 0)), (105, 65, none)] []⟩,
    ⟨(some 10), none, .bin .sub (.tmp 9) (.con (.int .i64 1))⟩,
    ⟨(some 11), none, .call 84 [(.tmp 7), (.tmp 10)]⟩]))
def g67 : Fn := ⟨2, 12, [], b67⟩
/- container/heap.Pop -/
def b68 : AC :=
  (.seq (.reg [⟨(some 2), none, .mov (.con .nilI)⟩])
  (.seq (.reg [⟨(some 4), none, .mov (.tmp 0)⟩,
    ⟨(some 5), none, .inv (.tmp 4) [(17, 127, none), (104, 65, some (false, 1, 0)), (105, 65, none)] []⟩,
    ⟨(some 6), none, .bin .sub (.tmp 5) (.con (.int .i64 1))⟩,
    ⟨(some 3), none, .mov (.tmp 6)⟩])
  (.seq (.reg [⟨(some 7), none, .mov (.tmp 0)⟩,
    ⟨(some 8), none, .mov (.tmp 3)⟩,
    ⟨(some 9), none, .inv (.tmp 7) [(104, 133, some (false, 1, 0)), (105, 133, none)] [(.con (.int .i64 0)), (.tmp 8)]⟩])
  (.seq (.reg [⟨(some 10), none, .mov (.tmp 0)⟩,
    ⟨(some 11), none, .mov (.tmp 3)⟩,
    ⟨(some 12), none, .call 85 [(.tmp 10), (.con (.int .i64 0)), (.tmp 11)]⟩])
  (.seq (.reg [⟨(some 13), none, .mov (.tmp 0)⟩,
    ⟨(some 14), none, .inv (.tmp 13) [(104, 131, none)] []⟩,
    ⟨(some 2), none, .mov (.tmp 14)⟩])
  .ret)))))
def g68 : Fn := ⟨1, 15, [.tmp 2], b68⟩
/- slices.Clone[[]quiver/api.Hit,quiver/api.Hit] -/
def b69 : AC :=
  (.seq (.reg [⟨(some 2), none, .mov (.con .nilS)⟩])
  (.seq (.seq (.reg [⟨(some 3), none, .mov (.tmp 0)⟩,
    ⟨(some 4), none, .eqN false (.tmp 3)⟩])
  (.cond (.tmp 4)
   (.seq (.reg [⟨(some 2), none, .mov (.con .nilS)⟩])
   .ret)
   .skip))
  (.seq (.reg [⟨(some 5), none, .lit 2 []⟩,
    ⟨(some 6), none, .mov (.tmp 0)⟩,
    ⟨(some 7), none, .append 2 16 (.tmp 5) (.tmp 6)⟩,
    ⟨(some 2), none, .mov (.tmp 7)⟩])
  .ret)))
def g69 : Fn := ⟨1, 8, [.tmp 2], b69⟩
/- slices.SortFunc[[]quiver/api.Hit,quiver/api.Hit] -/
def b70 : AC :=
  (.seq (.reg [⟨(some 5), none, .mov (.tmp 0)⟩,
    ⟨(some 6), none, .len (.tmp 5)⟩,
    ⟨(some 4), none, .mov (.tmp 6)⟩])
  (.reg [⟨(some 7), none, .mov (.tmp 0)⟩,
    ⟨(some 8), none, .mov (.tmp 4)⟩,
    ⟨(some 9), none, .mov (.tmp 4)⟩,
    ⟨(some 10), none, .conv .u64 (.tmp 9)⟩,
    ⟨(some 11), none, .call 87 [(.tmp 10)]⟩,
    ⟨(some 12), none, .mov (.tmp 1)⟩,
    ⟨(some 13), none, .call 86 [(.tmp 7), (.con (.int .i64 0)), (.tmp 8), (.tmp 11), (.tmp 12)]⟩]))
def g70 : Fn := ⟨2, 14, [], b70⟩
/- quiver/vec.all$1 -/
def b71 : AC :=
  (.seq (.reg [⟨(some 3), none, .mov (.con (.bool false))⟩])
  (.seq (.reg [⟨(some 4), none, .mov (.tmp 0)⟩,
    ⟨(some 5), none, .len (.tmp 4)⟩,
    ⟨(some 6), none, .load false 1 (.tmp 1)⟩,
    ⟨(some 7), none, .iaddr 1 (.tmp 6) (.con (.int .i64 0))⟩,
    ⟨(some 8), none, .load false 1 (.tmp 7)⟩,
    ⟨(some 9), none, .len (.tmp 8)⟩,
    ⟨(some 10), none, .bin .neq (.tmp 5) (.tmp 9)⟩,
    ⟨(some 3), none, .mov (.tmp 10)⟩])
  .ret))
def g71 : Fn := ⟨2, 11, [.tmp 3], b71⟩
/- slices.ContainsFunc[[][]int32,[]int32] -/
def b72 : AC :=
  (.seq (.reg [⟨(some 4), none, .mov (.con (.bool false))⟩])
  (.seq (.reg [⟨(some 5), none, .mov (.tmp 0)⟩,
    ⟨(some 6), none, .mov (.tmp 1)⟩,
    ⟨(some 7), none, .call 88 [(.tmp 5), (.tmp 6)]⟩,
    ⟨(some 8), none, .bin .geq (.tmp 7) (.con (.int .i64 0))⟩,
    ⟨(some 4), none, .mov (.tmp 8)⟩])
  .ret))
def g72 : Fn := ⟨2, 9, [.tmp 4], b72⟩
/- quiver/vec.both -/
def b73 : AC :=
  (.seq (.reg [⟨(some 2), none, .box (.tmp 0)⟩,
    ⟨(some 3), none, .box (.tmp 1)⟩,
    ⟨(some 4), none, .mov (.con .nilF)⟩])
  (.seq (.reg [⟨(some 5), none, .mkfn 89 [(.tmp 2), (.tmp 3)]⟩,
    ⟨(some 4), none, .mov (.tmp 5)⟩])
  .ret))
def g73 : Fn := ⟨2, 6, [.tmp 4], b73⟩
/- cmp.isNaN[uint64] -/
def b74 : AC :=
  (.seq (.reg [⟨(some 2), none, .mov (.con (.bool false))⟩])
  (.seq (.reg [⟨(some 3), none, .mov (.tmp 0)⟩,
    ⟨(some 4), none, .mov (.tmp 0)⟩,
    ⟨(some 5), none, .bin .neq (.tmp 3) (.tmp 4)⟩,
    ⟨(some 2), none, .mov (.tmp 5)⟩])
  .ret))
def g74 : Fn := ⟨1, 6, [.tmp 2], b74⟩
/- quiver/codec.SameVersion -/
def b77 : AC :=
  (.seq (.reg [⟨(some 2), none, .box (.tmp 0)⟩,
    ⟨(some 3), none, .box (.tmp 1)⟩,
    ⟨(some 4), none, .mov (.con (.bool false))⟩])
  (.seq (.reg [⟨(some 5), none, .faddr (.tmp 2) 0⟩,
    ⟨(some 6), none, .load false 1 (.tmp 5)⟩,
    ⟨(some 7), none, .faddr (.tmp 2) 1⟩,
    ⟨(some 8), none, .load false 1 (.tmp 7)⟩,
    ⟨(some 9), none, .build [(.int .u64 0), (.int .u64 0)] [(0, 1, (.tmp 6)), (1, 1, (.tmp 8))]⟩,
    ⟨(some 10), none, .faddr (.tmp 3) 0⟩,
    ⟨(some 11), none, .load false 1 (.tmp 10)⟩,
    ⟨(some 12), none, .faddr (.tmp 3) 1⟩,
    ⟨(some 13), none, .load false 1 (.tmp 12)⟩,
    ⟨(some 14), none, .build [(.int .u64 0), (.int .u64 0)] [(0, 1, (.tmp 11)), (1, 1, (.tmp 13))]⟩,
    ⟨(some 15), none, .eqA false [.int, .int] (.tmp 9) (.tmp 14)⟩,
    ⟨(some 16), none, .mov (.tmp 15)⟩,
    ⟨(some 17), (some (16, true)), .faddr (.tmp 2) 2⟩,
    ⟨(some 18), (some (16, true)), .load false 1 (.tmp 17)⟩,
    ⟨(some 19), (some (16, true)), .faddr (.tmp 3) 2⟩,
    ⟨(some 20), (some (16, true)), .load false 1 (.tmp 19)⟩,
    ⟨(some 21), (some (16, true)), .call 92 [(.tmp 18), (.tmp 20)]⟩,
    ⟨(some 22), none, .pick (.tmp 16) (.tmp 21) (.con (.bool false))⟩,
    ⟨(some 4), none, .mov (.tmp 22)⟩])
  .ret))
def g77 : Fn := ⟨2, 23, [.tmp 4], b77⟩
/- quiver/codec.CheckVersion -/
def b78 : AC :=
  (.seq (.reg [⟨(some 1), none, .box (.tmp 0)⟩,
    ⟨(some 2), none, .mov (.con (.int .i64 0))⟩])
  (.seq (.reg [⟨(some 4), none, .faddr (.tmp 1) 1⟩,
    ⟨(some 5), none, .load false 1 (.tmp 4)⟩,
    ⟨(some 6), none, .bin .eql (.tmp 5) (.con (.int .u64 0))⟩,
    ⟨(some 7), none, .mov (.tmp 6)⟩,
    ⟨(some 8), (some (7, false)), .faddr (.tmp 1) 1⟩,
    ⟨(some 9), (some (7, false)), .load false 1 (.tmp 8)⟩,
    ⟨(some 10), (some (7, false)), .faddr (.tmp 1) 0⟩,
    ⟨(some 11), (some (7, false)), .load false 1 (.tmp 10)⟩,
    ⟨(some 12), (some (7, false)), .bin .gtr (.tmp 9) (.tmp 11)⟩,
    ⟨(some 13), (some (7, false)), .mov (.tmp 12)⟩,
    ⟨(some 14), (some (13, true)), .faddr (.tmp 1) 1⟩,
    ⟨(some 15), (some (13, true)), .load false 1 (.tmp 14)⟩,
    ⟨(some 16), (some (13, true)), .bin .leq (.tmp 15) (.con (.int .u64 1099511627776))⟩,
    ⟨(some 17), (some (7, false)), .pick (.tmp 13) (.tmp 16) (.con (.bool false))⟩,
    ⟨(some 18), none, .pick (.tmp 7) (.con (.bool true)) (.tmp 17)⟩,
    ⟨(some 3), none, .mov (.tmp 18)⟩])
  (.seq (.seq (.reg [⟨(some 19), none, .faddr (.tmp 1) 2⟩,
    ⟨(some 20), none, .load false 1 (.tmp 19)⟩,
    ⟨(some 21), none, .call 38 [(.tmp 20)]⟩,
    ⟨(some 22), none, .bin .neq (.tmp 21) (.con (.int .i64 0))⟩,
    ⟨(some 23), none, .mov (.tmp 22)⟩,
    ⟨(some 24), (some (23, false)), .faddr (.tmp 1) 0⟩,
    ⟨(some 25), (some (23, false)), .load false 1 (.tmp 24)⟩,
    ⟨(some 26), (some (23, false)), .bin .lss (.tmp 25) (.con (.int .u64 1))⟩,
    ⟨(some 27), none, .pick (.tmp 23) (.con (.bool true)) (.tmp 26)⟩,
    ⟨(some 28), none, .mov (.tmp 27)⟩,
    ⟨(some 29), (some (28, false)), .faddr (.tmp 1) 0⟩,
    ⟨(some 30), (some (28, false)), .load false 1 (.tmp 29)⟩,
    ⟨(some 31), (some (28, false)), .bin .gtr (.tmp 30) (.con (.int .u64 1099511627776))⟩,
    ⟨(some 32), none, .pick (.tmp 28) (.con (.bool true)) (.tmp 31)⟩,
    ⟨(some 33), none, .mov (.tmp 32)⟩,
    ⟨(some 34), (some (33, false)), .mov (.tmp 3)⟩,
    ⟨(some 35), (some (33, false)), .un .not (.tmp 34)⟩,
    ⟨(some 36), none, .pick (.tmp 33) (.con (.bool true)) (.tmp 35)⟩])
  (.cond (.tmp 36)
   (.seq (.reg [⟨(some 2), none, .mov (.con (.int .i64 171))⟩])
   .ret)
   .skip))
  (.seq (.reg [⟨(some 2), none, .mov (.con (.int .i64 0))⟩])
  .ret))))
def g78 : Fn := ⟨1, 37, [.tmp 2], b78⟩
/- slices.IndexFunc[[]quiver/api.Cell,quiver/api.Cell] -/
def b79 : AC :=
  (.seq (.reg [⟨(some 4), none, .mov (.con (.int .i64 0))⟩])
  (.seq (.seq (.reg [⟨(some 6), none, .mov (.tmp 0)⟩,
    ⟨(some 7), none, .len (.tmp 6)⟩,
    ⟨(some 8), none, .mov (.con (.int .i64 0))⟩])
  (.block 0 (.loop (.seq (.reg [⟨(some 9), none, .bin .lss (.tmp 8) (.tmp 7)⟩])
    (.seq (.cond (.tmp 9)
     .skip
     (.exit 0))
    (.seq (.block 1 (.seq (.reg [⟨(some 10), none, .mov (.tmp 8)⟩,
       ⟨(some 5), none, .mov (.tmp 10)⟩])
     (.seq (.reg [⟨(some 11), none, .mov (.tmp 1)⟩,
       ⟨(some 12), none, .mov (.tmp 0)⟩,
       ⟨(some 13), none, .mov (.tmp 5)⟩,
       ⟨(some 14), none, .iaddr 5 (.tmp 12) (.tmp 13)⟩,
       ⟨(some 15), none, .load true 5 (.tmp 14)⟩,
       ⟨(some 16), none, .callv (.tmp 11) [(.tmp 15)]⟩])
     (.cond (.tmp 16)
      (.seq (.reg [⟨(some 17), none, .mov (.tmp 5)⟩,
        ⟨(some 4), none, .mov (.tmp 17)⟩])
      .ret)
      .skip))))
    (.reg [⟨(some 18), none, .bin .add (.tmp 8) (.con (.int .i64 1))⟩,
      ⟨(some 8), none, .mov (.tmp 18)⟩])))))))
  (.seq (.reg [⟨(some 4), none, .mov (.con (.int .i64 (-1)))⟩])
  .ret)))
def g79 : Fn := ⟨2, 19, [.tmp 4], b79⟩
/- quiver/mask.each -/
def b80 : AC :=
  (.seq (.reg [⟨(some 3), none, .box (.tmp 0)⟩,
    ⟨(some 4), none, .box (.tmp 1)⟩,
    ⟨(some 6), none, .alloc (.agg [(.int .u64 0), (.int .u64 0)])⟩])
  (.seq (.seq (.reg [⟨(some 8), none, .mov (.con (.int .i64 0))⟩])
  (.block 0 (.loop (.seq (.reg [⟨(some 9), none, .bin .lss (.tmp 8) (.con (.int .i64 2))⟩])
    (.seq (.cond (.tmp 9)
     .skip
     (.exit 0))
    (.seq (.block 1 (.seq (.reg [⟨(some 10), none, .mov (.tmp 8)⟩,
       ⟨(some 7), none, .mov (.tmp 10)⟩])
     (.regd [⟨[⟨⟨(some 11), none, .mov (.tmp 7)⟩, true, false, false, 0, [], none⟩,
       ⟨⟨(some 12), none, .mov (.tmp 2)⟩, true, false, false, 0, [], none⟩,
       ⟨⟨(some 13), none, .mov (.tmp 7)⟩, true, false, false, 0, [], none⟩,
       ⟨⟨(some 14), none, .iaddrA 2 1 (.tmp 3) (.tmp 13)⟩, true, false, false, 0, [], none⟩,
       ⟨⟨(some 15), none, .load false 1 (.tmp 14)⟩, false, false, false, 0, [], none⟩,
       ⟨⟨(some 16), none, .mov (.tmp 7)⟩, true, false, false, 0, [], none⟩,
       ⟨⟨(some 17), none, .iaddrA 2 1 (.tmp 4) (.tmp 16)⟩, true, false, false, 0, [], none⟩,
       ⟨⟨(some 18), none, .load false 1 (.tmp 17)⟩, false, false, false, 0, [], none⟩,
       ⟨⟨(some 19), none, .callv (.tmp 12) [(.tmp 15), (.tmp 18)]⟩, false, false, false, 0, [], none⟩], 0, [⟨(some 20), none, .iaddrA 2 1 (.tmp 3) (.tmp 11)⟩,
       ⟨none, none, .store 1 (.tmp 20) (.tmp 19)⟩]⟩])))
    (.reg [⟨(some 21), none, .bin .add (.tmp 8) (.con (.int .i64 1))⟩,
      ⟨(some 8), none, .mov (.tmp 21)⟩])))))))
  (.seq (.reg [⟨(some 22), none, .load true 2 (.tmp 3)⟩,
    ⟨none, none, .store 2 (.tmp 6) (.tmp 22)⟩])
  .ret)))
def g80 : Fn := ⟨3, 23, [.cell 6 true 2], b80⟩
/- quiver/mask.and$1 -/
def b81 : AC :=
  (.seq (.reg [⟨(some 4), none, .mov (.con (.int .u64 0))⟩])
  (.seq (.reg [⟨(some 5), none, .mov (.tmp 0)⟩,
    ⟨(some 6), none, .mov (.tmp 1)⟩,
    ⟨(some 7), none, .bin .and (.tmp 5) (.tmp 6)⟩,
    ⟨(some 4), none, .mov (.tmp 7)⟩])
  .ret))
def g81 : Fn := ⟨2, 8, [.tmp 4], b81⟩
/- slices.IndexFunc[[]int32,int32] -/
def b82 : AC :=
  (.seq (.reg [⟨(some 4), none, .mov (.con (.int .i64 0))⟩])
  (.seq (.seq (.reg [⟨(some 6), none, .mov (.tmp 0)⟩,
    ⟨(some 7), none, .len (.tmp 6)⟩,
    ⟨(some 8), none, .mov (.con (.int .i64 0))⟩])
  (.block 0 (.loop (.seq (.reg [⟨(some 9), none, .bin .lss (.tmp 8) (.tmp 7)⟩])
    (.seq (.cond (.tmp 9)
     .skip
     (.exit 0))
    (.seq (.block 1 (.seq (.reg [⟨(some 10), none, .mov (.tmp 8)⟩,
       ⟨(some 5), none, .mov (.tmp 10)⟩])
     (.seq (.reg [⟨(some 11), none, .mov (.tmp 1)⟩,
       ⟨(some 12), none, .mov (.tmp 0)⟩,
       ⟨(some 13), none, .mov (.tmp 5)⟩,
       ⟨(some 14), none, .iaddr 1 (.tmp 12) (.tmp 13)⟩,
       ⟨(some 15), none, .load false 1 (.tmp 14)⟩,
       ⟨(some 16), none, .callv (.tmp 11) [(.tmp 15)]⟩])
     (.cond (.tmp 16)
      (.seq (.reg [⟨(some 17), none, .mov (.tmp 5)⟩,
        ⟨(some 4), none, .mov (.tmp 17)⟩])
      .ret)
      .skip))))
    (.reg [⟨(some 18), none, .bin .add (.tmp 8) (.con (.int .i64 1))⟩,
      ⟨(some 8), none, .mov (.tmp 18)⟩])))))))
  (.seq (.reg [⟨(some 4), none, .mov (.con (.int .i64 (-1)))⟩])
  .ret)))
def g82 : Fn := ⟨2, 19, [.tmp 4], b82⟩
/- quiver/topk.all$1 -/
def b83 : AC :=
  (.seq (.reg [⟨(some 7), none, .load false 1 (.tmp 1)⟩,
    ⟨(some 8), none, .len (.tmp 7)⟩,
    ⟨(some 9), none, .mov (.con (.int .i64 0))⟩])
  (.block 0 (.loop (.seq (.reg [⟨(some 10), none, .bin .lss (.tmp 9) (.tmp 8)⟩])
    (.seq (.cond (.tmp 10)
     .skip
     (.exit 0))
    (.seq (.block 1 (.seq (.reg [⟨(some 11), none, .iaddr 1 (.tmp 7) (.tmp 9)⟩,
       ⟨(some 12), none, .load false 1 (.tmp 11)⟩,
       ⟨(some 4), none, .mov (.tmp 12)⟩])
     (.seq (.reg [⟨(some 13), none, .mov (.tmp 4)⟩,
       ⟨(some 14), none, .len (.tmp 13)⟩,
       ⟨(some 15), none, .mov (.con (.int .i64 0))⟩])
     (.block 2 (.loop (.seq (.reg [⟨(some 16), none, .bin .lss (.tmp 15) (.tmp 14)⟩])
       (.seq (.cond (.tmp 16)
        .skip
        (.exit 2))
       (.seq (.block 3 (.seq (.reg [⟨(some 17), none, .iaddr 2 (.tmp 13) (.tmp 15)⟩,
          ⟨(some 18), none, .load true 2 (.tmp 17)⟩,
          ⟨(some 6), none, .alloc (.agg [(.int .u64 0), (.int .u64 0)])⟩,
          ⟨none, none, .store 2 (.tmp 6) (.tmp 18)⟩])
        (.seq (.reg [⟨(some 19), none, .mov (.tmp 0)⟩,
          ⟨(some 20), none, .load true 2 (.tmp 6)⟩,
          ⟨(some 21), none, .callv (.tmp 19) [(.tmp 20)]⟩,
          ⟨(some 22), none, .un .not (.tmp 21)⟩])
        (.cond (.tmp 22)
         .ret
         .skip))))
       (.reg [⟨(some 23), none, .bin .add (.tmp 15) (.con (.int .i64 1))⟩,
         ⟨(some 15), none, .mov (.tmp 23)⟩])))))))))
    (.reg [⟨(some 24), none, .bin .add (.tmp 9) (.con (.int .i64 1))⟩,
      ⟨(some 9), none, .mov (.tmp 24)⟩])))))))
def g83 : Fn := ⟨2, 25, [], b83⟩
/- container/heap.up -/
def b84 : AC :=
  (.block 0 (.loop (.block 1 (.seq (.reg [⟨(some 5), none, .mov (.tmp 1)⟩,
       ⟨(some 6), none, .bin .sub (.tmp 5) (.con (.int .i64 1))⟩,
       ⟨(some 7), none, .bin .quo (.tmp 6) (.con (.int .i64 2))⟩,
       ⟨(some 4), none, .mov (.tmp 7)⟩])
     (.seq (.seq (.reg [⟨(some 8), none, .mov (.tmp 4)⟩,
       ⟨(some 9), none, .mov (.tmp 1)⟩,
       ⟨(some 10), none, .bin .eql (.tmp 8) (.tmp 9)⟩,
       ⟨(some 11), none, .mov (.tmp 10)⟩,
       ⟨(some 12), (some (11, false)), .mov (.tmp 0)⟩,
       ⟨(some 13), (some (11, false)), .mov (.tmp 1)⟩,
       ⟨(some 14), (some (11, false)), .mov (.tmp 4)⟩,
       ⟨(some 15), (some (11, false)), .inv (.tmp 12) [(104, 130, none)] [(.tmp 13), (.tmp 14)]⟩,
       ⟨(some 16), (some (11, false)), .un .not (.tmp 15)⟩,
       ⟨(some 17), none, .pick (.tmp 11) (.con (.bool true)) (.tmp 16)⟩])
     (.cond (.tmp 17)
      (.exit 0)
      .skip))
     (.seq (.reg [⟨(some 18), none, .mov (.tmp 0)⟩,
       ⟨(some 19), none, .mov (.tmp 4)⟩,
       ⟨(some 20), none, .mov (.tmp 1)⟩,
       ⟨(some 21), none, .inv (.tmp 18) [(104, 133, some (false, 1, 0)), (105, 133, none)] [(.tmp 19), (.tmp 20)]⟩])
     (.reg [⟨(some 22), none, .mov (.tmp 4)⟩,
       ⟨(some 1), none, .mov (.tmp 22)⟩])))))))
def g84 : Fn := ⟨2, 23, [], b84⟩
/- container/heap.down -/
def b85 : AC :=
  (.seq (.reg [⟨(some 6), none, .mov (.con (.bool false))⟩])
  (.seq (.reg [⟨(some 11), none, .mov (.tmp 1)⟩,
    ⟨(some 7), none, .mov (.tmp 11)⟩])
  (.seq (.block 0 (.loop (.block 1 (.seq (.reg [⟨(some 12), none, .mov (.tmp 7)⟩,
       ⟨(some 13), none, .bin .mul (.con (.int .i64 2)) (.tmp 12)⟩,
       ⟨(some 14), none, .bin .add (.tmp 13) (.con (.int .i64 1))⟩,
       ⟨(some 8), none, .mov (.tmp 14)⟩])
     (.seq (.seq (.reg [⟨(some 15), none, .mov (.tmp 8)⟩,
       ⟨(some 16), none, .mov (.tmp 2)⟩,
       ⟨(some 17), none, .bin .geq (.tmp 15) (.tmp 16)⟩,
       ⟨(some 18), none, .mov (.tmp 17)⟩,
       ⟨(some 19), (some (18, false)), .mov (.tmp 8)⟩,
       ⟨(some 20), (some (18, false)), .bin .lss (.tmp 19) (.con (.int .i64 0))⟩,
       ⟨(some 21), none, .pick (.tmp 18) (.con (.bool true)) (.tmp 20)⟩])
     (.cond (.tmp 21)
      (.exit 0)
      .skip))
     (.seq (.reg [⟨(some 22), none, .mov (.tmp 8)⟩,
       ⟨(some 9), none, .mov (.tmp 22)⟩])
     (.seq (.seq (.reg [⟨(some 23), none, .mov (.tmp 8)⟩,
       ⟨(some 24), none, .bin .add (.tmp 23) (.con (.int .i64 1))⟩,
       ⟨(some 10), none, .mov (.tmp 24)⟩])
     (.seq (.reg [⟨(some 25), none, .mov (.tmp 10)⟩,
       ⟨(some 26), none, .mov (.tmp 2)⟩,
       ⟨(some 27), none, .bin .lss (.tmp 25) (.tmp 26)⟩,
       ⟨(some 28), none, .mov (.tmp 27)⟩,
       ⟨(some 29), (some (28, true)), .mov (.tmp 0)⟩,
       ⟨(some 30), (some (28, true)), .mov (.tmp 10)⟩,
       ⟨(some 31), (some (28, true)), .mov (.tmp 8)⟩,
       ⟨(some 32), (some (28, true)), .inv (.tmp 29) [(104, 130, none)] [(.tmp 30), (.tmp 31)]⟩,
       ⟨(some 33), none, .pick (.tmp 28) (.tmp 32) (.con (.bool false))⟩])
     (.cond (.tmp 33)
      (.reg [⟨(some 34), none, .mov (.tmp 10)⟩,
        ⟨(some 9), none, .mov (.tmp 34)⟩])
      .skip)))
     (.seq (.seq (.reg [⟨(some 35), none, .mov (.tmp 0)⟩,
       ⟨(some 36), none, .mov (.tmp 9)⟩,
       ⟨(some 37), none, .mov (.tmp 7)⟩,
       ⟨(some 38), none, .inv (.tmp 35) [(104, 130, none)] [(.tmp 36), (.tmp 37)]⟩,
       ⟨(some 39), none, .un .not (.tmp 38)⟩])
     (.cond (.tmp 39)
      (.exit 0)
      .skip))
     (.seq (.reg [⟨(some 40), none, .mov (.tmp 0)⟩,
       ⟨(some 41), none, .mov (.tmp 7)⟩,
       ⟨(some 42), none, .mov (.tmp 9)⟩,
       ⟨(some 43), none, .inv (.tmp 40) [(104, 133, some (false, 1, 0)), (105, 133, none)] [(.tmp 41), (.tmp 42)]⟩])
     (.reg [⟨(some 44), none, .mov (.tmp 9)⟩,
       ⟨(some 7), none, .mov (.tmp 44)⟩]))))))))))
  (.seq (.reg [⟨(some 45), none, .mov (.tmp 7)⟩,
    ⟨(some 46), none, .mov (.tmp 1)⟩,
    ⟨(some 47), none, .bin .gtr (.tmp 45) (.tmp 46)⟩,
    ⟨(some 6), none, .mov (.tmp 47)⟩])
  .ret))))
def g85 : Fn := ⟨3, 48, [.tmp 6], b85⟩
/- slices.pdqsortCmpFunc[quiver/api.Hit] -/
def b86 : AC :=
  (.seq (.reg [⟨(some 10), none, .mov (.con (.bool true))⟩])
  (.seq (.reg [⟨(some 11), none, .mov (.con (.bool true))⟩])
  (.block 0 (.loop (.block 1 (.seq (.reg [⟨(some 21), none, .mov (.tmp 2)⟩,
       ⟨(some 22), none, .mov (.tmp 1)⟩,
       ⟨(some 23), none, .bin .sub (.tmp 21) (.tmp 22)⟩,
       ⟨(some 12), none, .mov (.tmp 23)⟩])
     (.seq (.seq (.reg [⟨(some 24), none, .mov (.tmp 12)⟩,
       ⟨(some 25), none, .bin .leq (.tmp 24) (.con (.int .i64 12))⟩])
     (.cond (.tmp 25)
      (.seq (.reg [⟨(some 26), none, .mov (.tmp 0)⟩,
        ⟨(some 27), none, .mov (.tmp 1)⟩,
        ⟨(some 28), none, .mov (.tmp 2)⟩,
        ⟨(some 29), none, .mov (.tmp 4)⟩,
        ⟨(some 30), none, .call 93 [(.tmp 26), (.tmp 27), (.tmp 28), (.tmp 29)]⟩])
      .ret)
      .skip))
     (.seq (.seq (.reg [⟨(some 31), none, .mov (.tmp 3)⟩,
       ⟨(some 32), none, .bin .eql (.tmp 31) (.con (.int .i64 0))⟩])
     (.cond (.tmp 32)
      (.seq (.reg [⟨(some 33), none, .mov (.tmp 0)⟩,
        ⟨(some 34), none, .mov (.tmp 1)⟩,
        ⟨(some 35), none, .mov (.tmp 2)⟩,
        ⟨(some 36), none, .mov (.tmp 4)⟩,
        ⟨(some 37), none, .call 94 [(.tmp 33), (.tmp 34), (.tmp 35), (.tmp 36)]⟩])
      .ret)
      .skip))
     (.seq (.seq (.reg [⟨(some 38), none, .mov (.tmp 10)⟩,
       ⟨(some 39), none, .un .not (.tmp 38)⟩])
     (.cond (.tmp 39)
      (.seq (.reg [⟨(some 40), none, .mov (.tmp 0)⟩,
        ⟨(some 41), none, .mov (.tmp 1)⟩,
        ⟨(some 42), none, .mov (.tmp 2)⟩,
        ⟨(some 43), none, .mov (.tmp 4)⟩,
        ⟨(some 44), none, .call 95 [(.tmp 40), (.tmp 41), (.tmp 42), (.tmp 43)]⟩])
      (.reg [⟨(some 45), none, .mov (.tmp 3)⟩,
        ⟨(some 46), none, .bin .sub (.tmp 45) (.con (.int .i64 1))⟩,
        ⟨(some 3), none, .mov (.tmp 46)⟩]))
      .skip))
     (.seq (.reg [⟨(some 48), none, .mov (.tmp 0)⟩,
       ⟨(some 49), none, .mov (.tmp 1)⟩,
       ⟨(some 50), none, .mov (.tmp 2)⟩,
       ⟨(some 51), none, .mov (.tmp 4)⟩,
       ⟨(some 52), none, .call 96 [(.tmp 48), (.tmp 49), (.tmp 50), (.tmp 51)]⟩,
       ⟨(some 47), none, .mov (.tmp 52)⟩,
       ⟨(some 53), none, .ext (.tmp 47) 0⟩,
       ⟨(some 54), none, .ext (.tmp 47) 1⟩,
       ⟨(some 13), none, .mov (.tmp 53)⟩,
       ⟨(some 14), none, .mov (.tmp 54)⟩])
     (.seq (.seq (.reg [⟨(some 55), none, .mov (.tmp 14)⟩,
       ⟨(some 56), none, .bin .eql (.tmp 55) (.con (.int .i64 2))⟩])
     (.cond (.tmp 56)
      (.seq (.reg [⟨(some 57), none, .mov (.tmp 0)⟩,
        ⟨(some 58), none, .mov (.tmp 1)⟩,
        ⟨(some 59), none, .mov (.tmp 2)⟩,
        ⟨(some 60), none, .mov (.tmp 4)⟩,
        ⟨(some 61), none, .call 97 [(.tmp 57), (.tmp 58), (.tmp 59), (.tmp 60)]⟩])
      (.seq (.reg [⟨(some 62), none, .mov (.tmp 2)⟩,
        ⟨(some 63), none, .bin .sub (.tmp 62) (.con (.int .i64 1))⟩,
        ⟨(some 64), none, .mov (.tmp 13)⟩,
        ⟨(some 65), none, .mov (.tmp 1)⟩,
        ⟨(some 66), none, .bin .sub (.tmp 64) (.tmp 65)⟩,
        ⟨(some 67), none, .bin .sub (.tmp 63) (.tmp 66)⟩,
        ⟨(some 13), none, .mov (.tmp 67)⟩])
      (.reg [⟨(some 14), none, .mov (.con (.int .i64 1))⟩])))
      .skip))
     (.seq (.seq (.reg [⟨(some 68), none, .mov (.tmp 10)⟩,
       ⟨(some 69), none, .mov (.tmp 68)⟩,
       ⟨(some 70), (some (69, true)), .mov (.tmp 11)⟩,
       ⟨(some 71), none, .pick (.tmp 69) (.tmp 70) (.con (.bool false))⟩,
       ⟨(some 72), none, .mov (.tmp 71)⟩,
       ⟨(some 73), (some (72, true)), .mov (.tmp 14)⟩,
       ⟨(some 74), (some (72, true)), .bin .eql (.tmp 73) (.con (.int .i64 1))⟩,
       ⟨(some 75), none, .pick (.tmp 72) (.tmp 74) (.con (.bool false))⟩])
     (.cond (.tmp 75)
      (.seq (.reg [⟨(some 76), none, .mov (.tmp 0)⟩,
        ⟨(some 77), none, .mov (.tmp 1)⟩,
        ⟨(some 78), none, .mov (.tmp 2)⟩,
        ⟨(some 79), none, .mov (.tmp 4)⟩,
        ⟨(some 80), none, .call 98 [(.tmp 76), (.tmp 77), (.tmp 78), (.tmp 79)]⟩])
      (.cond (.tmp 80)
       .ret
       .skip))
      .skip))
     (.seq (.seq (.regd [⟨[], 0, [⟨(some 81), none, .mov (.tmp 1)⟩,
       ⟨(some 82), none, .bin .gtr (.tmp 81) (.con (.int .i64 0))⟩,
       ⟨(some 83), none, .mov (.tmp 82)⟩]⟩,
      ⟨[⟨⟨(some 84), (some (83, true)), .mov (.tmp 4)⟩, true, false, false, 0, [], none⟩,
       ⟨⟨(some 85), (some (83, true)), .mov (.tmp 0)⟩, true, false, false, 0, [], none⟩,
       ⟨⟨(some 86), (some (83, true)), .mov (.tmp 1)⟩, true, false, false, 0, [], none⟩,
       ⟨⟨(some 87), (some (83, true)), .bin .sub (.tmp 86) (.con (.int .i64 1))⟩, true, false, false, 0, [], none⟩,
       ⟨⟨(some 88), (some (83, true)), .iaddr 2 (.tmp 85) (.tmp 87)⟩, true, false, false, 0, [], none⟩,
       ⟨⟨(some 89), (some (83, true)), .load true 2 (.tmp 88)⟩, false, false, false, 0, [], none⟩,
       ⟨⟨(some 90), (some (83, true)), .mov (.tmp 0)⟩, true, false, false, 0, [], none⟩,
       ⟨⟨(some 91), (some (83, true)), .mov (.tmp 13)⟩, true, false, false, 0, [], none⟩,
       ⟨⟨(some 92), (some (83, true)), .iaddr 2 (.tmp 90) (.tmp 91)⟩, true, false, false, 0, [], none⟩,
       ⟨⟨(some 93), (some (83, true)), .load true 2 (.tmp 92)⟩, false, false, false, 0, [], none⟩], 0, [⟨(some 94), (some (83, true)), .callv (.tmp 84) [(.tmp 89), (.tmp 93)]⟩,
       ⟨(some 95), (some (83, true)), .bin .lss (.tmp 94) (.con (.int .i64 0))⟩,
       ⟨(some 96), (some (83, true)), .un .not (.tmp 95)⟩,
       ⟨(some 97), none, .pick (.tmp 83) (.tmp 96) (.con (.bool false))⟩]⟩])
     (.cond (.tmp 97)
      (.seq (.reg [⟨(some 98), none, .mov (.tmp 0)⟩,
        ⟨(some 99), none, .mov (.tmp 1)⟩,
        ⟨(some 100), none, .mov (.tmp 2)⟩,
        ⟨(some 101), none, .mov (.tmp 13)⟩,
        ⟨(some 102), none, .mov (.tmp 4)⟩,
        ⟨(some 103), none, .call 99 [(.tmp 98), (.tmp 99), (.tmp 100), (.tmp 101), (.tmp 102)]⟩,
        ⟨(some 15), none, .mov (.tmp 103)⟩])
      (.seq (.reg [⟨(some 104), none, .mov (.tmp 15)⟩,
        ⟨(some 1), none, .mov (.tmp 104)⟩])
      (.exit 1)))
      .skip))
     (.seq (.reg [⟨(some 106), none, .mov (.tmp 0)⟩,
       ⟨(some 107), none, .mov (.tmp 1)⟩,
       ⟨(some 108), none, .mov (.tmp 2)⟩,
       ⟨(some 109), none, .mov (.tmp 13)⟩,
       ⟨(some 110), none, .mov (.tmp 4)⟩,
       ⟨(some 111), none, .call 100 [(.tmp 106), (.tmp 107), (.tmp 108), (.tmp 109), (.tmp 110)]⟩,
       ⟨(some 105), none, .mov (.tmp 111)⟩,
       ⟨(some 112), none, .ext (.tmp 105) 0⟩,
       ⟨(some 113), none, .ext (.tmp 105) 1⟩,
       ⟨(some 16), none, .mov (.tmp 112)⟩,
       ⟨(some 17), none, .mov (.tmp 113)⟩])
     (.seq (.reg [⟨(some 114), none, .mov (.tmp 17)⟩,
       ⟨(some 11), none, .mov (.tmp 114)⟩])
     (.seq (.reg [⟨(some 115), none, .mov (.tmp 16)⟩,
       ⟨(some 116), none, .mov (.tmp 1)⟩,
       ⟨(some 117), none, .bin .sub (.tmp 115) (.tmp 116)⟩,
       ⟨(some 118), none, .mov (.tmp 2)⟩,
       ⟨(some 119), none, .mov (.tmp 16)⟩,
       ⟨(some 120), none, .bin .sub (.tmp 118) (.tmp 119)⟩,
       ⟨(some 18), none, .mov (.tmp 117)⟩,
       ⟨(some 19), none, .mov (.tmp 120)⟩])
     (.seq (.reg [⟨(some 121), none, .mov (.tmp 12)⟩,
       ⟨(some 122), none, .bin .quo (.tmp 121) (.con (.int .i64 8))⟩,
       ⟨(some 20), none, .mov (.tmp 122)⟩])
     (.seq (.reg [⟨(some 123), none, .mov (.tmp 18)⟩,
       ⟨(some 124), none, .mov (.tmp 19)⟩,
       ⟨(some 125), none, .bin .lss (.tmp 123) (.tmp 124)⟩])
     (.cond (.tmp 125)
      (.seq (.reg [⟨(some 126), none, .mov (.tmp 18)⟩,
        ⟨(some 127), none, .mov (.tmp 20)⟩,
        ⟨(some 128), none, .bin .geq (.tmp 126) (.tmp 127)⟩,
        ⟨(some 10), none, .mov (.tmp 128)⟩])
      (.seq (.reg [⟨(some 129), none, .mov (.tmp 0)⟩,
        ⟨(some 130), none, .mov (.tmp 1)⟩,
        ⟨(some 131), none, .mov (.tmp 16)⟩,
        ⟨(some 132), none, .mov (.tmp 3)⟩,
        ⟨(some 133), none, .mov (.tmp 4)⟩,
        ⟨(some 134), none, .call 86 [(.tmp 129), (.tmp 130), (.tmp 131), (.tmp 132), (.tmp 133)]⟩])
      (.reg [⟨(some 135), none, .mov (.tmp 16)⟩,
        ⟨(some 136), none, .bin .add (.tmp 135) (.con (.int .i64 1))⟩,
        ⟨(some 1), none, .mov (.tmp 136)⟩])))
      (.seq (.reg [⟨(some 137), none, .mov (.tmp 19)⟩,
        ⟨(some 138), none, .mov (.tmp 20)⟩,
        ⟨(some 139), none, .bin .geq (.tmp 137) (.tmp 138)⟩,
        ⟨(some 10), none, .mov (.tmp 139)⟩])
      (.seq (.reg [⟨(some 140), none, .mov (.tmp 0)⟩,
        ⟨(some 141), none, .mov (.tmp 16)⟩,
        ⟨(some 142), none, .bin .add (.tmp 141) (.con (.int .i64 1))⟩,
        ⟨(some 143), none, .mov (.tmp 2)⟩,
        ⟨(some 144), none, .mov (.tmp 3)⟩,
        ⟨(some 145), none, .mov (.tmp 4)⟩,
        ⟨(some 146), none, .call 86 [(.tmp 140), (.tmp 142), (.tmp 143), (.tmp 144), (.tmp 145)]⟩])
      (.reg [⟨(some 147), none, .mov (.tmp 16)⟩,
        ⟨(some 2), none, .mov (.tmp 147)⟩]))))))))))))))))))))))
def g86 : Fn := ⟨5, 148, [], b86⟩
/- math/bits.Len -/
def b87 : AC :=
  (.seq (.reg [⟨(some 2), none, .mov (.con (.int .i64 0))⟩])
  (.seq (.cond (.con (.bool false))
   (.seq (.reg [⟨(some 3), none, .mov (.tmp 0)⟩,
     ⟨(some 4), none, .conv .u32 (.tmp 3)⟩,
     ⟨(some 5), none, .call 101 [(.tmp 4)]⟩,
     ⟨(some 2), none, .mov (.tmp 5)⟩])
   .ret)
   .skip)
  (.seq (.reg [⟨(some 6), none, .mov (.tmp 0)⟩,
    ⟨(some 7), none, .call 102 [(.tmp 6)]⟩,
    ⟨(some 2), none, .mov (.tmp 7)⟩])
  .ret)))
def g87 : Fn := ⟨1, 8, [.tmp 2], b87⟩
/- slices.IndexFunc[[][]int32,[]int32] -/
def b88 : AC :=
  (.seq (.reg [⟨(some 4), none, .mov (.con (.int .i64 0))⟩])
  (.seq (.seq (.reg [⟨(some 6), none, .mov (.tmp 0)⟩,
    ⟨(some 7), none, .len (.tmp 6)⟩,
    ⟨(some 8), none, .mov (.con (.int .i64 0))⟩])
  (.block 0 (.loop (.seq (.reg [⟨(some 9), none, .bin .lss (.tmp 8) (.tmp 7)⟩])
    (.seq (.cond (.tmp 9)
     .skip
     (.exit 0))
    (.seq (.block 1 (.seq (.reg [⟨(some 10), none, .mov (.tmp 8)⟩,
       ⟨(some 5), none, .mov (.tmp 10)⟩])
     (.seq (.reg [⟨(some 11), none, .mov (.tmp 1)⟩,
       ⟨(some 12), none, .mov (.tmp 0)⟩,
       ⟨(some 13), none, .mov (.tmp 5)⟩,
       ⟨(some 14), none, .iaddr 1 (.tmp 12) (.tmp 13)⟩,
       ⟨(some 15), none, .load false 1 (.tmp 14)⟩,
       ⟨(some 16), none, .callv (.tmp 11) [(.tmp 15)]⟩])
     (.cond (.tmp 16)
      (.seq (.reg [⟨(some 17), none, .mov (.tmp 5)⟩,
        ⟨(some 4), none, .mov (.tmp 17)⟩])
      .ret)
      .skip))))
    (.reg [⟨(some 18), none, .bin .add (.tmp 8) (.con (.int .i64 1))⟩,
      ⟨(some 8), none, .mov (.tmp 18)⟩])))))))
  (.seq (.reg [⟨(some 4), none, .mov (.con (.int .i64 (-1)))⟩])
  .ret)))
def g88 : Fn := ⟨2, 19, [.tmp 4], b88⟩
/- quiver/vec.both$1 -/
def b89 : AC :=
  (.seq (.reg [⟨(some 6), none, .load false 1 (.tmp 1)⟩,
    ⟨(some 7), none, .len (.tmp 6)⟩,
    ⟨(some 8), none, .mov (.con (.int .i64 0))⟩])
  (.block 0 (.loop (.seq (.reg [⟨(some 9), none, .bin .lss (.tmp 8) (.tmp 7)⟩])
    (.seq (.cond (.tmp 9)
     .skip
     (.exit 0))
    (.seq (.block 1 (.seq (.reg [⟨(some 10), none, .mov (.tmp 8)⟩,
       ⟨(some 11), none, .iaddr 1 (.tmp 6) (.tmp 8)⟩,
       ⟨(some 12), none, .load false 1 (.tmp 11)⟩,
       ⟨(some 4), none, .mov (.tmp 10)⟩,
       ⟨(some 5), none, .mov (.tmp 12)⟩])
     (.seq (.reg [⟨(some 13), none, .mov (.tmp 0)⟩,
       ⟨(some 14), none, .mov (.tmp 5)⟩,
       ⟨(some 15), none, .conv .i64 (.tmp 14)⟩,
       ⟨(some 16), none, .load false 1 (.tmp 2)⟩,
       ⟨(some 17), none, .mov (.tmp 4)⟩,
       ⟨(some 18), none, .iaddr 1 (.tmp 16) (.tmp 17)⟩,
       ⟨(some 19), none, .load false 1 (.tmp 18)⟩,
       ⟨(some 20), none, .conv .i64 (.tmp 19)⟩,
       ⟨(some 21), none, .callv (.tmp 13) [(.tmp 15), (.tmp 20)]⟩,
       ⟨(some 22), none, .un .not (.tmp 21)⟩])
     (.cond (.tmp 22)
      .ret
      .skip))))
    (.reg [⟨(some 23), none, .bin .add (.tmp 8) (.con (.int .i64 1))⟩,
      ⟨(some 8), none, .mov (.tmp 23)⟩])))))))
def g89 : Fn := ⟨3, 24, [], b89⟩
/- quiver/vec.Same -/
def b92 : AC :=
  (.seq (.reg [⟨(some 4), none, .mov (.con (.bool false))⟩])
  (.seq (.reg [⟨(some 5), none, .mov (.tmp 0)⟩,
    ⟨(some 6), none, .mov (.tmp 1)⟩,
    ⟨(some 7), none, .call 105 [(.tmp 5), (.tmp 6)]⟩,
    ⟨(some 4), none, .mov (.tmp 7)⟩])
  .ret))
def g92 : Fn := ⟨2, 8, [.tmp 4], b92⟩
/- slices.insertionSortCmpFunc[quiver/api.Hit] -/
def b93 : AC :=
  (.seq (.reg [⟨(some 10), none, .mov (.tmp 1)⟩,
    ⟨(some 11), none, .bin .add (.tmp 10) (.con (.int .i64 1))⟩,
    ⟨(some 8), none, .mov (.tmp 11)⟩])
  (.block 0 (.loop (.seq (.seq (.reg [⟨(some 12), none, .mov (.tmp 8)⟩,
      ⟨(some 13), none, .mov (.tmp 2)⟩,
      ⟨(some 14), none, .bin .lss (.tmp 12) (.tmp 13)⟩])
    (.cond (.tmp 14)
     .skip
     (.exit 0)))
    (.seq (.block 1 (.seq (.reg [⟨(some 17), none, .mov (.tmp 8)⟩,
       ⟨(some 9), none, .mov (.tmp 17)⟩])
     (.block 2 (.loop (.seq (.seq (.regd [⟨[⟨⟨(some 18), none, .mov (.tmp 9)⟩, true, false, false, 0, [], none⟩,
         ⟨⟨(some 19), none, .mov (.tmp 1)⟩, true, false, false, 0, [], none⟩], 0, [⟨(some 20), none, .bin .gtr (.tmp 18) (.tmp 19)⟩,
         ⟨(some 21), none, .mov (.tmp 20)⟩]⟩,
        ⟨[⟨⟨(some 22), (some (21, true)), .mov (.tmp 3)⟩, true, false, false, 0, [], none⟩,
         ⟨⟨(some 23), (some (21, true)), .mov (.tmp 0)⟩, true, false, false, 0, [], none⟩,
         ⟨⟨(some 24), (some (21, true)), .mov (.tmp 9)⟩, true, false, false, 0, [], none⟩,
         ⟨⟨(some 25), (some (21, true)), .iaddr 2 (.tmp 23) (.tmp 24)⟩, true, false, false, 0, [], none⟩,
         ⟨⟨(some 26), (some (21, true)), .load true 2 (.tmp 25)⟩, false, false, false, 0, [], none⟩,
         ⟨⟨(some 27), (some (21, true)), .mov (.tmp 0)⟩, true, false, false, 0, [], none⟩,
         ⟨⟨(some 28), (some (21, true)), .mov (.tmp 9)⟩, true, false, false, 0, [], none⟩,
         ⟨⟨(some 29), (some (21, true)), .bin .sub (.tmp 28) (.con (.int .i64 1))⟩, true, false, false, 0, [], none⟩,
         ⟨⟨(some 30), (some (21, true)), .iaddr 2 (.tmp 27) (.tmp 29)⟩, true, false, false, 0, [], none⟩,
         ⟨⟨(some 31), (some (21, true)), .load true 2 (.tmp 30)⟩, false, false, false, 0, [], none⟩], 0, [⟨(some 32), (some (21, true)), .callv (.tmp 22) [(.tmp 26), (.tmp 31)]⟩,
         ⟨(some 33), (some (21, true)), .bin .lss (.tmp 32) (.con (.int .i64 0))⟩,
         ⟨(some 34), none, .pick (.tmp 21) (.tmp 33) (.con (.bool false))⟩]⟩])
       (.cond (.tmp 34)
        .skip
        (.exit 2)))
       (.seq (.block 3 (.regd [⟨[⟨⟨(some 37), none, .mov (.tmp 0)⟩, true, false, false, 0, [], none⟩,
          ⟨⟨(some 38), none, .mov (.tmp 9)⟩, true, false, false, 0, [], none⟩,
          ⟨⟨(some 39), none, .mov (.tmp 0)⟩, true, false, false, 0, [], none⟩,
          ⟨⟨(some 40), none, .mov (.tmp 9)⟩, true, false, false, 0, [], none⟩,
          ⟨⟨(some 41), none, .bin .sub (.tmp 40) (.con (.int .i64 1))⟩, true, false, false, 0, [], none⟩,
          ⟨⟨(some 42), none, .mov (.tmp 0)⟩, true, false, false, 0, [], none⟩,
          ⟨⟨(some 43), none, .mov (.tmp 9)⟩, true, false, false, 0, [], none⟩,
          ⟨⟨(some 44), none, .bin .sub (.tmp 43) (.con (.int .i64 1))⟩, true, false, false, 0, [], none⟩,
          ⟨⟨(some 45), none, .iaddr 2 (.tmp 42) (.tmp 44)⟩, true, false, false, 0, [], none⟩,
          ⟨⟨(some 46), none, .load true 2 (.tmp 45)⟩, false, false, false, 0, [], none⟩,
          ⟨⟨(some 47), none, .mov (.tmp 0)⟩, true, false, false, 0, [], none⟩,
          ⟨⟨(some 48), none, .mov (.tmp 9)⟩, true, false, false, 0, [], none⟩,
          ⟨⟨(some 49), none, .iaddr 2 (.tmp 47) (.tmp 48)⟩, true, false, false, 0, [], none⟩,
          ⟨⟨(some 50), none, .load true 2 (.tmp 49)⟩, false, false, false, 0, [], none⟩,
          ⟨⟨(some 51), none, .iaddr 2 (.tmp 37) (.tmp 38)⟩, true, false, false, 0, [], none⟩,
          ⟨⟨none, none, .store 2 (.tmp 51) (.tmp 46)⟩, false, true, false, 0, [], none⟩], 0, [⟨(some 52), none, .iaddr 2 (.tmp 39) (.tmp 41)⟩,
          ⟨none, none, .store 2 (.tmp 52) (.tmp 50)⟩]⟩]))
       (.reg [⟨(some 35), none, .mov (.tmp 9)⟩,
         ⟨(some 36), none, .bin .sub (.tmp 35) (.con (.int .i64 1))⟩,
         ⟨(some 9), none, .mov (.tmp 36)⟩])))))))
    (.reg [⟨(some 15), none, .mov (.tmp 8)⟩,
      ⟨(some 16), none, .bin .add (.tmp 15) (.con (.int .i64 1))⟩,
      ⟨(some 8), none, .mov (.tmp 16)⟩]))))))
def g93 : Fn := ⟨4, 53, [], b93⟩
/- slices.heapSortCmpFunc[quiver/api.Hit] -/
def b94 : AC :=
  (.seq (.reg [⟨(some 13), none, .mov (.tmp 1)⟩,
    ⟨(some 8), none, .mov (.tmp 13)⟩])
  (.seq (.reg [⟨(some 9), none, .mov (.con (.int .i64 0))⟩])
  (.seq (.reg [⟨(some 14), none, .mov (.tmp 2)⟩,
    ⟨(some 15), none, .mov (.tmp 1)⟩,
    ⟨(some 16), none, .bin .sub (.tmp 14) (.tmp 15)⟩,
    ⟨(some 10), none, .mov (.tmp 16)⟩])
  (.seq (.seq (.reg [⟨(some 17), none, .mov (.tmp 10)⟩,
    ⟨(some 18), none, .bin .sub (.tmp 17) (.con (.int .i64 1))⟩,
    ⟨(some 19), none, .bin .quo (.tmp 18) (.con (.int .i64 2))⟩,
    ⟨(some 11), none, .mov (.tmp 19)⟩])
  (.block 0 (.loop (.seq (.seq (.reg [⟨(some 20), none, .mov (.tmp 11)⟩,
      ⟨(some 21), none, .bin .geq (.tmp 20) (.con (.int .i64 0))⟩])
    (.cond (.tmp 21)
     .skip
     (.exit 0)))
    (.seq (.block 1 (.reg [⟨(some 24), none, .mov (.tmp 0)⟩,
       ⟨(some 25), none, .mov (.tmp 11)⟩,
       ⟨(some 26), none, .mov (.tmp 10)⟩,
       ⟨(some 27), none, .mov (.tmp 8)⟩,
       ⟨(some 28), none, .mov (.tmp 3)⟩,
       ⟨(some 29), none, .call 106 [(.tmp 24), (.tmp 25), (.tmp 26), (.tmp 27), (.tmp 28)]⟩]))
    (.reg [⟨(some 22), none, .mov (.tmp 11)⟩,
      ⟨(some 23), none, .bin .sub (.tmp 22) (.con (.int .i64 1))⟩,
      ⟨(some 11), none, .mov (.tmp 23)⟩]))))))
  (.seq (.reg [⟨(some 30), none, .mov (.tmp 10)⟩,
    ⟨(some 31), none, .bin .sub (.tmp 30) (.con (.int .i64 1))⟩,
    ⟨(some 12), none, .mov (.tmp 31)⟩])
  (.block 2 (.loop (.seq (.seq (.reg [⟨(some 32), none, .mov (.tmp 12)⟩,
      ⟨(some 33), none, .bin .geq (.tmp 32) (.con (.int .i64 0))⟩])
    (.cond (.tmp 33)
     .skip
     (.exit 2)))
    (.seq (.block 3 (.seq (.regd [⟨[⟨⟨(some 36), none, .mov (.tmp 0)⟩, true, false, false, 0, [], none⟩,
       ⟨⟨(some 37), none, .mov (.tmp 8)⟩, true, false, false, 0, [], none⟩,
       ⟨⟨(some 38), none, .mov (.tmp 0)⟩, true, false, false, 0, [], none⟩,
       ⟨⟨(some 39), none, .mov (.tmp 8)⟩, true, false, false, 0, [], none⟩,
       ⟨⟨(some 40), none, .mov (.tmp 12)⟩, true, false, false, 0, [], none⟩,
       ⟨⟨(some 41), none, .bin .add (.tmp 39) (.tmp 40)⟩, true, false, false, 0, [], none⟩,
       ⟨⟨(some 42), none, .mov (.tmp 0)⟩, true, false, false, 0, [], none⟩,
       ⟨⟨(some 43), none, .mov (.tmp 8)⟩, true, false, false, 0, [], none⟩,
       ⟨⟨(some 44), none, .mov (.tmp 12)⟩, true, false, false, 0, [], none⟩,
       ⟨⟨(some 45), none, .bin .add (.tmp 43) (.tmp 44)⟩, true, false, false, 0, [], none⟩,
       ⟨⟨(some 46), none, .iaddr 2 (.tmp 42) (.tmp 45)⟩, true, false, false, 0, [], none⟩,
       ⟨⟨(some 47), none, .load true 2 (.tmp 46)⟩, false, false, false, 0, [], none⟩,
       ⟨⟨(some 48), none, .mov (.tmp 0)⟩, true, false, false, 0, [], none⟩,
       ⟨⟨(some 49), none, .mov (.tmp 8)⟩, true, false, false, 0, [], none⟩,
       ⟨⟨(some 50), none, .iaddr 2 (.tmp 48) (.tmp 49)⟩, true, false, false, 0, [], none⟩,
       ⟨⟨(some 51), none, .load true 2 (.tmp 50)⟩, false, false, false, 0, [], none⟩,
       ⟨⟨(some 52), none, .iaddr 2 (.tmp 36) (.tmp 37)⟩, true, false, false, 0, [], none⟩,
       ⟨⟨none, none, .store 2 (.tmp 52) (.tmp 47)⟩, false, true, false, 0, [], none⟩], 0, [⟨(some 53), none, .iaddr 2 (.tmp 38) (.tmp 41)⟩,
       ⟨none, none, .store 2 (.tmp 53) (.tmp 51)⟩]⟩])
     (.reg [⟨(some 54), none, .mov (.tmp 0)⟩,
       ⟨(some 55), none, .mov (.tmp 9)⟩,
       ⟨(some 56), none, .mov (.tmp 12)⟩,
       ⟨(some 57), none, .mov (.tmp 8)⟩,
       ⟨(some 58), none, .mov (.tmp 3)⟩,
       ⟨(some 59), none, .call 106 [(.tmp 54), (.tmp 55), (.tmp 56), (.tmp 57), (.tmp 58)]⟩])))
    (.reg [⟨(some 34), none, .mov (.tmp 12)⟩,
      ⟨(some 35), none, .bin .sub (.tmp 34) (.con (.int .i64 1))⟩,
      ⟨(some 12), none, .mov (.tmp 35)⟩]))))))))))
def g94 : Fn := ⟨4, 60, [], b94⟩
/- slices.breakPatternsCmpFunc[quiver/api.Hit] -/
def b95 : AC :=
  (.seq (.reg [⟨(some 13), none, .mov (.tmp 2)⟩,
    ⟨(some 14), none, .mov (.tmp 1)⟩,
    ⟨(some 15), none, .bin .sub (.tmp 13) (.tmp 14)⟩,
    ⟨(some 8), none, .mov (.tmp 15)⟩])
  (.seq (.reg [⟨(some 16), none, .mov (.tmp 8)⟩,
    ⟨(some 17), none, .bin .geq (.tmp 16) (.con (.int .i64 8))⟩])
  (.cond (.tmp 17)
   (.seq (.reg [⟨(some 18), none, .mov (.tmp 8)⟩,
     ⟨(some 19), none, .conv .u64 (.tmp 18)⟩,
     ⟨(some 9), none, .alloc (.int .u64 0)⟩,
     ⟨none, none, .store 1 (.tmp 9) (.tmp 19)⟩])
   (.seq (.reg [⟨(some 20), none, .mov (.tmp 8)⟩,
     ⟨(some 21), none, .call 107 [(.tmp 20)]⟩,
     ⟨(some 10), none, .mov (.tmp 21)⟩])
   (.seq (.reg [⟨(some 22), none, .mov (.tmp 1)⟩,
     ⟨(some 23), none, .mov (.tmp 8)⟩,
     ⟨(some 24), none, .bin .quo (.tmp 23) (.con (.int .i64 4))⟩,
     ⟨(some 25), none, .bin .mul (.tmp 24) (.con (.int .i64 2))⟩,
     ⟨(some 26), none, .bin .add (.tmp 22) (.tmp 25)⟩,
     ⟨(some 27), none, .bin .sub (.tmp 26) (.con (.int .i64 1))⟩,
     ⟨(some 11), none, .mov (.tmp 27)⟩])
   (.block 0 (.loop (.seq (.seq (.reg [⟨(some 28), none, .mov (.tmp 11)⟩,
       ⟨(some 29), none, .mov (.tmp 1)⟩,
       ⟨(some 30), none, .mov (.tmp 8)⟩,
       ⟨(some 31), none, .bin .quo (.tmp 30) (.con (.int .i64 4))⟩,
       ⟨(some 32), none, .bin .mul (.tmp 31) (.con (.int .i64 2))⟩,
       ⟨(some 33), none, .bin .add (.tmp 29) (.tmp 32)⟩,
       ⟨(some 34), none, .bin .add (.tmp 33) (.con (.int .i64 1))⟩,
       ⟨(some 35), none, .bin .leq (.tmp 28) (.tmp 34)⟩])
     (.cond (.tmp 35)
      .skip
      (.exit 0)))
     (.seq (.block 1 (.seq (.reg [⟨(some 38), none, .call 108 [(.tmp 9)]⟩,
        ⟨(some 39), none, .mov (.tmp 10)⟩,
        ⟨(some 40), none, .bin .sub (.tmp 39) (.con (.int .u64 1))⟩,
        ⟨(some 41), none, .bin .and (.tmp 38) (.tmp 40)⟩,
        ⟨(some 42), none, .conv .i64 (.tmp 41)⟩,
        ⟨(some 12), none, .mov (.tmp 42)⟩])
      (.seq (.seq (.reg [⟨(some 43), none, .mov (.tmp 12)⟩,
        ⟨(some 44), none, .mov (.tmp 8)⟩,
        ⟨(some 45), none, .bin .geq (.tmp 43) (.tmp 44)⟩])
      (.cond (.tmp 45)
       (.reg [⟨(some 46), none, .mov (.tmp 12)⟩,
         ⟨(some 47), none, .mov (.tmp 8)⟩,
         ⟨(some 48), none, .bin .sub (.tmp 46) (.tmp 47)⟩,
         ⟨(some 12), none, .mov (.tmp 48)⟩])
       .skip))
      (.regd [⟨[⟨⟨(some 49), none, .mov (.tmp 0)⟩, true, false, false, 0, [], none⟩,
        ⟨⟨(some 50), none, .mov (.tmp 11)⟩, true, false, false, 0, [], none⟩,
        ⟨⟨(some 51), none, .mov (.tmp 0)⟩, true, false, false, 0, [], none⟩,
        ⟨⟨(some 52), none, .mov (.tmp 1)⟩, true, false, false, 0, [], none⟩,
        ⟨⟨(some 53), none, .mov (.tmp 12)⟩, true, false, false, 0, [], none⟩,
        ⟨⟨(some 54), none, .bin .add (.tmp 52) (.tmp 53)⟩, true, false, false, 0, [], none⟩,
        ⟨⟨(some 55), none, .mov (.tmp 0)⟩, true, false, false, 0, [], none⟩,
        ⟨⟨(some 56), none, .mov (.tmp 1)⟩, true, false, false, 0, [], none⟩,
        ⟨⟨(some 57), none, .mov (.tmp 12)⟩, true, false, false, 0, [], none⟩,
        ⟨⟨(some 58), none, .bin .add (.tmp 56) (.tmp 57)⟩, true, false, false, 0, [], none⟩,
        ⟨⟨(some 59), none, .iaddr 2 (.tmp 55) (.tmp 58)⟩, true, false, false, 0, [], none⟩,
        ⟨⟨(some 60), none, .load true 2 (.tmp 59)⟩, false, false, false, 0, [], none⟩,
        ⟨⟨(some 61), none, .mov (.tmp 0)⟩, true, false, false, 0, [], none⟩,
        ⟨⟨(some 62), none, .mov (.tmp 11)⟩, true, false, false, 0, [], none⟩,
        ⟨⟨(some 63), none, .iaddr 2 (.tmp 61) (.tmp 62)⟩, true, false, false, 0, [], none⟩,
        ⟨⟨(some 64), none, .load true 2 (.tmp 63)⟩, false, false, false, 0, [], none⟩,
        ⟨⟨(some 65), none, .iaddr 2 (.tmp 49) (.tmp 50)⟩, true, false, false, 0, [], none⟩,
        ⟨⟨none, none, .store 2 (.tmp 65) (.tmp 60)⟩, false, true, false, 0, [], none⟩], 0, [⟨(some 66), none, .iaddr 2 (.tmp 51) (.tmp 54)⟩,
        ⟨none, none, .store 2 (.tmp 66) (.tmp 64)⟩]⟩]))))
     (.reg [⟨(some 36), none, .mov (.tmp 11)⟩,
       ⟨(some 37), none, .bin .add (.tmp 36) (.con (.int .i64 1))⟩,
       ⟨(some 11), none, .mov (.tmp 37)⟩]))))))))
   .skip)))
def g95 : Fn := ⟨4, 67, [], b95⟩
/- slices.choosePivotCmpFunc[quiver/api.Hit] -/
def b96 : AC :=
  (.seq (.reg [⟨(some 8), none, .mov (.con (.int .i64 0))⟩,
    ⟨(some 9), none, .mov (.con (.int .i64 0))⟩])
  (.seq (.reg [⟨(some 15), none, .mov (.tmp 2)⟩,
    ⟨(some 16), none, .mov (.tmp 1)⟩,
    ⟨(some 17), none, .bin .sub (.tmp 15) (.tmp 16)⟩,
    ⟨(some 10), none, .mov (.tmp 17)⟩])
  (.seq (.reg [⟨(some 11), none, .alloc (.int .i64 0)⟩])
  (.seq (.reg [⟨(some 18), none, .mov (.tmp 1)⟩,
    ⟨(some 19), none, .mov (.tmp 10)⟩,
    ⟨(some 20), none, .bin .quo (.tmp 19) (.con (.int .i64 4))⟩,
    ⟨(some 21), none, .bin .mul (.tmp 20) (.con (.int .i64 1))⟩,
    ⟨(some 22), none, .bin .add (.tmp 18) (.tmp 21)⟩,
    ⟨(some 12), none, .mov (.tmp 22)⟩])
  (.seq (.reg [⟨(some 23), none, .mov (.tmp 1)⟩,
    ⟨(some 24), none, .mov (.tmp 10)⟩,
    ⟨(some 25), none, .bin .quo (.tmp 24) (.con (.int .i64 4))⟩,
    ⟨(some 26), none, .bin .mul (.tmp 25) (.con (.int .i64 2))⟩,
    ⟨(some 27), none, .bin .add (.tmp 23) (.tmp 26)⟩,
    ⟨(some 13), none, .mov (.tmp 27)⟩])
  (.seq (.reg [⟨(some 28), none, .mov (.tmp 1)⟩,
    ⟨(some 29), none, .mov (.tmp 10)⟩,
    ⟨(some 30), none, .bin .quo (.tmp 29) (.con (.int .i64 4))⟩,
    ⟨(some 31), none, .bin .mul (.tmp 30) (.con (.int .i64 3))⟩,
    ⟨(some 32), none, .bin .add (.tmp 28) (.tmp 31)⟩,
    ⟨(some 14), none, .mov (.tmp 32)⟩])
  (.seq (.seq (.reg [⟨(some 33), none, .mov (.tmp 10)⟩,
    ⟨(some 34), none, .bin .geq (.tmp 33) (.con (.int .i64 8))⟩])
  (.cond (.tmp 34)
   (.seq (.seq (.reg [⟨(some 35), none, .mov (.tmp 10)⟩,
     ⟨(some 36), none, .bin .geq (.tmp 35) (.con (.int .i64 50))⟩])
   (.cond (.tmp 36)
    (.seq (.reg [⟨(some 37), none, .mov (.tmp 0)⟩,
      ⟨(some 38), none, .mov (.tmp 12)⟩,
      ⟨(some 39), none, .mov (.tmp 3)⟩,
      ⟨(some 40), none, .call 109 [(.tmp 37), (.tmp 38), (.tmp 11), (.tmp 39)]⟩,
      ⟨(some 12), none, .mov (.tmp 40)⟩])
    (.seq (.reg [⟨(some 41), none, .mov (.tmp 0)⟩,
      ⟨(some 42), none, .mov (.tmp 13)⟩,
      ⟨(some 43), none, .mov (.tmp 3)⟩,
      ⟨(some 44), none, .call 109 [(.tmp 41), (.tmp 42), (.tmp 11), (.tmp 43)]⟩,
      ⟨(some 13), none, .mov (.tmp 44)⟩])
    (.reg [⟨(some 45), none, .mov (.tmp 0)⟩,
      ⟨(some 46), none, .mov (.tmp 14)⟩,
      ⟨(some 47), none, .mov (.tmp 3)⟩,
      ⟨(some 48), none, .call 109 [(.tmp 45), (.tmp 46), (.tmp 11), (.tmp 47)]⟩,
      ⟨(some 14), none, .mov (.tmp 48)⟩])))
    .skip))
   (.reg [⟨(some 49), none, .mov (.tmp 0)⟩,
     ⟨(some 50), none, .mov (.tmp 12)⟩,
     ⟨(some 51), none, .mov (.tmp 13)⟩,
     ⟨(some 52), none, .mov (.tmp 14)⟩,
     ⟨(some 53), none, .mov (.tmp 3)⟩,
     ⟨(some 54), none, .call 110 [(.tmp 49), (.tmp 50), (.tmp 51), (.tmp 52), (.tmp 11), (.tmp 53)]⟩,
     ⟨(some 13), none, .mov (.tmp 54)⟩]))
   .skip))
  (.seq (.reg [⟨(some 55), none, .load false 1 (.tmp 11)⟩])
  (.block 0 (.seq (.reg [⟨(some 58), none, .bin .eql (.tmp 55) (.con (.int .i64 0))⟩,
     ⟨(some 57), none, .mov (.tmp 58)⟩])
   (.cond (.tmp 57)
    (.seq (.reg [⟨(some 59), none, .mov (.tmp 13)⟩,
      ⟨(some 8), none, .mov (.tmp 59)⟩,
      ⟨(some 9), none, .mov (.con (.int .i64 1))⟩])
    .ret)
    (.seq (.reg [⟨(some 61), none, .bin .eql (.tmp 55) (.con (.int .i64 12))⟩,
      ⟨(some 60), none, .mov (.tmp 61)⟩])
    (.cond (.tmp 60)
     (.seq (.reg [⟨(some 62), none, .mov (.tmp 13)⟩,
       ⟨(some 8), none, .mov (.tmp 62)⟩,
       ⟨(some 9), none, .mov (.con (.int .i64 2))⟩])
     .ret)
     (.seq (.reg [⟨(some 56), none, .mov (.tmp 13)⟩,
       ⟨(some 8), none, .mov (.tmp 56)⟩,
       ⟨(some 9), none, .mov (.con (.int .i64 0))⟩])
     .ret))))))))))))))
def g96 : Fn := ⟨4, 63, [.tmp 8, .tmp 9], b96⟩
/- slices.reverseRangeCmpFunc[quiver/api.Hit] -/
def b97 : AC :=
  (.seq (.reg [⟨(some 10), none, .mov (.tmp 1)⟩,
    ⟨(some 8), none, .mov (.tmp 10)⟩])
  (.seq (.reg [⟨(some 11), none, .mov (.tmp 2)⟩,
    ⟨(some 12), none, .bin .sub (.tmp 11) (.con (.int .i64 1))⟩,
    ⟨(some 9), none, .mov (.tmp 12)⟩])
  (.block 0 (.loop (.seq (.seq (.reg [⟨(some 13), none, .mov (.tmp 8)⟩,
      ⟨(some 14), none, .mov (.tmp 9)⟩,
      ⟨(some 15), none, .bin .lss (.tmp 13) (.tmp 14)⟩])
    (.cond (.tmp 15)
     .skip
     (.exit 0)))
    (.block 1 (.seq (.regd [⟨[⟨⟨(some 16), none, .mov (.tmp 0)⟩, true, false, false, 0, [], none⟩,
       ⟨⟨(some 17), none, .mov (.tmp 8)⟩, true, false, false, 0, [], none⟩,
       ⟨⟨(some 18), none, .mov (.tmp 0)⟩, true, false, false, 0, [], none⟩,
       ⟨⟨(some 19), none, .mov (.tmp 9)⟩, true, false, false, 0, [], none⟩,
       ⟨⟨(some 20), none, .mov (.tmp 0)⟩, true, false, false, 0, [], none⟩,
       ⟨⟨(some 21), none, .mov (.tmp 9)⟩, true, false, false, 0, [], none⟩,
       ⟨⟨(some 22), none, .iaddr 2 (.tmp 20) (.tmp 21)⟩, true, false, false, 0, [], none⟩,
       ⟨⟨(some 23), none, .load true 2 (.tmp 22)⟩, false, false, false, 0, [], none⟩,
       ⟨⟨(some 24), none, .mov (.tmp 0)⟩, true, false, false, 0, [], none⟩,
       ⟨⟨(some 25), none, .mov (.tmp 8)⟩, true, false, false, 0, [], none⟩,
       ⟨⟨(some 26), none, .iaddr 2 (.tmp 24) (.tmp 25)⟩, true, false, false, 0, [], none⟩,
       ⟨⟨(some 27), none, .load true 2 (.tmp 26)⟩, false, false, false, 0, [], none⟩,
       ⟨⟨(some 28), none, .iaddr 2 (.tmp 16) (.tmp 17)⟩, true, false, false, 0, [], none⟩,
       ⟨⟨none, none, .store 2 (.tmp 28) (.tmp 23)⟩, false, true, false, 0, [], none⟩], 0, [⟨(some 29), none, .iaddr 2 (.tmp 18) (.tmp 19)⟩,
       ⟨none, none, .store 2 (.tmp 29) (.tmp 27)⟩]⟩])
     (.seq (.reg [⟨(some 30), none, .mov (.tmp 8)⟩,
       ⟨(some 31), none, .bin .add (.tmp 30) (.con (.int .i64 1))⟩,
       ⟨(some 8), none, .mov (.tmp 31)⟩])
     (.reg [⟨(some 32), none, .mov (.tmp 9)⟩,
       ⟨(some 33), none, .bin .sub (.tmp 32) (.con (.int .i64 1))⟩,
       ⟨(some 9), none, .mov (.tmp 33)⟩])))))))))
def g97 : Fn := ⟨4, 34, [], b97⟩
/- slices.partialInsertionSortCmpFunc[quiver/api.Hit] -/
def b98 : AC :=
  (.seq (.reg [⟨(some 8), none, .mov (.con (.bool false))⟩])
  (.seq (.reg [⟨(some 13), none, .mov (.tmp 1)⟩,
    ⟨(some 14), none, .bin .add (.tmp 13) (.con (.int .i64 1))⟩,
    ⟨(some 9), none, .mov (.tmp 14)⟩])
  (.seq (.seq (.reg [⟨(some 10), none, .mov (.con (.int .i64 0))⟩])
  (.block 0 (.loop (.seq (.seq (.reg [⟨(some 15), none, .mov (.tmp 10)⟩,
      ⟨(some 16), none, .bin .lss (.tmp 15) (.con (.int .i64 5))⟩])
    (.cond (.tmp 16)
     .skip
     (.exit 0)))
    (.seq (.block 1 (.seq (.block 2 (.loop (.seq (.seq (.regd [⟨[⟨⟨(some 19), none, .mov (.tmp 9)⟩, true, false, false, 0, [], none⟩,
         ⟨⟨(some 20), none, .mov (.tmp 2)⟩, true, false, false, 0, [], none⟩], 0, [⟨(some 21), none, .bin .lss (.tmp 19) (.tmp 20)⟩,
         ⟨(some 22), none, .mov (.tmp 21)⟩]⟩,
        ⟨[⟨⟨(some 23), (some (22, true)), .mov (.tmp 3)⟩, true, false, false, 0, [], none⟩,
         ⟨⟨(some 24), (some (22, true)), .mov (.tmp 0)⟩, true, false, false, 0, [], none⟩,
         ⟨⟨(some 25), (some (22, true)), .mov (.tmp 9)⟩, true, false, false, 0, [], none⟩,
         ⟨⟨(some 26), (some (22, true)), .iaddr 2 (.tmp 24) (.tmp 25)⟩, true, false, false, 0, [], none⟩,
         ⟨⟨(some 27), (some (22, true)), .load true 2 (.tmp 26)⟩, false, false, false, 0, [], none⟩,
         ⟨⟨(some 28), (some (22, true)), .mov (.tmp 0)⟩, true, false, false, 0, [], none⟩,
         ⟨⟨(some 29), (some (22, true)), .mov (.tmp 9)⟩, true, false, false, 0, [], none⟩,
         ⟨⟨(some 30), (some (22, true)), .bin .sub (.tmp 29) (.con (.int .i64 1))⟩, true, false, false, 0, [], none⟩,
         ⟨⟨(some 31), (some (22, true)), .iaddr 2 (.tmp 28) (.tmp 30)⟩, true, false, false, 0, [], none⟩,
         ⟨⟨(some 32), (some (22, true)), .load true 2 (.tmp 31)⟩, false, false, false, 0, [], none⟩], 0, [⟨(some 33), (some (22, true)), .callv (.tmp 23) [(.tmp 27), (.tmp 32)]⟩,
         ⟨(some 34), (some (22, true)), .bin .lss (.tmp 33) (.con (.int .i64 0))⟩,
         ⟨(some 35), (some (22, true)), .un .not (.tmp 34)⟩,
         ⟨(some 36), none, .pick (.tmp 22) (.tmp 35) (.con (.bool false))⟩]⟩])
       (.cond (.tmp 36)
        .skip
        (.exit 2)))
       (.block 3 (.reg [⟨(some 37), none, .mov (.tmp 9)⟩,
          ⟨(some 38), none, .bin .add (.tmp 37) (.con (.int .i64 1))⟩,
          ⟨(some 9), none, .mov (.tmp 38)⟩])))))
     (.seq (.seq (.reg [⟨(some 39), none, .mov (.tmp 9)⟩,
       ⟨(some 40), none, .mov (.tmp 2)⟩,
       ⟨(some 41), none, .bin .eql (.tmp 39) (.tmp 40)⟩])
     (.cond (.tmp 41)
      (.seq (.reg [⟨(some 8), none, .mov (.con (.bool true))⟩])
      .ret)
      .skip))
     (.seq (.seq (.reg [⟨(some 42), none, .mov (.tmp 2)⟩,
       ⟨(some 43), none, .mov (.tmp 1)⟩,
       ⟨(some 44), none, .bin .sub (.tmp 42) (.tmp 43)⟩,
       ⟨(some 45), none, .bin .lss (.tmp 44) (.con (.int .i64 50))⟩])
     (.cond (.tmp 45)
      (.seq (.reg [⟨(some 8), none, .mov (.con (.bool false))⟩])
      .ret)
      .skip))
     (.seq (.regd [⟨[⟨⟨(some 46), none, .mov (.tmp 0)⟩, true, false, false, 0, [], none⟩,
       ⟨⟨(some 47), none, .mov (.tmp 9)⟩, true, false, false, 0, [], none⟩,
       ⟨⟨(some 48), none, .mov (.tmp 0)⟩, true, false, false, 0, [], none⟩,
       ⟨⟨(some 49), none, .mov (.tmp 9)⟩, true, false, false, 0, [], none⟩,
       ⟨⟨(some 50), none, .bin .sub (.tmp 49) (.con (.int .i64 1))⟩, true, false, false, 0, [], none⟩,
       ⟨⟨(some 51), none, .mov (.tmp 0)⟩, true, false, false, 0, [], none⟩,
       ⟨⟨(some 52), none, .mov (.tmp 9)⟩, true, false, false, 0, [], none⟩,
       ⟨⟨(some 53), none, .bin .sub (.tmp 52) (.con (.int .i64 1))⟩, true, false, false, 0, [], none⟩,
       ⟨⟨(some 54), none, .iaddr 2 (.tmp 51) (.tmp 53)⟩, true, false, false, 0, [], none⟩,
       ⟨⟨(some 55), none, .load true 2 (.tmp 54)⟩, false, false, false, 0, [], none⟩,
       ⟨⟨(some 56), none, .mov (.tmp 0)⟩, true, false, false, 0, [], none⟩,
       ⟨⟨(some 57), none, .mov (.tmp 9)⟩, true, false, false, 0, [], none⟩,
       ⟨⟨(some 58), none, .iaddr 2 (.tmp 56) (.tmp 57)⟩, true, false, false, 0, [], none⟩,
       ⟨⟨(some 59), none, .load true 2 (.tmp 58)⟩, false, false, false, 0, [], none⟩,
       ⟨⟨(some 60), none, .iaddr 2 (.tmp 46) (.tmp 47)⟩, true, false, false, 0, [], none⟩,
       ⟨⟨none, none, .store 2 (.tmp 60) (.tmp 55)⟩, false, true, false, 0, [], none⟩], 0, [⟨(some 61), none, .iaddr 2 (.tmp 48) (.tmp 50)⟩,
       ⟨none, none, .store 2 (.tmp 61) (.tmp 59)⟩]⟩])
     (.seq (.seq (.reg [⟨(some 62), none, .mov (.tmp 9)⟩,
       ⟨(some 63), none, .mov (.tmp 1)⟩,
       ⟨(some 64), none, .bin .sub (.tmp 62) (.tmp 63)⟩,
       ⟨(some 65), none, .bin .geq (.tmp 64) (.con (.int .i64 2))⟩])
     (.cond (.tmp 65)
      (.seq (.reg [⟨(some 66), none, .mov (.tmp 9)⟩,
        ⟨(some 67), none, .bin .sub (.tmp 66) (.con (.int .i64 1))⟩,
        ⟨(some 11), none, .mov (.tmp 67)⟩])
      (.block 4 (.loop (.seq (.seq (.reg [⟨(some 68), none, .mov (.tmp 11)⟩,
          ⟨(some 69), none, .bin .geq (.tmp 68) (.con (.int .i64 1))⟩])
        (.cond (.tmp 69)
         .skip
         (.exit 4)))
        (.seq (.block 5 (.seq (.seq (.regd [⟨[⟨⟨(some 72), none, .mov (.tmp 3)⟩, true, false, false, 0, [], none⟩,
           ⟨⟨(some 73), none, .mov (.tmp 0)⟩, true, false, false, 0, [], none⟩,
           ⟨⟨(some 74), none, .mov (.tmp 11)⟩, true, false, false, 0, [], none⟩,
           ⟨⟨(some 75), none, .iaddr 2 (.tmp 73) (.tmp 74)⟩, true, false, false, 0, [], none⟩,
           ⟨⟨(some 76), none, .load true 2 (.tmp 75)⟩, false, false, false, 0, [], none⟩,
           ⟨⟨(some 77), none, .mov (.tmp 0)⟩, true, false, false, 0, [], none⟩,
           ⟨⟨(some 78), none, .mov (.tmp 11)⟩, true, false, false, 0, [], none⟩,
           ⟨⟨(some 79), none, .bin .sub (.tmp 78) (.con (.int .i64 1))⟩, true, false, false, 0, [], none⟩,
           ⟨⟨(some 80), none, .iaddr 2 (.tmp 77) (.tmp 79)⟩, true, false, false, 0, [], none⟩,
           ⟨⟨(some 81), none, .load true 2 (.tmp 80)⟩, false, false, false, 0, [], none⟩], 0, [⟨(some 82), none, .callv (.tmp 72) [(.tmp 76), (.tmp 81)]⟩,
           ⟨(some 83), none, .bin .lss (.tmp 82) (.con (.int .i64 0))⟩,
           ⟨(some 84), none, .un .not (.tmp 83)⟩]⟩])
         (.cond (.tmp 84)
          (.exit 4)
          .skip))
         (.regd [⟨[⟨⟨(some 85), none, .mov (.tmp 0)⟩, true, false, false, 0, [], none⟩,
           ⟨⟨(some 86), none, .mov (.tmp 11)⟩, true, false, false, 0, [], none⟩,
           ⟨⟨(some 87), none, .mov (.tmp 0)⟩, true, false, false, 0, [], none⟩,
           ⟨⟨(some 88), none, .mov (.tmp 11)⟩, true, false, false, 0, [], none⟩,
           ⟨⟨(some 89), none, .bin .sub (.tmp 88) (.con (.int .i64 1))⟩, true, false, false, 0, [], none⟩,
           ⟨⟨(some 90), none, .mov (.tmp 0)⟩, true, false, false, 0, [], none⟩,
           ⟨⟨(some 91), none, .mov (.tmp 11)⟩, true, false, false, 0, [], none⟩,
           ⟨⟨(some 92), none, .bin .sub (.tmp 91) (.con (.int .i64 1))⟩, true, false, false, 0, [], none⟩,
           ⟨⟨(some 93), none, .iaddr 2 (.tmp 90) (.tmp 92)⟩, true, false, false, 0, [], none⟩,
           ⟨⟨(some 94), none, .load true 2 (.tmp 93)⟩, false, false, false, 0, [], none⟩,
           ⟨⟨(some 95), none, .mov (.tmp 0)⟩, true, false, false, 0, [], none⟩,
           ⟨⟨(some 96), none, .mov (.tmp 11)⟩, true, false, false, 0, [], none⟩,
           ⟨⟨(some 97), none, .iaddr 2 (.tmp 95) (.tmp 96)⟩, true, false, false, 0, [], none⟩,
           ⟨⟨(some 98), none, .load true 2 (.tmp 97)⟩, false, false, false, 0, [], none⟩,
           ⟨⟨(some 99), none, .iaddr 2 (.tmp 85) (.tmp 86)⟩, true, false, false, 0, [], none⟩,
           ⟨⟨none, none, .store 2 (.tmp 99) (.tmp 94)⟩, false, true, false, 0, [], none⟩], 0, [⟨(some 100), none, .iaddr 2 (.tmp 87) (.tmp 89)⟩,
           ⟨none, none, .store 2 (.tmp 100) (.tmp 98)⟩]⟩])))
        (.reg [⟨(some 70), none, .mov (.tmp 11)⟩,
          ⟨(some 71), none, .bin .sub (.tmp 70) (.con (.int .i64 1))⟩,
          ⟨(some 11), none, .mov (.tmp 71)⟩]))))))
      .skip))
     (.seq (.reg [⟨(some 101), none, .mov (.tmp 2)⟩,
       ⟨(some 102), none, .mov (.tmp 9)⟩,
       ⟨(some 103), none, .bin .sub (.tmp 101) (.tmp 102)⟩,
       ⟨(some 104), none, .bin .geq (.tmp 103) (.con (.int .i64 2))⟩])
     (.cond (.tmp 104)
      (.seq (.reg [⟨(some 105), none, .mov (.tmp 9)⟩,
        ⟨(some 106), none, .bin .add (.tmp 105) (.con (.int .i64 1))⟩,
        ⟨(some 12), none, .mov (.tmp 106)⟩])
      (.block 6 (.loop (.seq (.seq (.reg [⟨(some 107), none, .mov (.tmp 12)⟩,
          ⟨(some 108), none, .mov (.tmp 2)⟩,
          ⟨(some 109), none, .bin .lss (.tmp 107) (.tmp 108)⟩])
        (.cond (.tmp 109)
         .skip
         (.exit 6)))
        (.seq (.block 7 (.seq (.seq (.regd [⟨[⟨⟨(some 112), none, .mov (.tmp 3)⟩, true, false, false, 0, [], none⟩,
           ⟨⟨(some 113), none, .mov (.tmp 0)⟩, true, false, false, 0, [], none⟩,
           ⟨⟨(some 114), none, .mov (.tmp 12)⟩, true, false, false, 0, [], none⟩,
           ⟨⟨(some 115), none, .iaddr 2 (.tmp 113) (.tmp 114)⟩, true, false, false, 0, [], none⟩,
           ⟨⟨(some 116), none, .load true 2 (.tmp 115)⟩, false, false, false, 0, [], none⟩,
           ⟨⟨(some 117), none, .mov (.tmp 0)⟩, true, false, false, 0, [], none⟩,
           ⟨⟨(some 118), none, .mov (.tmp 12)⟩, true, false, false, 0, [], none⟩,
           ⟨⟨(some 119), none, .bin .sub (.tmp 118) (.con (.int .i64 1))⟩, true, false, false, 0, [], none⟩,
           ⟨⟨(some 120), none, .iaddr 2 (.tmp 117) (.tmp 119)⟩, true, false, false, 0, [], none⟩,
           ⟨⟨(some 121), none, .load true 2 (.tmp 120)⟩, false, false, false, 0, [], none⟩], 0, [⟨(some 122), none, .callv (.tmp 112) [(.tmp 116), (.tmp 121)]⟩,
           ⟨(some 123), none, .bin .lss (.tmp 122) (.con (.int .i64 0))⟩,
           ⟨(some 124), none, .un .not (.tmp 123)⟩]⟩])
         (.cond (.tmp 124)
          (.exit 6)
          .skip))
         (.regd [⟨[⟨⟨(some 125), none, .mov (.tmp 0)⟩, true, false, false, 0, [], none⟩,
           ⟨⟨(some 126), none, .mov (.tmp 12)⟩, true, false, false, 0, [], none⟩,
           ⟨⟨(some 127), none, .mov (.tmp 0)⟩, true, false, false, 0, [], none⟩,
           ⟨⟨(some 128), none, .mov (.tmp 12)⟩, true, false, false, 0, [], none⟩,
           ⟨⟨(some 129), none, .bin .sub (.tmp 128) (.con (.int .i64 1))⟩, true, false, false, 0, [], none⟩,
           ⟨⟨(some 130), none, .mov (.tmp 0)⟩, true, false, false, 0, [], none⟩,
           ⟨⟨(some 131), none, .mov (.tmp 12)⟩, true, false, false, 0, [], none⟩,
           ⟨⟨(some 132), none, .bin .sub (.tmp 131) (.con (.int .i64 1))⟩, true, false, false, 0, [], none⟩,
           ⟨⟨(some 133), none, .iaddr 2 (.tmp 130) (.tmp 132)⟩, true, false, false, 0, [], none⟩,
           ⟨⟨(some 134), none, .load true 2 (.tmp 133)⟩, false, false, false, 0, [], none⟩,
           ⟨⟨(some 135), none, .mov (.tmp 0)⟩, true, false, false, 0, [], none⟩,
           ⟨⟨(some 136), none, .mov (.tmp 12)⟩, true, false, false, 0, [], none⟩,
           ⟨⟨(some 137), none, .iaddr 2 (.tmp 135) (.tmp 136)⟩, true, false, false, 0, [], none⟩,
           ⟨⟨(some 138), none, .load true 2 (.tmp 137)⟩, false, false, false, 0, [], none⟩,
           ⟨⟨(some 139), none, .iaddr 2 (.tmp 125) (.tmp 126)⟩, true, false, false, 0, [], none⟩,
           ⟨⟨none, none, .store 2 (.tmp 139) (.tmp 134)⟩, false, true, false, 0, [], none⟩], 0, [⟨(some 140), none, .iaddr 2 (.tmp 127) (.tmp 129)⟩,
           ⟨none, none, .store 2 (.tmp 140) (.tmp 138)⟩]⟩])))
        (.reg [⟨(some 110), none, .mov (.tmp 12)⟩,
          ⟨(some 111), none, .bin .add (.tmp 110) (.con (.int .i64 1))⟩,
          ⟨(some 12), none, .mov (.tmp 111)⟩]))))))
      .skip))))))))
    (.reg [⟨(some 17), none, .mov (.tmp 10)⟩,
      ⟨(some 18), none, .bin .add (.tmp 17) (.con (.int .i64 1))⟩,
      ⟨(some 10), none, .mov (.tmp 18)⟩]))))))
  (.seq (.reg [⟨(some 8), none, .mov (.con (.bool false))⟩])
  .ret))))
def g98 : Fn := ⟨4, 141, [.tmp 8], b98⟩
/- slices.partitionEqualCmpFunc[quiver/api.Hit] -/
def b99 : AC :=
  (.seq (.reg [⟨(some 10), none, .mov (.con (.int .i64 0))⟩])
  (.seq (.regd [⟨[⟨⟨(some 13), none, .mov (.tmp 0)⟩, true, false, false, 0, [], none⟩,
    ⟨⟨(some 14), none, .mov (.tmp 1)⟩, true, false, false, 0, [], none⟩,
    ⟨⟨(some 15), none, .mov (.tmp 0)⟩, true, false, false, 0, [], none⟩,
    ⟨⟨(some 16), none, .mov (.tmp 3)⟩, true, false, false, 0, [], none⟩,
    ⟨⟨(some 17), none, .mov (.tmp 0)⟩, true, false, false, 0, [], none⟩,
    ⟨⟨(some 18), none, .mov (.tmp 3)⟩, true, false, false, 0, [], none⟩,
    ⟨⟨(some 19), none, .iaddr 2 (.tmp 17) (.tmp 18)⟩, true, false, false, 0, [], none⟩,
    ⟨⟨(some 20), none, .load true 2 (.tmp 19)⟩, false, false, false, 0, [], none⟩,
    ⟨⟨(some 21), none, .mov (.tmp 0)⟩, true, false, false, 0, [], none⟩,
    ⟨⟨(some 22), none, .mov (.tmp 1)⟩, true, false, false, 0, [], none⟩,
    ⟨⟨(some 23), none, .iaddr 2 (.tmp 21) (.tmp 22)⟩, true, false, false, 0, [], none⟩,
    ⟨⟨(some 24), none, .load true 2 (.tmp 23)⟩, false, false, false, 0, [], none⟩,
    ⟨⟨(some 25), none, .iaddr 2 (.tmp 13) (.tmp 14)⟩, true, false, false, 0, [], none⟩,
    ⟨⟨none, none, .store 2 (.tmp 25) (.tmp 20)⟩, false, true, false, 0, [], none⟩], 0, [⟨(some 26), none, .iaddr 2 (.tmp 15) (.tmp 16)⟩,
    ⟨none, none, .store 2 (.tmp 26) (.tmp 24)⟩]⟩])
  (.seq (.reg [⟨(some 27), none, .mov (.tmp 1)⟩,
    ⟨(some 28), none, .bin .add (.tmp 27) (.con (.int .i64 1))⟩,
    ⟨(some 29), none, .mov (.tmp 2)⟩,
    ⟨(some 30), none, .bin .sub (.tmp 29) (.con (.int .i64 1))⟩,
    ⟨(some 11), none, .mov (.tmp 28)⟩,
    ⟨(some 12), none, .mov (.tmp 30)⟩])
  (.seq (.block 0 (.loop (.block 1 (.seq (.block 2 (.loop (.seq (.seq (.regd [⟨[⟨⟨(some 31), none, .mov (.tmp 11)⟩, true, false, false, 0, [], none⟩,
         ⟨⟨(some 32), none, .mov (.tmp 12)⟩, true, false, false, 0, [], none⟩], 0, [⟨(some 33), none, .bin .leq (.tmp 31) (.tmp 32)⟩,
         ⟨(some 34), none, .mov (.tmp 33)⟩]⟩,
        ⟨[⟨⟨(some 35), (some (34, true)), .mov (.tmp 4)⟩, true, false, false, 0, [], none⟩,
         ⟨⟨(some 36), (some (34, true)), .mov (.tmp 0)⟩, true, false, false, 0, [], none⟩,
         ⟨⟨(some 37), (some (34, true)), .mov (.tmp 1)⟩, true, false, false, 0, [], none⟩,
         ⟨⟨(some 38), (some (34, true)), .iaddr 2 (.tmp 36) (.tmp 37)⟩, true, false, false, 0, [], none⟩,
         ⟨⟨(some 39), (some (34, true)), .load true 2 (.tmp 38)⟩, false, false, false, 0, [], none⟩,
         ⟨⟨(some 40), (some (34, true)), .mov (.tmp 0)⟩, true, false, false, 0, [], none⟩,
         ⟨⟨(some 41), (some (34, true)), .mov (.tmp 11)⟩, true, false, false, 0, [], none⟩,
         ⟨⟨(some 42), (some (34, true)), .iaddr 2 (.tmp 40) (.tmp 41)⟩, true, false, false, 0, [], none⟩,
         ⟨⟨(some 43), (some (34, true)), .load true 2 (.tmp 42)⟩, false, false, false, 0, [], none⟩], 0, [⟨(some 44), (some (34, true)), .callv (.tmp 35) [(.tmp 39), (.tmp 43)]⟩,
         ⟨(some 45), (some (34, true)), .bin .lss (.tmp 44) (.con (.int .i64 0))⟩,
         ⟨(some 46), (some (34, true)), .un .not (.tmp 45)⟩,
         ⟨(some 47), none, .pick (.tmp 34) (.tmp 46) (.con (.bool false))⟩]⟩])
       (.cond (.tmp 47)
        .skip
        (.exit 2)))
       (.block 3 (.reg [⟨(some 48), none, .mov (.tmp 11)⟩,
          ⟨(some 49), none, .bin .add (.tmp 48) (.con (.int .i64 1))⟩,
          ⟨(some 11), none, .mov (.tmp 49)⟩])))))
     (.seq (.block 4 (.loop (.seq (.seq (.regd [⟨[⟨⟨(some 50), none, .mov (.tmp 11)⟩, true, false, false, 0, [], none⟩,
         ⟨⟨(some 51), none, .mov (.tmp 12)⟩, true, false, false, 0, [], none⟩], 0, [⟨(some 52), none, .bin .leq (.tmp 50) (.tmp 51)⟩,
         ⟨(some 53), none, .mov (.tmp 52)⟩]⟩,
        ⟨[⟨⟨(some 54), (some (53, true)), .mov (.tmp 4)⟩, true, false, false, 0, [], none⟩,
         ⟨⟨(some 55), (some (53, true)), .mov (.tmp 0)⟩, true, false, false, 0, [], none⟩,
         ⟨⟨(some 56), (some (53, true)), .mov (.tmp 1)⟩, true, false, false, 0, [], none⟩,
         ⟨⟨(some 57), (some (53, true)), .iaddr 2 (.tmp 55) (.tmp 56)⟩, true, false, false, 0, [], none⟩,
         ⟨⟨(some 58), (some (53, true)), .load true 2 (.tmp 57)⟩, false, false, false, 0, [], none⟩,
         ⟨⟨(some 59), (some (53, true)), .mov (.tmp 0)⟩, true, false, false, 0, [], none⟩,
         ⟨⟨(some 60), (some (53, true)), .mov (.tmp 12)⟩, true, false, false, 0, [], none⟩,
         ⟨⟨(some 61), (some (53, true)), .iaddr 2 (.tmp 59) (.tmp 60)⟩, true, false, false, 0, [], none⟩,
         ⟨⟨(some 62), (some (53, true)), .load true 2 (.tmp 61)⟩, false, false, false, 0, [], none⟩], 0, [⟨(some 63), (some (53, true)), .callv (.tmp 54) [(.tmp 58), (.tmp 62)]⟩,
         ⟨(some 64), (some (53, true)), .bin .lss (.tmp 63) (.con (.int .i64 0))⟩,
         ⟨(some 65), none, .pick (.tmp 53) (.tmp 64) (.con (.bool false))⟩]⟩])
       (.cond (.tmp 65)
        .skip
        (.exit 4)))
       (.block 5 (.reg [⟨(some 66), none, .mov (.tmp 12)⟩,
          ⟨(some 67), none, .bin .sub (.tmp 66) (.con (.int .i64 1))⟩,
          ⟨(some 12), none, .mov (.tmp 67)⟩])))))
     (.seq (.seq (.reg [⟨(some 68), none, .mov (.tmp 11)⟩,
       ⟨(some 69), none, .mov (.tmp 12)⟩,
       ⟨(some 70), none, .bin .gtr (.tmp 68) (.tmp 69)⟩])
     (.cond (.tmp 70)
      (.exit 0)
      .skip))
     (.seq (.regd [⟨[⟨⟨(some 71), none, .mov (.tmp 0)⟩, true, false, false, 0, [], none⟩,
       ⟨⟨(some 72), none, .mov (.tmp 11)⟩, true, false, false, 0, [], none⟩,
       ⟨⟨(some 73), none, .mov (.tmp 0)⟩, true, false, false, 0, [], none⟩,
       ⟨⟨(some 74), none, .mov (.tmp 12)⟩, true, false, false, 0, [], none⟩,
       ⟨⟨(some 75), none, .mov (.tmp 0)⟩, true, false, false, 0, [], none⟩,
       ⟨⟨(some 76), none, .mov (.tmp 12)⟩, true, false, false, 0, [], none⟩,
       ⟨⟨(some 77), none, .iaddr 2 (.tmp 75) (.tmp 76)⟩, true, false, false, 0, [], none⟩,
       ⟨⟨(some 78), none, .load true 2 (.tmp 77)⟩, false, false, false, 0, [], none⟩,
       ⟨⟨(some 79), none, .mov (.tmp 0)⟩, true, false, false, 0, [], none⟩,
       ⟨⟨(some 80), none, .mov (.tmp 11)⟩, true, false, false, 0, [], none⟩,
       ⟨⟨(some 81), none, .iaddr 2 (.tmp 79) (.tmp 80)⟩, true, false, false, 0, [], none⟩,
       ⟨⟨(some 82), none, .load true 2 (.tmp 81)⟩, false, false, false, 0, [], none⟩,
       ⟨⟨(some 83), none, .iaddr 2 (.tmp 71) (.tmp 72)⟩, true, false, false, 0, [], none⟩,
       ⟨⟨none, none, .store 2 (.tmp 83) (.tmp 78)⟩, false, true, false, 0, [], none⟩], 0, [⟨(some 84), none, .iaddr 2 (.tmp 73) (.tmp 74)⟩,
       ⟨none, none, .store 2 (.tmp 84) (.tmp 82)⟩]⟩])
     (.seq (.reg [⟨(some 85), none, .mov (.tmp 11)⟩,
       ⟨(some 86), none, .bin .add (.tmp 85) (.con (.int .i64 1))⟩,
       ⟨(some 11), none, .mov (.tmp 86)⟩])
     (.reg [⟨(some 87), none, .mov (.tmp 12)⟩,
       ⟨(some 88), none, .bin .sub (.tmp 87) (.con (.int .i64 1))⟩,
       ⟨(some 12), none, .mov (.tmp 88)⟩])))))))))
  (.seq (.reg [⟨(some 89), none, .mov (.tmp 11)⟩,
    ⟨(some 10), none, .mov (.tmp 89)⟩])
  .ret)))))
def g99 : Fn := ⟨5, 90, [.tmp 10], b99⟩
/- slices.partitionCmpFunc[quiver/api.Hit] -/
def b100 : AC :=
  (.seq (.reg [⟨(some 10), none, .mov (.con (.int .i64 0))⟩,
    ⟨(some 11), none, .mov (.con (.bool false))⟩])
  (.seq (.regd [⟨[⟨⟨(some 14), none, .mov (.tmp 0)⟩, true, false, false, 0, [], none⟩,
    ⟨⟨(some 15), none, .mov (.tmp 1)⟩, true, false, false, 0, [], none⟩,
    ⟨⟨(some 16), none, .mov (.tmp 0)⟩, true, false, false, 0, [], none⟩,
    ⟨⟨(some 17), none, .mov (.tmp 3)⟩, true, false, false, 0, [], none⟩,
    ⟨⟨(some 18), none, .mov (.tmp 0)⟩, true, false, false, 0, [], none⟩,
    ⟨⟨(some 19), none, .mov (.tmp 3)⟩, true, false, false, 0, [], none⟩,
    ⟨⟨(some 20), none, .iaddr 2 (.tmp 18) (.tmp 19)⟩, true, false, false, 0, [], none⟩,
    ⟨⟨(some 21), none, .load true 2 (.tmp 20)⟩, false, false, false, 0, [], none⟩,
    ⟨⟨(some 22), none, .mov (.tmp 0)⟩, true, false, false, 0, [], none⟩,
    ⟨⟨(some 23), none, .mov (.tmp 1)⟩, true, false, false, 0, [], none⟩,
    ⟨⟨(some 24), none, .iaddr 2 (.tmp 22) (.tmp 23)⟩, true, false, false, 0, [], none⟩,
    ⟨⟨(some 25), none, .load true 2 (.tmp 24)⟩, false, false, false, 0, [], none⟩,
    ⟨⟨(some 26), none, .iaddr 2 (.tmp 14) (.tmp 15)⟩, true, false, false, 0, [], none⟩,
    ⟨⟨none, none, .store 2 (.tmp 26) (.tmp 21)⟩, false, true, false, 0, [], none⟩], 0, [⟨(some 27), none, .iaddr 2 (.tmp 16) (.tmp 17)⟩,
    ⟨none, none, .store 2 (.tmp 27) (.tmp 25)⟩]⟩])
  (.seq (.reg [⟨(some 28), none, .mov (.tmp 1)⟩,
    ⟨(some 29), none, .bin .add (.tmp 28) (.con (.int .i64 1))⟩,
    ⟨(some 30), none, .mov (.tmp 2)⟩,
    ⟨(some 31), none, .bin .sub (.tmp 30) (.con (.int .i64 1))⟩,
    ⟨(some 12), none, .mov (.tmp 29)⟩,
    ⟨(some 13), none, .mov (.tmp 31)⟩])
  (.seq (.block 0 (.loop (.seq (.seq (.regd [⟨[⟨⟨(some 32), none, .mov (.tmp 12)⟩, true, false, false, 0, [], none⟩,
      ⟨⟨(some 33), none, .mov (.tmp 13)⟩, true, false, false, 0, [], none⟩], 0, [⟨(some 34), none, .bin .leq (.tmp 32) (.tmp 33)⟩,
      ⟨(some 35), none, .mov (.tmp 34)⟩]⟩,
     ⟨[⟨⟨(some 36), (some (35, true)), .mov (.tmp 4)⟩, true, false, false, 0, [], none⟩,
      ⟨⟨(some 37), (some (35, true)), .mov (.tmp 0)⟩, true, false, false, 0, [], none⟩,
      ⟨⟨(some 38), (some (35, true)), .mov (.tmp 12)⟩, true, false, false, 0, [], none⟩,
      ⟨⟨(some 39), (some (35, true)), .iaddr 2 (.tmp 37) (.tmp 38)⟩, true, false, false, 0, [], none⟩,
      ⟨⟨(some 40), (some (35, true)), .load true 2 (.tmp 39)⟩, false, false, false, 0, [], none⟩,
      ⟨⟨(some 41), (some (35, true)), .mov (.tmp 0)⟩, true, false, false, 0, [], none⟩,
      ⟨⟨(some 42), (some (35, true)), .mov (.tmp 1)⟩, true, false, false, 0, [], none⟩,
      ⟨⟨(some 43), (some (35, true)), .iaddr 2 (.tmp 41) (.tmp 42)⟩, true, false, false, 0, [], none⟩,
      ⟨⟨(some 44), (some (35, true)), .load true 2 (.tmp 43)⟩, false, false, false, 0, [], none⟩], 0, [⟨(some 45), (some (35, true)), .callv (.tmp 36) [(.tmp 40), (.tmp 44)]⟩,
      ⟨(some 46), (some (35, true)), .bin .lss (.tmp 45) (.con (.int .i64 0))⟩,
      ⟨(some 47), none, .pick (.tmp 35) (.tmp 46) (.con (.bool false))⟩]⟩])
    (.cond (.tmp 47)
     .skip
     (.exit 0)))
    (.block 1 (.reg [⟨(some 48), none, .mov (.tmp 12)⟩,
       ⟨(some 49), none, .bin .add (.tmp 48) (.con (.int .i64 1))⟩,
       ⟨(some 12), none, .mov (.tmp 49)⟩])))))
  (.seq (.block 2 (.loop (.seq (.seq (.regd [⟨[⟨⟨(some 50), none, .mov (.tmp 12)⟩, true, false, false, 0, [], none⟩,
      ⟨⟨(some 51), none, .mov (.tmp 13)⟩, true, false, false, 0, [], none⟩], 0, [⟨(some 52), none, .bin .leq (.tmp 50) (.tmp 51)⟩,
      ⟨(some 53), none, .mov (.tmp 52)⟩]⟩,
     ⟨[⟨⟨(some 54), (some (53, true)), .mov (.tmp 4)⟩, true, false, false, 0, [], none⟩,
      ⟨⟨(some 55), (some (53, true)), .mov (.tmp 0)⟩, true, false, false, 0, [], none⟩,
      ⟨⟨(some 56), (some (53, true)), .mov (.tmp 13)⟩, true, false, false, 0, [], none⟩,
      ⟨⟨(some 57), (some (53, true)), .iaddr 2 (.tmp 55) (.tmp 56)⟩, true, false, false, 0, [], none⟩,
      ⟨⟨(some 58), (some (53, true)), .load true 2 (.tmp 57)⟩, false, false, false, 0, [], none⟩,
      ⟨⟨(some 59), (some (53, true)), .mov (.tmp 0)⟩, true, false, false, 0, [], none⟩,
      ⟨⟨(some 60), (some (53, true)), .mov (.tmp 1)⟩, true, false, false, 0, [], none⟩,
      ⟨⟨(some 61), (some (53, true)), .iaddr 2 (.tmp 59) (.tmp 60)⟩, true, false, false, 0, [], none⟩,
      ⟨⟨(some 62), (some (53, true)), .load true 2 (.tmp 61)⟩, false, false, false, 0, [], none⟩], 0, [⟨(some 63), (some (53, true)), .callv (.tmp 54) [(.tmp 58), (.tmp 62)]⟩,
      ⟨(some 64), (some (53, true)), .bin .lss (.tmp 63) (.con (.int .i64 0))⟩,
      ⟨(some 65), (some (53, true)), .un .not (.tmp 64)⟩,
      ⟨(some 66), none, .pick (.tmp 53) (.tmp 65) (.con (.bool false))⟩]⟩])
    (.cond (.tmp 66)
     .skip
     (.exit 2)))
    (.block 3 (.reg [⟨(some 67), none, .mov (.tmp 13)⟩,
       ⟨(some 68), none, .bin .sub (.tmp 67) (.con (.int .i64 1))⟩,
       ⟨(some 13), none, .mov (.tmp 68)⟩])))))
  (.seq (.seq (.reg [⟨(some 69), none, .mov (.tmp 12)⟩,
    ⟨(some 70), none, .mov (.tmp 13)⟩,
    ⟨(some 71), none, .bin .gtr (.tmp 69) (.tmp 70)⟩])
  (.cond (.tmp 71)
   (.seq (.regd [⟨[⟨⟨(some 72), none, .mov (.tmp 0)⟩, true, false, false, 0, [], none⟩,
     ⟨⟨(some 73), none, .mov (.tmp 13)⟩, true, false, false, 0, [], none⟩,
     ⟨⟨(some 74), none, .mov (.tmp 0)⟩, true, false, false, 0, [], none⟩,
     ⟨⟨(some 75), none, .mov (.tmp 1)⟩, true, false, false, 0, [], none⟩,
     ⟨⟨(some 76), none, .mov (.tmp 0)⟩, true, false, false, 0, [], none⟩,
     ⟨⟨(some 77), none, .mov (.tmp 1)⟩, true, false, false, 0, [], none⟩,
     ⟨⟨(some 78), none, .iaddr 2 (.tmp 76) (.tmp 77)⟩, true, false, false, 0, [], none⟩,
     ⟨⟨(some 79), none, .load true 2 (.tmp 78)⟩, false, false, false, 0, [], none⟩,
     ⟨⟨(some 80), none, .mov (.tmp 0)⟩, true, false, false, 0, [], none⟩,
     ⟨⟨(some 81), none, .mov (.tmp 13)⟩, true, false, false, 0, [], none⟩,
     ⟨⟨(some 82), none, .iaddr 2 (.tmp 80) (.tmp 81)⟩, true, false, false, 0, [], none⟩,
     ⟨⟨(some 83), none, .load true 2 (.tmp 82)⟩, false, false, false, 0, [], none⟩,
     ⟨⟨(some 84), none, .iaddr 2 (.tmp 72) (.tmp 73)⟩, true, false, false, 0, [], none⟩,
     ⟨⟨none, none, .store 2 (.tmp 84) (.tmp 79)⟩, false, true, false, 0, [], none⟩], 0, [⟨(some 85), none, .iaddr 2 (.tmp 74) (.tmp 75)⟩,
     ⟨none, none, .store 2 (.tmp 85) (.tmp 83)⟩]⟩])
   (.seq (.reg [⟨(some 86), none, .mov (.tmp 13)⟩,
     ⟨(some 10), none, .mov (.tmp 86)⟩,
     ⟨(some 11), none, .mov (.con (.bool true))⟩])
   .ret))
   .skip))
  (.seq (.regd [⟨[⟨⟨(some 87), none, .mov (.tmp 0)⟩, true, false, false, 0, [], none⟩,
    ⟨⟨(some 88), none, .mov (.tmp 12)⟩, true, false, false, 0, [], none⟩,
    ⟨⟨(some 89), none, .mov (.tmp 0)⟩, true, false, false, 0, [], none⟩,
    ⟨⟨(some 90), none, .mov (.tmp 13)⟩, true, false, false, 0, [], none⟩,
    ⟨⟨(some 91), none, .mov (.tmp 0)⟩, true, false, false, 0, [], none⟩,
    ⟨⟨(some 92), none, .mov (.tmp 13)⟩, true, false, false, 0, [], none⟩,
    ⟨⟨(some 93), none, .iaddr 2 (.tmp 91) (.tmp 92)⟩, true, false, false, 0, [], none⟩,
    ⟨⟨(some 94), none, .load true 2 (.tmp 93)⟩, false, false, false, 0, [], none⟩,
    ⟨⟨(some 95), none, .mov (.tmp 0)⟩, true, false, false, 0, [], none⟩,
    ⟨⟨(some 96), none, .mov (.tmp 12)⟩, true, false, false, 0, [], none⟩,
    ⟨⟨(some 97), none, .iaddr 2 (.tmp 95) (.tmp 96)⟩, true, false, false, 0, [], none⟩,
    ⟨⟨(some 98), none, .load true 2 (.tmp 97)⟩, false, false, false, 0, [], none⟩,
    ⟨⟨(some 99), none, .iaddr 2 (.tmp 87) (.tmp 88)⟩, true, false, false, 0, [], none⟩,
    ⟨⟨none, none, .store 2 (.tmp 99) (.tmp 94)⟩, false, true, false, 0, [], none⟩], 0, [⟨(some 100), none, .iaddr 2 (.tmp 89) (.tmp 90)⟩,
    ⟨none, none, .store 2 (.tmp 100) (.tmp 98)⟩]⟩])
  (.seq (.reg [⟨(some 101), none, .mov (.tmp 12)⟩,
    ⟨(some 102), none, .bin .add (.tmp 101) (.con (.int .i64 1))⟩,
    ⟨(some 12), none, .mov (.tmp 102)⟩])
  (.seq (.reg [⟨(some 103), none, .mov (.tmp 13)⟩,
    ⟨(some 104), none, .bin .sub (.tmp 103) (.con (.int .i64 1))⟩,
    ⟨(some 13), none, .mov (.tmp 104)⟩])
  (.seq (.block 4 (.loop (.block 5 (.seq (.block 6 (.loop (.seq (.seq (.regd [⟨[⟨⟨(some 105), none, .mov (.tmp 12)⟩, true, false, false, 0, [], none⟩,
         ⟨⟨(some 106), none, .mov (.tmp 13)⟩, true, false, false, 0, [], none⟩], 0, [⟨(some 107), none, .bin .leq (.tmp 105) (.tmp 106)⟩,
         ⟨(some 108), none, .mov (.tmp 107)⟩]⟩,
        ⟨[⟨⟨(some 109), (some (108, true)), .mov (.tmp 4)⟩, true, false, false, 0, [], none⟩,
         ⟨⟨(some 110), (some (108, true)), .mov (.tmp 0)⟩, true, false, false, 0, [], none⟩,
         ⟨⟨(some 111), (some (108, true)), .mov (.tmp 12)⟩, true, false, false, 0, [], none⟩,
         ⟨⟨(some 112), (some (108, true)), .iaddr 2 (.tmp 110) (.tmp 111)⟩, true, false, false, 0, [], none⟩,
         ⟨⟨(some 113), (some (108, true)), .load true 2 (.tmp 112)⟩, false, false, false, 0, [], none⟩,
         ⟨⟨(some 114), (some (108, true)), .mov (.tmp 0)⟩, true, false, false, 0, [], none⟩,
         ⟨⟨(some 115), (some (108, true)), .mov (.tmp 1)⟩, true, false, false, 0, [], none⟩,
         ⟨⟨(some 116), (some (108, true)), .iaddr 2 (.tmp 114) (.tmp 115)⟩, true, false, false, 0, [], none⟩,
         ⟨⟨(some 117), (some (108, true)), .load true 2 (.tmp 116)⟩, false, false, false, 0, [], none⟩], 0, [⟨(some 118), (some (108, true)), .callv (.tmp 109) [(.tmp 113), (.tmp 117)]⟩,
         ⟨(some 119), (some (108, true)), .bin .lss (.tmp 118) (.con (.int .i64 0))⟩,
         ⟨(some 120), none, .pick (.tmp 108) (.tmp 119) (.con (.bool false))⟩]⟩])
       (.cond (.tmp 120)
        .skip
        (.exit 6)))
       (.block 7 (.reg [⟨(some 121), none, .mov (.tmp 12)⟩,
          ⟨(some 122), none, .bin .add (.tmp 121) (.con (.int .i64 1))⟩,
          ⟨(some 12), none, .mov (.tmp 122)⟩])))))
     (.seq (.block 8 (.loop (.seq (.seq (.regd [⟨[⟨⟨(some 123), none, .mov (.tmp 12)⟩, true, false, false, 0, [], none⟩,
         ⟨⟨(some 124), none, .mov (.tmp 13)⟩, true, false, false, 0, [], none⟩], 0, [⟨(some 125), none, .bin .leq (.tmp 123) (.tmp 124)⟩,
         ⟨(some 126), none, .mov (.tmp 125)⟩]⟩,
        ⟨[⟨⟨(some 127), (some (126, true)), .mov (.tmp 4)⟩, true, false, false, 0, [], none⟩,
         ⟨⟨(some 128), (some (126, true)), .mov (.tmp 0)⟩, true, false, false, 0, [], none⟩,
         ⟨⟨(some 129), (some (126, true)), .mov (.tmp 13)⟩, true, false, false, 0, [], none⟩,
         ⟨⟨(some 130), (some (126, true)), .iaddr 2 (.tmp 128) (.tmp 129)⟩, true, false, false, 0, [], none⟩,
         ⟨⟨(some 131), (some (126, true)), .load true 2 (.tmp 130)⟩, false, false, false, 0, [], none⟩,
         ⟨⟨(some 132), (some (126, true)), .mov (.tmp 0)⟩, true, false, false, 0, [], none⟩,
         ⟨⟨(some 133), (some (126, true)), .mov (.tmp 1)⟩, true, false, false, 0, [], none⟩,
         ⟨⟨(some 134), (some (126, true)), .iaddr 2 (.tmp 132) (.tmp 133)⟩, true, false, false, 0, [], none⟩,
         ⟨⟨(some 135), (some (126, true)), .load true 2 (.tmp 134)⟩, false, false, false, 0, [], none⟩], 0, [⟨(some 136), (some (126, true)), .callv (.tmp 127) [(.tmp 131), (.tmp 135)]⟩,
         ⟨(some 137), (some (126, true)), .bin .lss (.tmp 136) (.con (.int .i64 0))⟩,
         ⟨(some 138), (some (126, true)), .un .not (.tmp 137)⟩,
         ⟨(some 139), none, .pick (.tmp 126) (.tmp 138) (.con (.bool false))⟩]⟩])
       (.cond (.tmp 139)
        .skip
        (.exit 8)))
       (.block 9 (.reg [⟨(some 140), none, .mov (.tmp 13)⟩,
          ⟨(some 141), none, .bin .sub (.tmp 140) (.con (.int .i64 1))⟩,
          ⟨(some 13), none, .mov (.tmp 141)⟩])))))
     (.seq (.seq (.reg [⟨(some 142), none, .mov (.tmp 12)⟩,
       ⟨(some 143), none, .mov (.tmp 13)⟩,
       ⟨(some 144), none, .bin .gtr (.tmp 142) (.tmp 143)⟩])
     (.cond (.tmp 144)
      (.exit 4)
      .skip))
     (.seq (.regd [⟨[⟨⟨(some 145), none, .mov (.tmp 0)⟩, true, false, false, 0, [], none⟩,
       ⟨⟨(some 146), none, .mov (.tmp 12)⟩, true, false, false, 0, [], none⟩,
       ⟨⟨(some 147), none, .mov (.tmp 0)⟩, true, false, false, 0, [], none⟩,
       ⟨⟨(some 148), none, .mov (.tmp 13)⟩, true, false, false, 0, [], none⟩,
       ⟨⟨(some 149), none, .mov (.tmp 0)⟩, true, false, false, 0, [], none⟩,
       ⟨⟨(some 150), none, .mov (.tmp 13)⟩, true, false, false, 0, [], none⟩,
       ⟨⟨(some 151), none, .iaddr 2 (.tmp 149) (.tmp 150)⟩, true, false, false, 0, [], none⟩,
       ⟨⟨(some 152), none, .load true 2 (.tmp 151)⟩, false, false, false, 0, [], none⟩,
       ⟨⟨(some 153), none, .mov (.tmp 0)⟩, true, false, false, 0, [], none⟩,
       ⟨⟨(some 154), none, .mov (.tmp 12)⟩, true, false, false, 0, [], none⟩,
       ⟨⟨(some 155), none, .iaddr 2 (.tmp 153) (.tmp 154)⟩, true, false, false, 0, [], none⟩,
       ⟨⟨(some 156), none, .load true 2 (.tmp 155)⟩, false, false, false, 0, [], none⟩,
       ⟨⟨(some 157), none, .iaddr 2 (.tmp 145) (.tmp 146)⟩, true, false, false, 0, [], none⟩,
       ⟨⟨none, none, .store 2 (.tmp 157) (.tmp 152)⟩, false, true, false, 0, [], none⟩], 0, [⟨(some 158), none, .iaddr 2 (.tmp 147) (.tmp 148)⟩,
       ⟨none, none, .store 2 (.tmp 158) (.tmp 156)⟩]⟩])
     (.seq (.reg [⟨(some 159), none, .mov (.tmp 12)⟩,
       ⟨(some 160), none, .bin .add (.tmp 159) (.con (.int .i64 1))⟩,
       ⟨(some 12), none, .mov (.tmp 160)⟩])
     (.reg [⟨(some 161), none, .mov (.tmp 13)⟩,
       ⟨(some 162), none, .bin .sub (.tmp 161) (.con (.int .i64 1))⟩,
       ⟨(some 13), none, .mov (.tmp 162)⟩])))))))))
  (.seq (.regd [⟨[⟨⟨(some 163), none, .mov (.tmp 0)⟩, true, false, false, 0, [], none⟩,
    ⟨⟨(some 164), none, .mov (.tmp 13)⟩, true, false, false, 0, [], none⟩,
    ⟨⟨(some 165), none, .mov (.tmp 0)⟩, true, false, false, 0, [], none⟩,
    ⟨⟨(some 166), none, .mov (.tmp 1)⟩, true, false, false, 0, [], none⟩,
    ⟨⟨(some 167), none, .mov (.tmp 0)⟩, true, false, false, 0, [], none⟩,
    ⟨⟨(some 168), none, .mov (.tmp 1)⟩, true, false, false, 0, [], none⟩,
    ⟨⟨(some 169), none, .iaddr 2 (.tmp 167) (.tmp 168)⟩, true, false, false, 0, [], none⟩,
    ⟨⟨(some 170), none, .load true 2 (.tmp 169)⟩, false, false, false, 0, [], none⟩,
    ⟨⟨(some 171), none, .mov (.tmp 0)⟩, true, false, false, 0, [], none⟩,
    ⟨⟨(some 172), none, .mov (.tmp 13)⟩, true, false, false, 0, [], none⟩,
    ⟨⟨(some 173), none, .iaddr 2 (.tmp 171) (.tmp 172)⟩, true, false, false, 0, [], none⟩,
    ⟨⟨(some 174), none, .load true 2 (.tmp 173)⟩, false, false, false, 0, [], none⟩,
    ⟨⟨(some 175), none, .iaddr 2 (.tmp 163) (.tmp 164)⟩, true, false, false, 0, [], none⟩,
    ⟨⟨none, none, .store 2 (.tmp 175) (.tmp 170)⟩, false, true, false, 0, [], none⟩], 0, [⟨(some 176), none, .iaddr 2 (.tmp 165) (.tmp 166)⟩,
    ⟨none, none, .store 2 (.tmp 176) (.tmp 174)⟩]⟩])
  (.seq (.reg [⟨(some 177), none, .mov (.tmp 13)⟩,
    ⟨(some 10), none, .mov (.tmp 177)⟩,
    ⟨(some 11), none, .mov (.con (.bool false))⟩])
  .ret))))))))))))
def g100 : Fn := ⟨5, 178, [.tmp 10, .tmp 11], b100⟩
/- math/bits.Len32 -/
def b101 : AC :=
  (.seq (.reg [⟨(some 2), none, .mov (.con (.int .i64 0))⟩])
  (.seq (.seq (.reg [⟨(some 3), none, .mov (.tmp 0)⟩,
    ⟨(some 4), none, .bin .geq (.tmp 3) (.con (.int .u32 65536))⟩])
  (.cond (.tmp 4)
   (.seq (.reg [⟨(some 5), none, .mov (.tmp 0)⟩,
     ⟨(some 6), none, .bin .shr (.tmp 5) (.con (.int .u64 16))⟩,
     ⟨(some 0), none, .mov (.tmp 6)⟩])
   (.reg [⟨(some 2), none, .mov (.con (.int .i64 16))⟩]))
   .skip))
  (.seq (.seq (.reg [⟨(some 7), none, .mov (.tmp 0)⟩,
    ⟨(some 8), none, .bin .geq (.tmp 7) (.con (.int .u32 256))⟩])
  (.cond (.tmp 8)
   (.seq (.reg [⟨(some 9), none, .mov (.tmp 0)⟩,
     ⟨(some 10), none, .bin .shr (.tmp 9) (.con (.int .u64 8))⟩,
     ⟨(some 0), none, .mov (.tmp 10)⟩])
   (.reg [⟨(some 11), none, .mov (.tmp 2)⟩,
     ⟨(some 12), none, .bin .add (.tmp 11) (.con (.int .i64 8))⟩,
     ⟨(some 2), none, .mov (.tmp 12)⟩]))
   .skip))
  (.seq (.reg [⟨(some 13), none, .mov (.tmp 2)⟩,
    ⟨(some 14), none, .mov (.tmp 0)⟩,
    ⟨(some 15), none, .conv .u8 (.tmp 14)⟩,
    ⟨(some 16), none, .idxS (.con (.str ⟨#[0, 1, 2, 2, 3, 3, 3, 3, 4, 4, 4, 4, 4, 4, 4, 4, 5, 5, 5, 5, 5, 5, 5, 5, 5, 5, 5, 5, 5, 5, 5, 5, 6, 6, 6, 6, 6, 6, 6, 6, 6, 6, 6, 6, 6, 6, 6, 6, 6, 6, 6, 6, 6, 6, 6, 6, 6, 6, 6, 6, 6, 6, 6, 6, 7, 7, 7, 7, 7, 7, 7, 7, 7, 7, 7, 7, 7, 7, 7, 7, 7, 7, 7, 7, 7, 7, 7, 7, 7, 7, 7, 7, 7, 7, 7, 7, 7, 7, 7, 7, 7, 7, 7, 7, 7, 7, 7, 7, 7, 7, 7, 7, 7, 7, 7, 7, 7, 7, 7, 7, 7, 7, 7, 7, 7, 7, 7, 7, 8, 8, 8, 8, 8, 8, 8, 8, 8, 8, 8, 8, 8, 8, 8, 8, 8, 8, 8, 8, 8, 8, 8, 8, 8, 8, 8, 8, 8, 8, 8, 8, 8, 8, 8, 8, 8, 8, 8, 8, 8, 8, 8, 8, 8, 8, 8, 8, 8, 8, 8, 8, 8, 8, 8, 8, 8, 8, 8, 8, 8, 8, 8, 8, 8, 8, 8, 8, 8, 8, 8, 8, 8, 8, 8, 8, 8, 8, 8, 8, 8, 8, 8, 8, 8, 8, 8, 8, 8, 8, 8, 8, 8, 8, 8, 8, 8, 8, 8, 8, 8, 8, 8, 8, 8, 8, 8, 8, 8, 8, 8, 8, 8, 8, 8, 8, 8, 8, 8, 8, 8, 8, 8, 8, 8, 8, 8, 8]⟩)) (.tmp 15)⟩,
    ⟨(some 17), none, .conv .i64 (.tmp 16)⟩,
    ⟨(some 18), none, .bin .add (.tmp 13) (.tmp 17)⟩,
    ⟨(some 2), none, .mov (.tmp 18)⟩])
  .ret))))
def g101 : Fn := ⟨1, 19, [.tmp 2], b101⟩
/- math/bits.Len64 -/
def b102 : AC :=
  (.seq (.reg [⟨(some 2), none, .mov (.con (.int .i64 0))⟩])
  (.seq (.seq (.reg [⟨(some 3), none, .mov (.tmp 0)⟩,
    ⟨(some 4), none, .bin .geq (.tmp 3) (.con (.int .u64 4294967296))⟩])
  (.cond (.tmp 4)
   (.seq (.reg [⟨(some 5), none, .mov (.tmp 0)⟩,
     ⟨(some 6), none, .bin .shr (.tmp 5) (.con (.int .u64 32))⟩,
     ⟨(some 0), none, .mov (.tmp 6)⟩])
   (.reg [⟨(some 2), none, .mov (.con (.int .i64 32))⟩]))
   .skip))
  (.seq (.seq (.reg [⟨(some 7), none, .mov (.tmp 0)⟩,
    ⟨(some 8), none, .bin .geq (.tmp 7) (.con (.int .u64 65536))⟩])
  (.cond (.tmp 8)
   (.seq (.reg [⟨(some 9), none, .mov (.tmp 0)⟩,
     ⟨(some 10), none, .bin .shr (.tmp 9) (.con (.int .u64 16))⟩,
     ⟨(some 0), none, .mov (.tmp 10)⟩])
   (.reg [⟨(some 11), none, .mov (.tmp 2)⟩,
     ⟨(some 12), none, .bin .add (.tmp 11) (.con (.int .i64 16))⟩,
     ⟨(some 2), none, .mov (.tmp 12)⟩]))
   .skip))
  (.seq (.seq (.reg [⟨(some 13), none, .mov (.tmp 0)⟩,
    ⟨(some 14), none, .bin .geq (.tmp 13) (.con (.int .u64 256))⟩])
  (.cond (.tmp 14)
   (.seq (.reg [⟨(some 15), none, .mov (.tmp 0)⟩,
     ⟨(some 16), none, .bin .shr (.tmp 15) (.con (.int .u64 8))⟩,
     ⟨(some 0), none, .mov (.tmp 16)⟩])
   (.reg [⟨(some 17), none, .mov (.tmp 2)⟩,
     ⟨(some 18), none, .bin .add (.tmp 17) (.con (.int .i64 8))⟩,
     ⟨(some 2), none, .mov (.tmp 18)⟩]))
   .skip))
  (.seq (.reg [⟨(some 19), none, .mov (.tmp 2)⟩,
    ⟨(some 20), none, .mov (.tmp 0)⟩,
    ⟨(some 21), none, .conv .u8 (.tmp 20)⟩,
    ⟨(some 22), none, .idxS (.con (.str ⟨#[0, 1, 2, 2, 3, 3, 3, 3, 4, 4, 4, 4, 4, 4, 4, 4, 5, 5, 5, 5, 5, 5, 5, 5, 5, 5, 5, 5, 5, 5, 5, 5, 6, 6, 6, 6, 6, 6, 6, 6, 6, 6, 6, 6, 6, 6, 6, 6, 6, 6, 6, 6, 6, 6, 6, 6, 6, 6, 6, 6, 6, 6, 6, 6, 7, 7, 7, 7, 7, 7, 7, 7, 7, 7, 7, 7, 7, 7, 7, 7, 7, 7, 7, 7, 7, 7, 7, 7, 7, 7, 7, 7, 7, 7, 7, 7, 7, 7, 7, 7, 7, 7, 7, 7, 7, 7, 7, 7, 7, 7, 7, 7, 7, 7, 7, 7, 7, 7, 7, 7, 7, 7, 7, 7, 7, 7, 7, 7, 8, 8, 8, 8, 8, 8, 8, 8, 8, 8, 8, 8, 8, 8, 8, 8, 8, 8, 8, 8, 8, 8, 8, 8, 8, 8, 8, 8, 8, 8, 8, 8, 8, 8, 8, 8, 8, 8, 8, 8, 8, 8, 8, 8, 8, 8, 8, 8, 8, 8, 8, 8, 8, 8, 8, 8, 8, 8, 8, 8, 8, 8, 8, 8, 8, 8, 8, 8, 8, 8, 8, 8, 8, 8, 8, 8, 8, 8, 8, 8, 8, 8, 8, 8, 8, 8, 8, 8, 8, 8, 8, 8, 8, 8, 8, 8, 8, 8, 8, 8, 8, 8, 8, 8, 8, 8, 8, 8, 8, 8, 8, 8, 8, 8, 8, 8, 8, 8, 8, 8, 8, 8, 8, 8, 8, 8, 8, 8]⟩)) (.tmp 21)⟩,
    ⟨(some 23), none, .conv .i64 (.tmp 22)⟩,
    ⟨(some 24), none, .bin .add (.tmp 19) (.tmp 23)⟩,
    ⟨(some 2), none, .mov (.tmp 24)⟩])
  .ret)))))
def g102 : Fn := ⟨1, 25, [.tmp 2], b102⟩
/- slices.Equal[[]int32,int32] -/
def b105 : AC :=
  (.seq (.reg [⟨(some 4), none, .mov (.con (.bool false))⟩])
  (.seq (.seq (.reg [⟨(some 6), none, .mov (.tmp 0)⟩,
    ⟨(some 7), none, .len (.tmp 6)⟩,
    ⟨(some 8), none, .mov (.tmp 1)⟩,
    ⟨(some 9), none, .len (.tmp 8)⟩,
    ⟨(some 10), none, .bin .neq (.tmp 7) (.tmp 9)⟩])
  (.cond (.tmp 10)
   (.seq (.reg [⟨(some 4), none, .mov (.con (.bool false))⟩])
   .ret)
   .skip))
  (.seq (.seq (.reg [⟨(some 11), none, .mov (.tmp 0)⟩,
    ⟨(some 12), none, .len (.tmp 11)⟩,
    ⟨(some 13), none, .mov (.con (.int .i64 0))⟩])
  (.block 0 (.loop (.seq (.reg [⟨(some 14), none, .bin .lss (.tmp 13) (.tmp 12)⟩])
    (.seq (.cond (.tmp 14)
     .skip
     (.exit 0))
    (.seq (.block 1 (.seq (.reg [⟨(some 15), none, .mov (.tmp 13)⟩,
       ⟨(some 5), none, .mov (.tmp 15)⟩])
     (.seq (.regd [⟨[⟨⟨(some 16), none, .mov (.tmp 0)⟩, true, false, false, 0, [], none⟩,
       ⟨⟨(some 17), none, .mov (.tmp 5)⟩, true, false, false, 0, [], none⟩,
       ⟨⟨(some 18), none, .iaddr 1 (.tmp 16) (.tmp 17)⟩, true, false, false, 0, [], none⟩,
       ⟨⟨(some 19), none, .load false 1 (.tmp 18)⟩, false, false, false, 0, [], none⟩,
       ⟨⟨(some 20), none, .mov (.tmp 1)⟩, true, false, false, 0, [], none⟩,
       ⟨⟨(some 21), none, .mov (.tmp 5)⟩, true, false, false, 0, [], none⟩,
       ⟨⟨(some 22), none, .iaddr 1 (.tmp 20) (.tmp 21)⟩, true, false, false, 0, [], none⟩,
       ⟨⟨(some 23), none, .load false 1 (.tmp 22)⟩, false, false, false, 0, [], none⟩], 0, [⟨(some 24), none, .bin .neq (.tmp 19) (.tmp 23)⟩]⟩])
     (.cond (.tmp 24)
      (.seq (.reg [⟨(some 4), none, .mov (.con (.bool false))⟩])
      .ret)
      .skip))))
    (.reg [⟨(some 25), none, .bin .add (.tmp 13) (.con (.int .i64 1))⟩,
      ⟨(some 13), none, .mov (.tmp 25)⟩])))))))
  (.seq (.reg [⟨(some 4), none, .mov (.con (.bool true))⟩])
  .ret))))
def g105 : Fn := ⟨2, 26, [.tmp 4], b105⟩
/- slices.siftDownCmpFunc[quiver/api.Hit] -/
def b106 : AC :=
  (.seq (.reg [⟨(some 12), none, .mov (.tmp 1)⟩,
    ⟨(some 10), none, .mov (.tmp 12)⟩])
  (.block 0 (.loop (.block 1 (.seq (.reg [⟨(some 13), none, .mov (.tmp 10)⟩,
       ⟨(some 14), none, .bin .mul (.con (.int .i64 2)) (.tmp 13)⟩,
       ⟨(some 15), none, .bin .add (.tmp 14) (.con (.int .i64 1))⟩,
       ⟨(some 11), none, .mov (.tmp 15)⟩])
     (.seq (.seq (.reg [⟨(some 16), none, .mov (.tmp 11)⟩,
       ⟨(some 17), none, .mov (.tmp 2)⟩,
       ⟨(some 18), none, .bin .geq (.tmp 16) (.tmp 17)⟩])
     (.cond (.tmp 18)
      (.exit 0)
      .skip))
     (.seq (.seq (.regd [⟨[⟨⟨(some 19), none, .mov (.tmp 11)⟩, true, false, false, 0, [], none⟩,
       ⟨⟨(some 20), none, .bin .add (.tmp 19) (.con (.int .i64 1))⟩, true, false, false, 0, [], none⟩,
       ⟨⟨(some 21), none, .mov (.tmp 2)⟩, true, false, false, 0, [], none⟩], 0, [⟨(some 22), none, .bin .lss (.tmp 20) (.tmp 21)⟩,
       ⟨(some 23), none, .mov (.tmp 22)⟩]⟩,
      ⟨[⟨⟨(some 24), (some (23, true)), .mov (.tmp 4)⟩, true, false, false, 0, [], none⟩,
       ⟨⟨(some 25), (some (23, true)), .mov (.tmp 0)⟩, true, false, false, 0, [], none⟩,
       ⟨⟨(some 26), (some (23, true)), .mov (.tmp 3)⟩, true, false, false, 0, [], none⟩,
       ⟨⟨(some 27), (some (23, true)), .mov (.tmp 11)⟩, true, false, false, 0, [], none⟩,
       ⟨⟨(some 28), (some (23, true)), .bin .add (.tmp 26) (.tmp 27)⟩, true, false, false, 0, [], none⟩,
       ⟨⟨(some 29), (some (23, true)), .iaddr 2 (.tmp 25) (.tmp 28)⟩, true, false, false, 0, [], none⟩,
       ⟨⟨(some 30), (some (23, true)), .load true 2 (.tmp 29)⟩, false, false, false, 0, [], none⟩,
       ⟨⟨(some 31), (some (23, true)), .mov (.tmp 0)⟩, true, false, false, 0, [], none⟩,
       ⟨⟨(some 32), (some (23, true)), .mov (.tmp 3)⟩, true, false, false, 0, [], none⟩,
       ⟨⟨(some 33), (some (23, true)), .mov (.tmp 11)⟩, true, false, false, 0, [], none⟩,
       ⟨⟨(some 34), (some (23, true)), .bin .add (.tmp 32) (.tmp 33)⟩, true, false, false, 0, [], none⟩,
       ⟨⟨(some 35), (some (23, true)), .bin .add (.tmp 34) (.con (.int .i64 1))⟩, true, false, false, 0, [], none⟩,
       ⟨⟨(some 36), (some (23, true)), .iaddr 2 (.tmp 31) (.tmp 35)⟩, true, false, false, 0, [], none⟩,
       ⟨⟨(some 37), (some (23, true)), .load true 2 (.tmp 36)⟩, false, false, false, 0, [], none⟩], 0, [⟨(some 38), (some (23, true)), .callv (.tmp 24) [(.tmp 30), (.tmp 37)]⟩,
       ⟨(some 39), (some (23, true)), .bin .lss (.tmp 38) (.con (.int .i64 0))⟩,
       ⟨(some 40), none, .pick (.tmp 23) (.tmp 39) (.con (.bool false))⟩]⟩])
     (.cond (.tmp 40)
      (.reg [⟨(some 41), none, .mov (.tmp 11)⟩,
        ⟨(some 42), none, .bin .add (.tmp 41) (.con (.int .i64 1))⟩,
        ⟨(some 11), none, .mov (.tmp 42)⟩])
      .skip))
     (.seq (.seq (.regd [⟨[⟨⟨(some 43), none, .mov (.tmp 4)⟩, true, false, false, 0, [], none⟩,
       ⟨⟨(some 44), none, .mov (.tmp 0)⟩, true, false, false, 0, [], none⟩,
       ⟨⟨(some 45), none, .mov (.tmp 3)⟩, true, false, false, 0, [], none⟩,
       ⟨⟨(some 46), none, .mov (.tmp 10)⟩, true, false, false, 0, [], none⟩,
       ⟨⟨(some 47), none, .bin .add (.tmp 45) (.tmp 46)⟩, true, false, false, 0, [], none⟩,
       ⟨⟨(some 48), none, .iaddr 2 (.tmp 44) (.tmp 47)⟩, true, false, false, 0, [], none⟩,
       ⟨⟨(some 49), none, .load true 2 (.tmp 48)⟩, false, false, false, 0, [], none⟩,
       ⟨⟨(some 50), none, .mov (.tmp 0)⟩, true, false, false, 0, [], none⟩,
       ⟨⟨(some 51), none, .mov (.tmp 3)⟩, true, false, false, 0, [], none⟩,
       ⟨⟨(some 52), none, .mov (.tmp 11)⟩, true, false, false, 0, [], none⟩,
       ⟨⟨(some 53), none, .bin .add (.tmp 51) (.tmp 52)⟩, true, false, false, 0, [], none⟩,
       ⟨⟨(some 54), none, .iaddr 2 (.tmp 50) (.tmp 53)⟩, true, false, false, 0, [], none⟩,
       ⟨⟨(some 55), none, .load true 2 (.tmp 54)⟩, false, false, false, 0, [], none⟩], 0, [⟨(some 56), none, .callv (.tmp 43) [(.tmp 49), (.tmp 55)]⟩,
       ⟨(some 57), none, .bin .lss (.tmp 56) (.con (.int .i64 0))⟩,
       ⟨(some 58), none, .un .not (.tmp 57)⟩]⟩])
     (.cond (.tmp 58)
      .ret
      .skip))
     (.seq (.regd [⟨[⟨⟨(some 59), none, .mov (.tmp 0)⟩, true, false, false, 0, [], none⟩,
       ⟨⟨(some 60), none, .mov (.tmp 3)⟩, true, false, false, 0, [], none⟩,
       ⟨⟨(some 61), none, .mov (.tmp 10)⟩, true, false, false, 0, [], none⟩,
       ⟨⟨(some 62), none, .bin .add (.tmp 60) (.tmp 61)⟩, true, false, false, 0, [], none⟩,
       ⟨⟨(some 63), none, .mov (.tmp 0)⟩, true, false, false, 0, [], none⟩,
       ⟨⟨(some 64), none, .mov (.tmp 3)⟩, true, false, false, 0, [], none⟩,
       ⟨⟨(some 65), none, .mov (.tmp 11)⟩, true, false, false, 0, [], none⟩,
       ⟨⟨(some 66), none, .bin .add (.tmp 64) (.tmp 65)⟩, true, false, false, 0, [], none⟩,
       ⟨⟨(some 67), none, .mov (.tmp 0)⟩, true, false, false, 0, [], none⟩,
       ⟨⟨(some 68), none, .mov (.tmp 3)⟩, true, false, false, 0, [], none⟩,
       ⟨⟨(some 69), none, .mov (.tmp 11)⟩, true, false, false, 0, [], none⟩,
       ⟨⟨(some 70), none, .bin .add (.tmp 68) (.tmp 69)⟩, true, false, false, 0, [], none⟩,
       ⟨⟨(some 71), none, .iaddr 2 (.tmp 67) (.tmp 70)⟩, true, false, false, 0, [], none⟩,
       ⟨⟨(some 72), none, .load true 2 (.tmp 71)⟩, false, false, false, 0, [], none⟩,
       ⟨⟨(some 73), none, .mov (.tmp 0)⟩, true, false, false, 0, [], none⟩,
       ⟨⟨(some 74), none, .mov (.tmp 3)⟩, true, false, false, 0, [], none⟩,
       ⟨⟨(some 75), none, .mov (.tmp 10)⟩, true, false, false, 0, [], none⟩,
       ⟨⟨(some 76), none, .bin .add (.tmp 74) (.tmp 75)⟩, true, false, false, 0, [], none⟩,
       ⟨⟨(some 77), none, .iaddr 2 (.tmp 73) (.tmp 76)⟩, true, false, false, 0, [], none⟩,
       ⟨⟨(some 78), none, .load true 2 (.tmp 77)⟩, false, false, false, 0, [], none⟩,
       ⟨⟨(some 79), none, .iaddr 2 (.tmp 59) (.tmp 62)⟩, true, false, false, 0, [], none⟩,
       ⟨⟨none, none, .store 2 (.tmp 79) (.tmp 72)⟩, false, true, false, 0, [], none⟩], 0, [⟨(some 80), none, .iaddr 2 (.tmp 63) (.tmp 66)⟩,
       ⟨none, none, .store 2 (.tmp 80) (.tmp 78)⟩]⟩])
     (.reg [⟨(some 81), none, .mov (.tmp 11)⟩,
       ⟨(some 10), none, .mov (.tmp 81)⟩]))))))))))
def g106 : Fn := ⟨5, 82, [], b106⟩
/- slices.nextPowerOfTwo -/
def b107 : AC :=
  (.seq (.reg [⟨(some 2), none, .mov (.con (.int .u64 0))⟩])
  (.seq (.reg [⟨(some 3), none, .mov (.tmp 0)⟩,
    ⟨(some 4), none, .conv .u64 (.tmp 3)⟩,
    ⟨(some 5), none, .call 87 [(.tmp 4)]⟩,
    ⟨(some 6), none, .bin .shl (.con (.int .u64 1)) (.tmp 5)⟩,
    ⟨(some 2), none, .mov (.tmp 6)⟩])
  .ret))
def g107 : Fn := ⟨1, 7, [.tmp 2], b107⟩
/- (*slices.xorshift).Next -/
def b108 : AC :=
  (.seq (.reg [⟨(some 2), none, .mov (.con (.int .u64 0))⟩])
  (.seq (.regd [⟨[⟨⟨(some 3), none, .mov (.tmp 0)⟩, true, false, false, 0, [], none⟩,
    ⟨⟨(some 4), none, .nilck (.tmp 3)⟩, true, false, false, 0, [], none⟩,
    ⟨⟨(some 5), none, .load false 1 (.tmp 4)⟩, false, false, false, 0, [], none⟩,
    ⟨⟨(some 6), none, .mov (.tmp 0)⟩, true, false, false, 0, [], none⟩,
    ⟨⟨(some 7), none, .nilck (.tmp 6)⟩, true, false, false, 0, [], none⟩,
    ⟨⟨(some 8), none, .load false 1 (.tmp 7)⟩, false, false, false, 0, [], none⟩,
    ⟨⟨(some 9), none, .bin .shl (.tmp 8) (.con (.int .u64 13))⟩, true, false, false, 0, [], none⟩], 0, [⟨(some 10), none, .bin .xor (.tmp 5) (.tmp 9)⟩,
    ⟨(some 11), none, .nilck (.tmp 3)⟩,
    ⟨none, none, .store 1 (.tmp 11) (.tmp 10)⟩]⟩])
  (.seq (.regd [⟨[⟨⟨(some 12), none, .mov (.tmp 0)⟩, true, false, false, 0, [], none⟩,
    ⟨⟨(some 13), none, .nilck (.tmp 12)⟩, true, false, false, 0, [], none⟩,
    ⟨⟨(some 14), none, .load false 1 (.tmp 13)⟩, false, false, false, 0, [], none⟩,
    ⟨⟨(some 15), none, .mov (.tmp 0)⟩, true, false, false, 0, [], none⟩,
    ⟨⟨(some 16), none, .nilck (.tmp 15)⟩, true, false, false, 0, [], none⟩,
    ⟨⟨(some 17), none, .load false 1 (.tmp 16)⟩, false, false, false, 0, [], none⟩,
    ⟨⟨(some 18), none, .bin .shr (.tmp 17) (.con (.int .u64 7))⟩, true, false, false, 0, [], none⟩], 0, [⟨(some 19), none, .bin .xor (.tmp 14) (.tmp 18)⟩,
    ⟨(some 20), none, .nilck (.tmp 12)⟩,
    ⟨none, none, .store 1 (.tmp 20) (.tmp 19)⟩]⟩])
  (.seq (.regd [⟨[⟨⟨(some 21), none, .mov (.tmp 0)⟩, true, false, false, 0, [], none⟩,
    ⟨⟨(some 22), none, .nilck (.tmp 21)⟩, true, false, false, 0, [], none⟩,
    ⟨⟨(some 23), none, .load false 1 (.tmp 22)⟩, false, false, false, 0, [], none⟩,
    ⟨⟨(some 24), none, .mov (.tmp 0)⟩, true, false, false, 0, [], none⟩,
    ⟨⟨(some 25), none, .nilck (.tmp 24)⟩, true, false, false, 0, [], none⟩,
    ⟨⟨(some 26), none, .load false 1 (.tmp 25)⟩, false, false, false, 0, [], none⟩,
    ⟨⟨(some 27), none, .bin .shl (.tmp 26) (.con (.int .u64 17))⟩, true, false, false, 0, [], none⟩], 0, [⟨(some 28), none, .bin .xor (.tmp 23) (.tmp 27)⟩,
    ⟨(some 29), none, .nilck (.tmp 21)⟩,
    ⟨none, none, .store 1 (.tmp 29) (.tmp 28)⟩]⟩])
  (.seq (.reg [⟨(some 30), none, .mov (.tmp 0)⟩,
    ⟨(some 31), none, .nilck (.tmp 30)⟩,
    ⟨(some 32), none, .load false 1 (.tmp 31)⟩,
    ⟨(some 2), none, .mov (.tmp 32)⟩])
  .ret)))))
def g108 : Fn := ⟨1, 33, [.tmp 2], b108⟩
/- slices.medianAdjacentCmpFunc[quiver/api.Hit] -/
def b109 : AC :=
  (.seq (.reg [⟨(some 8), none, .mov (.con (.int .i64 0))⟩])
  (.seq (.reg [⟨(some 9), none, .mov (.tmp 0)⟩,
    ⟨(some 10), none, .mov (.tmp 1)⟩,
    ⟨(some 11), none, .bin .sub (.tmp 10) (.con (.int .i64 1))⟩,
    ⟨(some 12), none, .mov (.tmp 1)⟩,
    ⟨(some 13), none, .mov (.tmp 1)⟩,
    ⟨(some 14), none, .bin .add (.tmp 13) (.con (.int .i64 1))⟩,
    ⟨(some 15), none, .mov (.tmp 2)⟩,
    ⟨(some 16), none, .mov (.tmp 3)⟩,
    ⟨(some 17), none, .call 110 [(.tmp 9), (.tmp 11), (.tmp 12), (.tmp 14), (.tmp 15), (.tmp 16)]⟩,
    ⟨(some 8), none, .mov (.tmp 17)⟩])
  .ret))
def g109 : Fn := ⟨4, 18, [.tmp 8], b109⟩
/- slices.medianCmpFunc[quiver/api.Hit] -/
def b110 : AC :=
  (.seq (.reg [⟨(some 12), none, .mov (.con (.int .i64 0))⟩])
  (.seq (.reg [⟨(some 14), none, .mov (.tmp 0)⟩,
    ⟨(some 15), none, .mov (.tmp 1)⟩,
    ⟨(some 16), none, .mov (.tmp 2)⟩,
    ⟨(some 17), none, .mov (.tmp 4)⟩,
    ⟨(some 18), none, .mov (.tmp 5)⟩,
    ⟨(some 19), none, .call 113 [(.tmp 14), (.tmp 15), (.tmp 16), (.tmp 17), (.tmp 18)]⟩,
    ⟨(some 13), none, .mov (.tmp 19)⟩,
    ⟨(some 20), none, .ext (.tmp 13) 0⟩,
    ⟨(some 21), none, .ext (.tmp 13) 1⟩,
    ⟨(some 1), none, .mov (.tmp 20)⟩,
    ⟨(some 2), none, .mov (.tmp 21)⟩])
  (.seq (.reg [⟨(some 23), none, .mov (.tmp 0)⟩,
    ⟨(some 24), none, .mov (.tmp 2)⟩,
    ⟨(some 25), none, .mov (.tmp 3)⟩,
    ⟨(some 26), none, .mov (.tmp 4)⟩,
    ⟨(some 27), none, .mov (.tmp 5)⟩,
    ⟨(some 28), none, .call 113 [(.tmp 23), (.tmp 24), (.tmp 25), (.tmp 26), (.tmp 27)]⟩,
    ⟨(some 22), none, .mov (.tmp 28)⟩,
    ⟨(some 29), none, .ext (.tmp 22) 0⟩,
    ⟨(some 30), none, .ext (.tmp 22) 1⟩,
    ⟨(some 2), none, .mov (.tmp 29)⟩,
    ⟨(some 3), none, .mov (.tmp 30)⟩])
  (.seq (.reg [⟨(some 32), none, .mov (.tmp 0)⟩,
    ⟨(some 33), none, .mov (.tmp 1)⟩,
    ⟨(some 34), none, .mov (.tmp 2)⟩,
    ⟨(some 35), none, .mov (.tmp 4)⟩,
    ⟨(some 36), none, .mov (.tmp 5)⟩,
    ⟨(some 37), none, .call 113 [(.tmp 32), (.tmp 33), (.tmp 34), (.tmp 35), (.tmp 36)]⟩,
    ⟨(some 31), none, .mov (.tmp 37)⟩,
    ⟨(some 38), none, .ext (.tmp 31) 0⟩,
    ⟨(some 39), none, .ext (.tmp 31) 1⟩,
    ⟨(some 1), none, .mov (.tmp 38)⟩,
    ⟨(some 2), none, .mov (.tmp 39)⟩])
  (.seq (.reg [⟨(some 40), none, .mov (.tmp 2)⟩,
    ⟨(some 12), none, .mov (.tmp 40)⟩])
  .ret)))))
def g110 : Fn := ⟨6, 41, [.tmp 12], b110⟩
/- slices.order2CmpFunc[quiver/api.Hit] -/
def b113 : AC :=
  (.seq (.reg [⟨(some 10), none, .mov (.con (.int .i64 0))⟩,
    ⟨(some 11), none, .mov (.con (.int .i64 0))⟩])
  (.seq (.seq (.regd [⟨[⟨⟨(some 12), none, .mov (.tmp 4)⟩, true, false, false, 0, [], none⟩,
    ⟨⟨(some 13), none, .mov (.tmp 0)⟩, true, false, false, 0, [], none⟩,
    ⟨⟨(some 14), none, .mov (.tmp 2)⟩, true, false, false, 0, [], none⟩,
    ⟨⟨(some 15), none, .iaddr 2 (.tmp 13) (.tmp 14)⟩, true, false, false, 0, [], none⟩,
    ⟨⟨(some 16), none, .load true 2 (.tmp 15)⟩, false, false, false, 0, [], none⟩,
    ⟨⟨(some 17), none, .mov (.tmp 0)⟩, true, false, false, 0, [], none⟩,
    ⟨⟨(some 18), none, .mov (.tmp 1)⟩, true, false, false, 0, [], none⟩,
    ⟨⟨(some 19), none, .iaddr 2 (.tmp 17) (.tmp 18)⟩, true, false, false, 0, [], none⟩,
    ⟨⟨(some 20), none, .load true 2 (.tmp 19)⟩, false, false, false, 0, [], none⟩], 0, [⟨(some 21), none, .callv (.tmp 12) [(.tmp 16), (.tmp 20)]⟩,
    ⟨(some 22), none, .bin .lss (.tmp 21) (.con (.int .i64 0))⟩]⟩])
  (.cond (.tmp 22)
   (.seq (.reg [⟨(some 23), none, .mov (.tmp 3)⟩,
     ⟨(some 24), none, .nilck (.tmp 23)⟩,
     ⟨(some 25), none, .load false 1 (.tmp 24)⟩,
     ⟨(some 26), none, .bin .add (.tmp 25) (.con (.int .i64 1))⟩,
     ⟨(some 27), none, .nilck (.tmp 23)⟩,
     ⟨none, none, .store 1 (.tmp 27) (.tmp 26)⟩])
   (.seq (.reg [⟨(some 28), none, .mov (.tmp 2)⟩,
     ⟨(some 29), none, .mov (.tmp 1)⟩,
     ⟨(some 10), none, .mov (.tmp 28)⟩,
     ⟨(some 11), none, .mov (.tmp 29)⟩])
   .ret))
   .skip))
  (.seq (.reg [⟨(some 30), none, .mov (.tmp 1)⟩,
    ⟨(some 31), none, .mov (.tmp 2)⟩,
    ⟨(some 10), none, .mov (.tmp 30)⟩,
    ⟨(some 11), none, .mov (.tmp 31)⟩])
  .ret)))
def g113 : Fn := ⟨5, 32, [.tmp 10, .tmp 11], b113⟩
/- (*quiver/topk.worst).Less -/
def b130 : AC :=
  (.seq (.reg [⟨(some 6), none, .mov (.con (.bool false))⟩])
  (.seq (.regd [⟨[⟨⟨(some 7), none, .mov (.tmp 0)⟩, true, false, false, 0, [], none⟩,
    ⟨⟨(some 8), none, .nilck (.tmp 7)⟩, true, false, false, 0, [], none⟩,
    ⟨⟨(some 9), none, .faddr (.tmp 8) 0⟩, true, false, false, 0, [], none⟩,
    ⟨⟨(some 10), none, .load false 1 (.tmp 9)⟩, false, false, false, 0, [], none⟩,
    ⟨⟨(some 11), none, .mov (.tmp 1)⟩, true, false, false, 0, [], none⟩,
    ⟨⟨(some 12), none, .iaddr 2 (.tmp 10) (.tmp 11)⟩, true, false, false, 0, [], none⟩,
    ⟨⟨(some 13), none, .load true 2 (.tmp 12)⟩, false, false, false, 0, [], none⟩,
    ⟨⟨(some 14), none, .mov (.tmp 0)⟩, true, false, false, 0, [], none⟩,
    ⟨⟨(some 15), none, .nilck (.tmp 14)⟩, true, false, false, 0, [], none⟩,
    ⟨⟨(some 16), none, .faddr (.tmp 15) 0⟩, true, false, false, 0, [], none⟩,
    ⟨⟨(some 17), none, .load false 1 (.tmp 16)⟩, false, false, false, 0, [], none⟩,
    ⟨⟨(some 18), none, .mov (.tmp 2)⟩, true, false, false, 0, [], none⟩,
    ⟨⟨(some 19), none, .iaddr 2 (.tmp 17) (.tmp 18)⟩, true, false, false, 0, [], none⟩,
    ⟨⟨(some 20), none, .load true 2 (.tmp 19)⟩, false, false, false, 0, [], none⟩], 0, [⟨(some 21), none, .call 24 [(.tmp 13), (.tmp 20)]⟩,
    ⟨(some 22), none, .bin .gtr (.tmp 21) (.con (.int .i64 0))⟩,
    ⟨(some 6), none, .mov (.tmp 22)⟩]⟩])
  .ret))
def g130 : Fn := ⟨3, 23, [.tmp 6], b130⟩
/- (*quiver/topk.worst).Pop -/
def b131 : AC :=
  (.seq (.reg [⟨(some 2), none, .mov (.con .nilI)⟩])
  (.seq (.reg [⟨(some 5), none, .mov (.tmp 0)⟩,
    ⟨(some 6), none, .nilck (.tmp 5)⟩,
    ⟨(some 7), none, .faddr (.tmp 6) 0⟩,
    ⟨(some 8), none, .load false 1 (.tmp 7)⟩,
    ⟨(some 9), none, .len (.tmp 8)⟩,
    ⟨(some 10), none, .bin .sub (.tmp 9) (.con (.int .i64 1))⟩,
    ⟨(some 3), none, .mov (.tmp 10)⟩])
  (.seq (.reg [⟨(some 11), none, .mov (.tmp 0)⟩,
    ⟨(some 12), none, .nilck (.tmp 11)⟩,
    ⟨(some 13), none, .faddr (.tmp 12) 0⟩,
    ⟨(some 14), none, .load false 1 (.tmp 13)⟩,
    ⟨(some 15), none, .mov (.tmp 3)⟩,
    ⟨(some 16), none, .iaddr 2 (.tmp 14) (.tmp 15)⟩,
    ⟨(some 17), none, .load true 2 (.tmp 16)⟩,
    ⟨(some 4), none, .alloc (.agg [(.int .u64 0), (.int .u64 0)])⟩,
    ⟨none, none, .store 2 (.tmp 4) (.tmp 17)⟩])
  (.seq (.reg [⟨(some 18), none, .mov (.tmp 0)⟩,
    ⟨(some 19), none, .mov (.tmp 0)⟩,
    ⟨(some 20), none, .nilck (.tmp 19)⟩,
    ⟨(some 21), none, .faddr (.tmp 20) 0⟩,
    ⟨(some 22), none, .load false 1 (.tmp 21)⟩,
    ⟨(some 23), none, .mov (.tmp 3)⟩,
    ⟨(some 24), none, .slice 2 (.tmp 22) none (some (.tmp 23))⟩,
    ⟨(some 25), none, .nilck (.tmp 18)⟩,
    ⟨(some 26), none, .faddr (.tmp 25) 0⟩,
    ⟨none, none, .store 1 (.tmp 26) (.tmp 24)⟩])
  (.seq (.reg [⟨(some 27), none, .load true 2 (.tmp 4)⟩,
    ⟨(some 28), none, .mkif 47 (.tmp 27)⟩,
    ⟨(some 2), none, .mov (.tmp 28)⟩])
  .ret)))))
def g131 : Fn := ⟨1, 29, [.tmp 2], b131⟩
/- (*quiver/topk.worst).Push -/
def b132 : AC :=
  (.seq (.reg [⟨(some 7), none, .mov (.tmp 1)⟩,
    ⟨(some 8), none, .tas true 47 (.agg [(.int .u64 0), (.int .u64 0)]) (.tmp 7)⟩,
    ⟨(some 6), none, .mov (.tmp 8)⟩,
    ⟨(some 9), none, .ext (.tmp 6) 0⟩,
    ⟨(some 10), none, .ext (.tmp 6) 1⟩,
    ⟨(some 4), none, .alloc (.agg [(.int .u64 0), (.int .u64 0)])⟩,
    ⟨none, none, .store 2 (.tmp 4) (.tmp 9)⟩,
    ⟨(some 5), none, .mov (.tmp 10)⟩])
  (.seq (.reg [⟨(some 11), none, .mov (.tmp 5)⟩])
  (.cond (.tmp 11)
   (.regd [⟨[⟨⟨(some 12), none, .mov (.tmp 0)⟩, true, false, false, 0, [], none⟩,
     ⟨⟨(some 13), none, .mov (.tmp 0)⟩, true, false, false, 0, [], none⟩,
     ⟨⟨(some 14), none, .nilck (.tmp 13)⟩, true, false, false, 0, [], none⟩,
     ⟨⟨(some 15), none, .faddr (.tmp 14) 0⟩, true, false, false, 0, [], none⟩,
     ⟨⟨(some 16), none, .load false 1 (.tmp 15)⟩, false, false, false, 0, [0], none⟩,
     ⟨⟨(some 17), none, .load true 2 (.tmp 4)⟩, false, false, false, 0, [], none⟩,
     ⟨⟨(some 18), none, .lit 2 [(.tmp 17)]⟩, false, false, true, 0, [], none⟩,
     ⟨⟨(some 19), none, .append 2 16 (.tmp 16) (.tmp 18)⟩, false, true, true, 1, [], none⟩], 2, [⟨(some 20), none, .nilck (.tmp 12)⟩,
     ⟨(some 21), none, .faddr (.tmp 20) 0⟩,
     ⟨none, none, .store 1 (.tmp 21) (.tmp 19)⟩]⟩])
   .skip)))
def g132 : Fn := ⟨2, 22, [], b132⟩
/- (quiver/topk.hits).Swap -/
def b133 : AC :=
  (.regd [⟨[⟨⟨(some 6), none, .mov (.tmp 0)⟩, true, false, false, 0, [], none⟩,
    ⟨⟨(some 7), none, .mov (.tmp 1)⟩, true, false, false, 0, [], none⟩,
    ⟨⟨(some 8), none, .mov (.tmp 0)⟩, true, false, false, 0, [], none⟩,
    ⟨⟨(some 9), none, .mov (.tmp 2)⟩, true, false, false, 0, [], none⟩,
    ⟨⟨(some 10), none, .mov (.tmp 0)⟩, true, false, false, 0, [], none⟩,
    ⟨⟨(some 11), none, .mov (.tmp 2)⟩, true, false, false, 0, [], none⟩,
    ⟨⟨(some 12), none, .iaddr 2 (.tmp 10) (.tmp 11)⟩, true, false, false, 0, [], none⟩,
    ⟨⟨(some 13), none, .load true 2 (.tmp 12)⟩, false, false, false, 0, [], none⟩,
    ⟨⟨(some 14), none, .mov (.tmp 0)⟩, true, false, false, 0, [], none⟩,
    ⟨⟨(some 15), none, .mov (.tmp 1)⟩, true, false, false, 0, [], none⟩,
    ⟨⟨(some 16), none, .iaddr 2 (.tmp 14) (.tmp 15)⟩, true, false, false, 0, [], none⟩,
    ⟨⟨(some 17), none, .load true 2 (.tmp 16)⟩, false, false, false, 0, [], none⟩,
    ⟨⟨(some 18), none, .iaddr 2 (.tmp 6) (.tmp 7)⟩, true, false, false, 0, [], none⟩,
    ⟨⟨none, none, .store 2 (.tmp 18) (.tmp 13)⟩, false, true, false, 0, [], none⟩], 0, [⟨(some 19), none, .iaddr 2 (.tmp 8) (.tmp 9)⟩,
    ⟨none, none, .store 2 (.tmp 19) (.tmp 17)⟩]⟩])
def g133 : Fn := ⟨3, 20, [], b133⟩

def fnOf : Nat → Option Fn
  | 6 => some g6
  | 9 => some g9
  | 11 => some g11
  | 13 => some g13
  | 18 => some g18
  | 20 => some g20
  | 21 => some g21
  | 23 => some g23
  | 24 => some g24
  | 30 => some g30
  | 31 => some g31
  | 32 => some g32
  | 33 => some g33
  | 34 => some g34
  | 35 => some g35
  | 36 => some g36
  | 37 => some g37
  | 38 => some g38
  | 42 => some g42
  | 43 => some g43
  | 44 => some g44
  | 45 => some g45
  | 46 => some g46
  | 47 => some g47
  | 48 => some g48
  | 51 => some g51
  | 52 => some g52
  | 53 => some g53
  | 54 => some g54
  | 55 => some g55
  | 56 => some g56
  | 57 => some g57
  | 58 => some g58
  | 59 => some g59
  | 60 => some g60
  | 61 => some g61
  | 62 => some g62
  | 64 => some g64
  | 65 => some g65
  | 66 => some g66
  | 67 => some g67
  | 68 => some g68
  | 69 => some g69
  | 70 => some g70
  | 71 => some g71
  | 72 => some g72
  | 73 => some g73
  | 74 => some g74
  | 77 => some g77
  | 78 => some g78
  | 79 => some g79
  | 80 => some g80
  | 81 => some g81
  | 82 => some g82
  | 83 => some g83
  | 84 => some g84
  | 85 => some g85
  | 86 => some g86
  | 87 => some g87
  | 88 => some g88
  | 89 => some g89
  | 92 => some g92
  | 93 => some g93
  | 94 => some g94
  | 95 => some g95
  | 96 => some g96
  | 97 => some g97
  | 98 => some g98
  | 99 => some g99
  | 100 => some g100
  | 101 => some g101
  | 102 => some g102
  | 105 => some g105
  | 106 => some g106
  | 107 => some g107
  | 108 => some g108
  | 109 => some g109
  | 110 => some g110
  | 113 => some g113
  | 130 => some g130
  | 131 => some g131
  | 132 => some g132
  | 133 => some g133
  | _ => none
def modeOf (f : Nat) : Mode := if f ∈ [42, 69, 56, 18, 50] then .own else if f ∈ [67, 68, 84, 85, 132, 131, 133, 70, 86, 93, 94, 95, 97, 98, 99, 100, 106, 108, 109, 110, 113, 28] then .raw else .pure
def T : Tab := ⟨fnOf, modeOf⟩
end Go.Q.S11
end

section
/- Small functions of seat 08. -/
set_option linter.unusedSimpArgs false
set_option linter.unusedVariables false
namespace Go.Q.S11
open Go.Q

structure Ver where
  b : Int
  e : Int
  v : Option (List Int)

def i32V (x : Int) : V := .int .i32 x
structure OpV where
  k : Int
  ts : Int
  near : Bool
  v : Option (List Int)
def okI (x : Int) : Bool := decide (-1073741823 ≤ x) && decide (x ≤ 1073741823)

theorem r61 (x : Int) : res T 61 [.int .i32 x] = some (.bool (!okI x)) := by
  refine run_res (run_pure (fn := g61) rfl rfl (by decide) ?_)
  simp only [g61, b61]
  simp +contextual -implicitDefEqProofs (maxSteps := 2000000) only [↓wP, wQ, wQ1, wQ2, wQ3, wR, boxE, partsOf, ↓reduceIte, Nat.reduceEqDiff, Nat.reduceAdd, Nat.reduceSub, Nat.reduceLeDiff, Nat.reduceLT, Nat.reduceMul, reduceCtorEq, Int.reduceBNe, Int.reduceBEq, Int.reduceLT, Int.reduceLE, Int.reduceGT]
  simp only [okI, Option.some.injEq, V.bool.injEq, Bool.not_and]
  congr 1 <;> simp only [← decide_not, Int.not_le]

theorem f61 (x : Int) (fs : Bool) (σ : Sto) (n lk : Nat) : callE T fs 61 [.int .i32 x] σ n lk = some (.bool (!okI x), σ, n) :=
  callE_tr (by decide) (r61 x) (by simp [Tr, Tr_slV]) rfl fs σ n lk

def idxF {α : Type} (p : α → Bool) (l : List α) : Int := match l.findIdx? p with
  | some i => i
  | none => -1

theorem r82 (o : Option (List Int)) (F : Nat) (caps : List V) (p : Int → Bool) (hl : (lst o).length < 9223372036854775808)     (hp : ∀ x fs σ n lk, callE T fs F (i32V x :: caps) σ n lk = some (.bool (p x), σ, n)) : res T 82 [slV 1 i32V o, .fn F caps] = some (.int .i64 (idxF p (lst o))) := by
  refine run_res (run_pure (fn := g82) rfl rfl (by decide) ?_)
  simp only [g82, b82]
  simp +contextual -implicitDefEqProofs (maxSteps := 2000000) only [↓wP, wQ, wQ1, wQ2, wQ3, wR, boxE, partsOf, ↓reduceIte, Nat.reduceEqDiff, Nat.reduceAdd, Nat.reduceSub, Nat.reduceLeDiff, Nat.reduceLT, Nat.reduceMul, reduceCtorEq, Int.reduceBNe, Int.reduceBEq, Int.reduceLT, Int.reduceLE, Int.reduceGT]
  refine WC_for (lst o).length 0 (fun (j : Nat) env _ _ => env 0 = slV 1 i32V o ∧ env 1 = .fn F caps ∧ (lst o).findIdx? p = (((lst o).drop j).findIdx? p).map (· + j)) (by omega) (by decide) (by decide) (fun _ _ => rfl) (fun _ _ _ => rfl) ?_ ?_ _ _ _ rfl rfl ?_
  · intro j env σ n hj h1 h2 ⟨h3, h4, h5⟩
    simp only [vl_tmp] at h2
    have hx : (lst o)[j]? = some (lst o)[j] := List.getElem?_eq_getElem hj
    have hp' := hp (lst o)[j]
    simp only [i32V] at hp'
    simp +contextual -implicitDefEqProofs (maxSteps := 2000000) only [↓wP, wQ, wQ1, wQ2, wQ3, wR, boxE, partsOf, ↓reduceIte, Nat.reduceEqDiff, Nat.reduceAdd, Nat.reduceSub, Nat.reduceLeDiff, Nat.reduceLT, Nat.reduceMul, reduceCtorEq, Int.reduceBNe, Int.reduceBEq, Int.reduceLT, Int.reduceLE, Int.reduceGT, h1, h2, h3, h4, hx, i32V, hp']
    rw [List.drop_eq_getElem_cons hj, List.findIdx?_cons] at h5
    refine condC_split (fun hb => ?_) (fun hb => ?_)
    · simp +contextual -implicitDefEqProofs (maxSteps := 2000000) only [↓wP, wQ, wQ1, wQ2, wQ3, wR, boxE, partsOf, ↓reduceIte, Nat.reduceEqDiff, Nat.reduceAdd, Nat.reduceSub, Nat.reduceLeDiff, Nat.reduceLT, Nat.reduceMul, reduceCtorEq, Int.reduceBNe, Int.reduceBEq, Int.reduceLT, Int.reduceLE, Int.reduceGT]
      simp [idxF, h5, hb]
    · simp +contextual -implicitDefEqProofs (maxSteps := 2000000) only [↓wP, wQ, wQ1, wQ2, wQ3, wR, boxE, partsOf, ↓reduceIte, Nat.reduceEqDiff, Nat.reduceAdd, Nat.reduceSub, Nat.reduceLeDiff, Nat.reduceLT, Nat.reduceMul, reduceCtorEq, Int.reduceBNe, Int.reduceBEq, Int.reduceLT, Int.reduceLE, Int.reduceGT, h1, h2, h3, h4]
      rw [h5, hb]
      simp only [Bool.false_eq_true, if_false, Option.map_map, Function.comp_def]
      congr 1; funext i; omega
  · intro env σ n ⟨h3, h4, h5⟩ h1 h2
    simp +contextual -implicitDefEqProofs (maxSteps := 2000000) only [↓wP, wQ, wQ1, wQ2, wQ3, wR, boxE, partsOf, ↓reduceIte, Nat.reduceEqDiff, Nat.reduceAdd, Nat.reduceSub, Nat.reduceLeDiff, Nat.reduceLT, Nat.reduceMul, reduceCtorEq, Int.reduceBNe, Int.reduceBEq, Int.reduceLT, Int.reduceLE, Int.reduceGT]
    simp [idxF, h5]
  · exact ⟨rfl, rfl, by simp⟩

theorem idxF_any {α : Type} (p : α → Bool) (l : List α) : decide (0 ≤ idxF p l) = l.any p := by
  unfold idxF
  cases h : l.findIdx? p with
  | none =>
    simp only [List.findIdx?_eq_none_iff] at h
    simp only [Int.reduceNeg, Int.reduceLE, decide_false]
    exact (List.any_eq_false.2 fun x hx => by simp [h x hx]).symm
  | some i =>
    simp only [List.findIdx?_eq_some_iff_getElem] at h
    obtain ⟨h, h1, -⟩ := h
    simp only [Int.natCast_nonneg, decide_true]
    exact (List.any_eq_true.2 ⟨_, List.getElem_mem h, h1⟩).symm

theorem r62 (o : Option (List Int)) (hl : (lst o).length < 9223372036854775808) : res T 62 [slV 1 i32V o, .fn 61 []] = some (.bool ((lst o).any fun x => !okI x)) := by
  refine run_res (run_pure (fn := g62) rfl rfl (by decide) ?_)
  simp only [g62, b62]
  have h := r82 o 61 [] (fun x => !okI x) hl (fun x fs σ n lk => f61 x fs σ n lk)
  have hm : T.mode 82 ≠ .raw := by decide
  simp +contextual -implicitDefEqProofs (maxSteps := 2000000) only [↓wP, wQ, wQ1, wQ2, wQ3, wR, boxE, partsOf, ↓reduceIte, Nat.reduceEqDiff, Nat.reduceAdd, Nat.reduceSub, Nat.reduceLeDiff, Nat.reduceLT, Nat.reduceMul, reduceCtorEq, Int.reduceBNe, Int.reduceBEq, Int.reduceLT, Int.reduceLE, Int.reduceGT, h, callE_eq hm, idxF_any]

theorem f62 (o : Option (List Int)) (hl : (lst o).length < 9223372036854775808) (fs : Bool) (σ : Sto) (n lk : Nat) : callE T fs 62 [slV 1 i32V o, .fn 61 []] σ n lk = some (.bool ((lst o).any fun x => !okI x), σ, n) :=
  callE_tr (by decide) (r62 o hl) (by simp [Tr, Tr_slV]) rfl fs σ n lk

def okV (o : Option (List Int)) : Bool := decide (0 < (lst o).length) && decide ((lst o).length ≤ 4) && (lst o).all okI

theorem r38 (o : Option (List Int)) (hl : (lst o).length < 9223372036854775808) : res T 38 [slV 1 i32V o] = some (.int .i64 (if okV o then 0 else 150)) := by
  refine run_res (run_pure (fn := g38) rfl rfl (by decide) ?_)
  simp only [g38, b38]
  have h := f62 o hl
  simp +contextual -implicitDefEqProofs (maxSteps := 2000000) only [↓wP, wQ, wQ1, wQ2, wQ3, wR, boxE, partsOf, ↓reduceIte, Nat.reduceEqDiff, Nat.reduceAdd, Nat.reduceSub, Nat.reduceLeDiff, Nat.reduceLT, Nat.reduceMul, reduceCtorEq, Int.reduceBNe, Int.reduceBEq, Int.reduceLT, Int.reduceLE, Int.reduceGT, h]
  have hk : (decide (((lst o).length : Int) < 1) || decide (4 < ((lst o).length : Int)) || (lst o).any fun x => !okI x) = !okV o := by
    unfold okV
    rw [Bool.not_and, Bool.not_and, List.not_all_eq_any_not, ← decide_not, ← decide_not]
    congr 2 <;> exact decide_eq_decide.2 (by omega)
  rw [hk]
  cases hb : okV o <;> simp +contextual -implicitDefEqProofs (maxSteps := 2000000) only [↓wP, wQ, wQ1, wQ2, wQ3, wR, boxE, partsOf, ↓reduceIte, Nat.reduceEqDiff, Nat.reduceAdd, Nat.reduceSub, Nat.reduceLeDiff, Nat.reduceLT, Nat.reduceMul, reduceCtorEq, Int.reduceBNe, Int.reduceBEq, Int.reduceLT, Int.reduceLE, Int.reduceGT]

theorem f38 (o : Option (List Int)) (hl : (lst o).length < 9223372036854775808) (fs : Bool) (σ : Sto) (n lk : Nat) : callE T fs 38 [slV 1 i32V o] σ n lk = some (.int .i64 (if okV o then 0 else 150), σ, n) :=
  callE_tr (by decide) (r38 o hl) (by simp [Tr, Tr_slV]) rfl fs σ n lk

end Go.Q.S11
end

section
/- More functions of seat 08: equality, what may be, last traces. -/
set_option linter.unusedSimpArgs false
set_option linter.unusedVariables false
namespace Go.Q.S11
open Go.Q

theorem eq_drop {α : Type} [BEq α] {a b : List α} {j : Nat} (ha : j < a.length) (hb : j < b.length) : (a.drop j == b.drop j) = (a[j] == b[j] && a.drop (j + 1) == b.drop (j + 1)) := by
  rw [List.drop_eq_getElem_cons ha, List.drop_eq_getElem_cons hb]
  rfl

theorem eq_len {α : Type} [BEq α] : ∀ {a b : List α}, a.length ≠ b.length → (a == b) = false
  | [], [], h => absurd rfl h
  | [], _ :: _, _ => rfl
  | _ :: _, [], _ => rfl
  | x :: a, y :: b, h => by
    show (x == y && a == b) = false
    rw [eq_len (a := a) (b := b) (by simpa using h)]
    simp

theorem r105 (a b : Option (List Int)) (ha : (lst a).length < 9223372036854775808) : res T 105 [slV 1 i32V a, slV 1 i32V b] = some (.bool (lst a == lst b)) := by
  refine run_res (run_pure (fn := g105) rfl rfl (by decide) ?_)
  simp only [g105, b105]
  simp +contextual -implicitDefEqProofs (maxSteps := 2000000) only [↓wP, wQ, wQ1, wQ2, wQ3, wR, boxE, partsOf, ↓reduceIte, Nat.reduceEqDiff, Nat.reduceAdd, Nat.reduceSub, Nat.reduceLeDiff, Nat.reduceLT, Nat.reduceMul, reduceCtorEq, Int.reduceBNe, Int.reduceBEq, Int.reduceLT, Int.reduceLE, Int.reduceGT]
  by_cases hl : (lst a).length = (lst b).length
  · have hd : (((lst a).length : Int) != ((lst b).length : Int)) = false := by simp [hl]
    simp +contextual -implicitDefEqProofs (maxSteps := 2000000) only [↓wP, wQ, wQ1, wQ2, wQ3, wR, boxE, partsOf, ↓reduceIte, Nat.reduceEqDiff, Nat.reduceAdd, Nat.reduceSub, Nat.reduceLeDiff, Nat.reduceLT, Nat.reduceMul, reduceCtorEq, Int.reduceBNe, Int.reduceBEq, Int.reduceLT, Int.reduceLE, Int.reduceGT, hd]
    refine WC_for (lst a).length 0 (fun (j : Nat) env _ _ => env 0 = slV 1 i32V a ∧ env 1 = slV 1 i32V b ∧ (lst a == lst b) = ((lst a).drop j == (lst b).drop j)) (by omega) (by decide) (by decide) (fun _ _ => rfl) (fun _ _ _ => rfl) ?_ ?_ _ _ _ rfl rfl ?_
    · intro j env σ n hj h1 h2 ⟨h3, h4, h5⟩
      simp only [vl_tmp] at h2
      have hjb : j < (lst b).length := by omega
      have hx : (lst a)[j]? = some (lst a)[j] := List.getElem?_eq_getElem hj
      have hy : (lst b)[j]? = some (lst b)[j] := List.getElem?_eq_getElem hjb
      rw [eq_drop hj hjb] at h5
      simp +contextual -implicitDefEqProofs (maxSteps := 2000000) only [↓wP, wQ, wQ1, wQ2, wQ3, wR, boxE, partsOf, ↓reduceIte, Nat.reduceEqDiff, Nat.reduceAdd, Nat.reduceSub, Nat.reduceLeDiff, Nat.reduceLT, Nat.reduceMul, reduceCtorEq, Int.reduceBNe, Int.reduceBEq, Int.reduceLT, Int.reduceLE, Int.reduceGT, h1, h2, h3, h4, hx, hy, i32V]
      refine condC_split (fun hb => ?_) (fun hb => ?_)
      · have e1 : ((lst a)[j] == (lst b)[j]) = false := by simpa using hb
        rw [e1, Bool.false_and] at h5
        simp +contextual -implicitDefEqProofs (maxSteps := 2000000) only [↓wP, wQ, wQ1, wQ2, wQ3, wR, boxE, partsOf, ↓reduceIte, Nat.reduceEqDiff, Nat.reduceAdd, Nat.reduceSub, Nat.reduceLeDiff, Nat.reduceLT, Nat.reduceMul, reduceCtorEq, Int.reduceBNe, Int.reduceBEq, Int.reduceLT, Int.reduceLE, Int.reduceGT, h5]
      · have e1 : ((lst a)[j] == (lst b)[j]) = true := by simpa using hb
        rw [e1, Bool.true_and] at h5
        simp +contextual -implicitDefEqProofs (maxSteps := 2000000) only [↓wP, wQ, wQ1, wQ2, wQ3, wR, boxE, partsOf, ↓reduceIte, Nat.reduceEqDiff, Nat.reduceAdd, Nat.reduceSub, Nat.reduceLeDiff, Nat.reduceLT, Nat.reduceMul, reduceCtorEq, Int.reduceBNe, Int.reduceBEq, Int.reduceLT, Int.reduceLE, Int.reduceGT, h1, h2, h3, h4, h5]
    · intro env σ n ⟨h3, h4, h5⟩ h1 h2
      have e : (lst b).drop (lst a).length = [] := by rw [hl, List.drop_length]
      rw [List.drop_length, e] at h5
      simp +contextual -implicitDefEqProofs (maxSteps := 2000000) only [↓wP, wQ, wQ1, wQ2, wQ3, wR, boxE, partsOf, ↓reduceIte, Nat.reduceEqDiff, Nat.reduceAdd, Nat.reduceSub, Nat.reduceLeDiff, Nat.reduceLT, Nat.reduceMul, reduceCtorEq, Int.reduceBNe, Int.reduceBEq, Int.reduceLT, Int.reduceLE, Int.reduceGT, h5]
    · exact ⟨rfl, rfl, by simp⟩
  · have hd : (((lst a).length : Int) != ((lst b).length : Int)) = true := by simp; omega
    have h5 := eq_len (a := lst a) (b := lst b) hl
    simp +contextual -implicitDefEqProofs (maxSteps := 2000000) only [↓wP, wQ, wQ1, wQ2, wQ3, wR, boxE, partsOf, ↓reduceIte, Nat.reduceEqDiff, Nat.reduceAdd, Nat.reduceSub, Nat.reduceLeDiff, Nat.reduceLT, Nat.reduceMul, reduceCtorEq, Int.reduceBNe, Int.reduceBEq, Int.reduceLT, Int.reduceLE, Int.reduceGT, hd, h5]

theorem f105 (a b : Option (List Int)) (ha : (lst a).length < 9223372036854775808) (fs : Bool) (σ : Sto) (n lk : Nat) : callE T fs 105 [slV 1 i32V a, slV 1 i32V b] σ n lk = some (.bool (lst a == lst b), σ, n) :=
  callE_tr (by decide) (r105 a b ha) (by simp [Tr, Tr_slV]) rfl fs σ n lk

theorem r92 (a b : Option (List Int)) (ha : (lst a).length < 9223372036854775808) : res T 92 [slV 1 i32V a, slV 1 i32V b] = some (.bool (lst a == lst b)) := by
  refine run_res (run_pure (fn := g92) rfl rfl (by decide) ?_)
  simp only [g92, b92]
  have h := f105 a b ha
  simp +contextual -implicitDefEqProofs (maxSteps := 2000000) only [↓wP, wQ, wQ1, wQ2, wQ3, wR, boxE, partsOf, ↓reduceIte, Nat.reduceEqDiff, Nat.reduceAdd, Nat.reduceSub, Nat.reduceLeDiff, Nat.reduceLT, Nat.reduceMul, reduceCtorEq, Int.reduceBNe, Int.reduceBEq, Int.reduceLT, Int.reduceLE, Int.reduceGT, h]

theorem f92 (a b : Option (List Int)) (ha : (lst a).length < 9223372036854775808) (fs : Bool) (σ : Sto) (n lk : Nat) : callE T fs 92 [slV 1 i32V a, slV 1 i32V b] σ n lk = some (.bool (lst a == lst b), σ, n) :=
  callE_tr (by decide) (r92 a b ha) (by simp [Tr, Tr_slV]) rfl fs σ n lk

end Go.Q.S11
end

section
/- Cells and arenas. -/
set_option linter.unusedSimpArgs false
set_option linter.unusedVariables false
namespace Go.Q.S11
open Go.Q

structure Cel where
  u : Bool
  id : Int
  b : Int
  e : Int
  v : Option (List Int)

def celV (c : Cel) : V := .agg [.bool c.u, .int .u64 c.id, .int .u64 c.b, .int .u64 c.e, slV 1 i32V c.v]
def verV (b e : Int) (v : Option (List Int)) : V := .agg [.int .u64 b, .int .u64 e, slV 1 i32V v]

def okVer (b e : Int) (v : Option (List Int)) : Bool := decide (1 ≤ b) && decide (b ≤ 1099511627776) && (e == 0 || (decide (b < e) && decide (e ≤ 1099511627776))) && okV v
def okCel (c : Cel) : Bool := if c.u then okVer c.b c.e c.v else c.id == 0 && c.b == 0 && c.e == 0 && decide ((lst c.v).length = 0)
def okA (a : Option (List Cel)) : Bool := decide ((lst a).length = 96) && (lst a).all okCel

def SmA (a : Option (List Cel)) : Prop := (lst a).length < 9223372036854775808 ∧ ∀ c ∈ lst a, (lst c.v).length < 9223372036854775808

theorem r78 (b e : Int) (v : Option (List Int)) (hv : (lst v).length < 9223372036854775808) : res T 78 [.agg [.int .u64 b, .int .u64 e, slV 1 i32V v]] = some (.int .i64 (if okVer b e v then 0 else 171)) := by
  refine run_res (run_pure (fn := g78) rfl rfl (by decide) ?_)
  simp only [g78, b78]
  have h := f38 v hv
  cases ho : okV v
  · rw [ho] at h
    have hk : okVer b e v = false := by simp [okVer, ho]
    by_cases he : e = 0
    · subst he
      simp +contextual -implicitDefEqProofs (maxSteps := 2000000) only [↓wP, wQ, wQ1, wQ2, wQ3, wR, boxE, partsOf, ↓reduceIte, Nat.reduceEqDiff, Nat.reduceAdd, Nat.reduceSub, Nat.reduceLeDiff, Nat.reduceLT, Nat.reduceMul, reduceCtorEq, Int.reduceBNe, Int.reduceBEq, Int.reduceLT, Int.reduceLE, Int.reduceGT, h, hk]
    · have hd : (e == 0) = false := by simpa using he
      simp +contextual -implicitDefEqProofs (maxSteps := 2000000) only [↓wP, wQ, wQ1, wQ2, wQ3, wR, boxE, partsOf, ↓reduceIte, Nat.reduceEqDiff, Nat.reduceAdd, Nat.reduceSub, Nat.reduceLeDiff, Nat.reduceLT, Nat.reduceMul, reduceCtorEq, Int.reduceBNe, Int.reduceBEq, Int.reduceLT, Int.reduceLE, Int.reduceGT, h, hk, hd, he]
  · rw [ho] at h
    by_cases he : e = 0
    · subst he
      by_cases h1 : b < 1
      · have hk : okVer b 0 v = false := by simp [okVer, ho]; omega
        simp +contextual -implicitDefEqProofs (maxSteps := 2000000) only [↓wP, wQ, wQ1, wQ2, wQ3, wR, boxE, partsOf, ↓reduceIte, Nat.reduceEqDiff, Nat.reduceAdd, Nat.reduceSub, Nat.reduceLeDiff, Nat.reduceLT, Nat.reduceMul, reduceCtorEq, Int.reduceBNe, Int.reduceBEq, Int.reduceLT, Int.reduceLE, Int.reduceGT, h, hk, h1]
      · by_cases h2 : 1099511627776 < b
        · have hk : okVer b 0 v = false := by simp [okVer, ho]; omega
          simp +contextual -implicitDefEqProofs (maxSteps := 2000000) only [↓wP, wQ, wQ1, wQ2, wQ3, wR, boxE, partsOf, ↓reduceIte, Nat.reduceEqDiff, Nat.reduceAdd, Nat.reduceSub, Nat.reduceLeDiff, Nat.reduceLT, Nat.reduceMul, reduceCtorEq, Int.reduceBNe, Int.reduceBEq, Int.reduceLT, Int.reduceLE, Int.reduceGT, h, hk, h1, h2]
        · have hk : okVer b 0 v = true := by simp [okVer, ho]; omega
          simp +contextual -implicitDefEqProofs (maxSteps := 2000000) only [↓wP, wQ, wQ1, wQ2, wQ3, wR, boxE, partsOf, ↓reduceIte, Nat.reduceEqDiff, Nat.reduceAdd, Nat.reduceSub, Nat.reduceLeDiff, Nat.reduceLT, Nat.reduceMul, reduceCtorEq, Int.reduceBNe, Int.reduceBEq, Int.reduceLT, Int.reduceLE, Int.reduceGT, h, hk, h1, h2]
    · have hd : (e == 0) = false := by simpa using he
      by_cases h1 : b < 1
      · have hk : okVer b e v = false := by simp [okVer, ho]; omega
        simp +contextual -implicitDefEqProofs (maxSteps := 2000000) only [↓wP, wQ, wQ1, wQ2, wQ3, wR, boxE, partsOf, ↓reduceIte, Nat.reduceEqDiff, Nat.reduceAdd, Nat.reduceSub, Nat.reduceLeDiff, Nat.reduceLT, Nat.reduceMul, reduceCtorEq, Int.reduceBNe, Int.reduceBEq, Int.reduceLT, Int.reduceLE, Int.reduceGT, h, hk, h1, hd, he]
      · by_cases h2 : 1099511627776 < b
        · have hk : okVer b e v = false := by simp [okVer, ho]; omega
          simp +contextual -implicitDefEqProofs (maxSteps := 2000000) only [↓wP, wQ, wQ1, wQ2, wQ3, wR, boxE, partsOf, ↓reduceIte, Nat.reduceEqDiff, Nat.reduceAdd, Nat.reduceSub, Nat.reduceLeDiff, Nat.reduceLT, Nat.reduceMul, reduceCtorEq, Int.reduceBNe, Int.reduceBEq, Int.reduceLT, Int.reduceLE, Int.reduceGT, h, hk, h1, h2, hd, he]
        · by_cases h3 : b < e
          · by_cases h4 : e ≤ 1099511627776
            · have hk : okVer b e v = true := by simp [okVer, ho]; omega
              simp +contextual -implicitDefEqProofs (maxSteps := 2000000) only [↓wP, wQ, wQ1, wQ2, wQ3, wR, boxE, partsOf, ↓reduceIte, Nat.reduceEqDiff, Nat.reduceAdd, Nat.reduceSub, Nat.reduceLeDiff, Nat.reduceLT, Nat.reduceMul, reduceCtorEq, Int.reduceBNe, Int.reduceBEq, Int.reduceLT, Int.reduceLE, Int.reduceGT, h, hk, h1, h2, h3, h4, hd, he]
            · have hk : okVer b e v = false := by simp [okVer, ho]; omega
              simp +contextual -implicitDefEqProofs (maxSteps := 2000000) only [↓wP, wQ, wQ1, wQ2, wQ3, wR, boxE, partsOf, ↓reduceIte, Nat.reduceEqDiff, Nat.reduceAdd, Nat.reduceSub, Nat.reduceLeDiff, Nat.reduceLT, Nat.reduceMul, reduceCtorEq, Int.reduceBNe, Int.reduceBEq, Int.reduceLT, Int.reduceLE, Int.reduceGT, h, hk, h1, h2, h3, h4, hd, he]
          · have hk : okVer b e v = false := by simp [okVer, ho]; omega
            simp +contextual -implicitDefEqProofs (maxSteps := 2000000) only [↓wP, wQ, wQ1, wQ2, wQ3, wR, boxE, partsOf, ↓reduceIte, Nat.reduceEqDiff, Nat.reduceAdd, Nat.reduceSub, Nat.reduceLeDiff, Nat.reduceLT, Nat.reduceMul, reduceCtorEq, Int.reduceBNe, Int.reduceBEq, Int.reduceLT, Int.reduceLE, Int.reduceGT, h, hk, h1, h2, h3, hd, he]

theorem f78 (b e : Int) (v : Option (List Int)) (hv : (lst v).length < 9223372036854775808) (fs : Bool) (σ : Sto) (n lk : Nat) : callE T fs 78 [.agg [.int .u64 b, .int .u64 e, slV 1 i32V v]] σ n lk = some (.int .i64 (if okVer b e v then 0 else 171), σ, n) :=
  callE_tr (by decide) (r78 b e v hv) (by simp [Tr, Tr_slV]) rfl fs σ n lk

end Go.Q.S11
end

section
/- Arenas that may be. -/
set_option linter.unusedSimpArgs false
set_option linter.unusedVariables false
namespace Go.Q.S11
open Go.Q

theorem eqc_two (a b c d : Int) : eqCells [.int, .int] [.int .u64 a, .int .u64 b] [.int .u64 c, .int .u64 d] = some (a == c && b == d) := by
  simp [eqCells, eqCell]

theorem r77 (b e : Int) (v : Option (List Int)) (b' e' : Int) (v' : Option (List Int)) (hv : (lst v).length < 9223372036854775808) : res T 77 [.agg [.int .u64 b, .int .u64 e, slV 1 i32V v], .agg [.int .u64 b', .int .u64 e', slV 1 i32V v']] = some (.bool (b == b' && e == e' && lst v == lst v')) := by
  refine run_res (run_pure (fn := g77) rfl rfl (by decide) ?_)
  simp only [g77, b77]
  have h := f92 v v' hv
  cases hb : (b == b' && e == e')
  · simp +contextual -implicitDefEqProofs (maxSteps := 2000000) only [↓wP, wQ, wQ1, wQ2, wQ3, wR, boxE, partsOf, ↓reduceIte, Nat.reduceEqDiff, Nat.reduceAdd, Nat.reduceSub, Nat.reduceLeDiff, Nat.reduceLT, Nat.reduceMul, reduceCtorEq, Int.reduceBNe, Int.reduceBEq, Int.reduceLT, Int.reduceLE, Int.reduceGT, h, eqc_two, hb, Bool.bne_false]
  · simp +contextual -implicitDefEqProofs (maxSteps := 2000000) only [↓wP, wQ, wQ1, wQ2, wQ3, wR, boxE, partsOf, ↓reduceIte, Nat.reduceEqDiff, Nat.reduceAdd, Nat.reduceSub, Nat.reduceLeDiff, Nat.reduceLT, Nat.reduceMul, reduceCtorEq, Int.reduceBNe, Int.reduceBEq, Int.reduceLT, Int.reduceLE, Int.reduceGT, h, eqc_two, hb, Bool.bne_false]

theorem f77 (b e : Int) (v : Option (List Int)) (b' e' : Int) (v' : Option (List Int)) (hv : (lst v).length < 9223372036854775808) (fs : Bool) (σ : Sto) (n lk : Nat) : callE T fs 77 [.agg [.int .u64 b, .int .u64 e, slV 1 i32V v], .agg [.int .u64 b', .int .u64 e', slV 1 i32V v']] σ n lk = some (.bool (b == b' && e == e' && lst v == lst v'), σ, n) :=
  callE_tr (by decide) (r77 b e v b' e' v' hv) (by simp [Tr, Tr_slV]) rfl fs σ n lk

theorem slV_nil' {α : Type} (sz : Nat) (f : α → V) : V.nilS = slV sz f none := rfl

theorem r51 (u : Bool) (id b e : Int) (v : Option (List Int)) (hv : (lst v).length < 9223372036854775808) : res T 51 [.agg [.bool u, .int .u64 id, .int .u64 b, .int .u64 e, slV 1 i32V v]] = some (.bool (okCel ⟨u, id, b, e, v⟩)) := by
  refine run_res (run_pure (fn := g51) rfl rfl (by decide) ?_)
  simp only [g51, b51]
  have h := f78 b e v hv
  have h2 := f77 b e v 0 0 none hv
  simp only [slV_none] at h2
  cases u
  · by_cases hi : id = 0
    · subst hi
      have hk : okCel ⟨false, 0, b, e, v⟩ = (b == 0 && e == 0 && lst v == lst (none : Option (List Int))) := by
        simp only [okCel, Bool.false_eq_true, if_false, lst_none]
        have : ((lst v) == []) = decide ((lst v).length = 0) := by cases lst v <;> simp
        rw [this]; simp
      simp +contextual -implicitDefEqProofs (maxSteps := 2000000) only [↓wP, wQ, wQ1, wQ2, wQ3, wR, boxE, partsOf, ↓reduceIte, Nat.reduceEqDiff, Nat.reduceAdd, Nat.reduceSub, Nat.reduceLeDiff, Nat.reduceLT, Nat.reduceMul, reduceCtorEq, Int.reduceBNe, Int.reduceBEq, Int.reduceLT, Int.reduceLE, Int.reduceGT, h2, hk]
    · have hk : okCel ⟨false, id, b, e, v⟩ = false := by simp [okCel, hi]
      have hd : (id == 0) = false := by simpa using hi
      simp +contextual -implicitDefEqProofs (maxSteps := 2000000) only [↓wP, wQ, wQ1, wQ2, wQ3, wR, boxE, partsOf, ↓reduceIte, Nat.reduceEqDiff, Nat.reduceAdd, Nat.reduceSub, Nat.reduceLeDiff, Nat.reduceLT, Nat.reduceMul, reduceCtorEq, Int.reduceBNe, Int.reduceBEq, Int.reduceLT, Int.reduceLE, Int.reduceGT, h2, hk, hi, hd]
  · have hk : okCel ⟨true, id, b, e, v⟩ = okVer b e v := by simp [okCel]
    cases ho : okVer b e v
    · rw [ho] at h
      simp +contextual -implicitDefEqProofs (maxSteps := 2000000) only [↓wP, wQ, wQ1, wQ2, wQ3, wR, boxE, partsOf, ↓reduceIte, Nat.reduceEqDiff, Nat.reduceAdd, Nat.reduceSub, Nat.reduceLeDiff, Nat.reduceLT, Nat.reduceMul, reduceCtorEq, Int.reduceBNe, Int.reduceBEq, Int.reduceLT, Int.reduceLE, Int.reduceGT, h, hk, ho]
    · rw [ho] at h
      simp +contextual -implicitDefEqProofs (maxSteps := 2000000) only [↓wP, wQ, wQ1, wQ2, wQ3, wR, boxE, partsOf, ↓reduceIte, Nat.reduceEqDiff, Nat.reduceAdd, Nat.reduceSub, Nat.reduceLeDiff, Nat.reduceLT, Nat.reduceMul, reduceCtorEq, Int.reduceBNe, Int.reduceBEq, Int.reduceLT, Int.reduceLE, Int.reduceGT, h, hk, ho]

theorem f51 (u : Bool) (id b e : Int) (v : Option (List Int)) (hv : (lst v).length < 9223372036854775808) (fs : Bool) (σ : Sto) (n lk : Nat) : callE T fs 51 [.agg [.bool u, .int .u64 id, .int .u64 b, .int .u64 e, slV 1 i32V v]] σ n lk = some (.bool (okCel ⟨u, id, b, e, v⟩), σ, n) :=
  callE_tr (by decide) (r51 u id b e v hv) (by simp [Tr, Tr_slV]) rfl fs σ n lk

theorem r54 (u : Bool) (id b e : Int) (v : Option (List Int)) (hv : (lst v).length < 9223372036854775808) : res T 54 [.agg [.bool u, .int .u64 id, .int .u64 b, .int .u64 e, slV 1 i32V v]] = some (.bool (!okCel ⟨u, id, b, e, v⟩)) := by
  refine run_res (run_pure (fn := g54) rfl rfl (by decide) ?_)
  simp only [g54, b54]
  have h := f51 u id b e v hv
  simp +contextual -implicitDefEqProofs (maxSteps := 2000000) only [↓wP, wQ, wQ1, wQ2, wQ3, wR, boxE, partsOf, ↓reduceIte, Nat.reduceEqDiff, Nat.reduceAdd, Nat.reduceSub, Nat.reduceLeDiff, Nat.reduceLT, Nat.reduceMul, reduceCtorEq, Int.reduceBNe, Int.reduceBEq, Int.reduceLT, Int.reduceLE, Int.reduceGT, h]

theorem f54 (u : Bool) (id b e : Int) (v : Option (List Int)) (hv : (lst v).length < 9223372036854775808) (fs : Bool) (σ : Sto) (n lk : Nat) : callE T fs 54 [.agg [.bool u, .int .u64 id, .int .u64 b, .int .u64 e, slV 1 i32V v]] σ n lk = some (.bool (!okCel ⟨u, id, b, e, v⟩), σ, n) :=
  callE_tr (by decide) (r54 u id b e v hv) (by simp [Tr, Tr_slV]) rfl fs σ n lk

theorem celV_eq (c : Cel) : celV c = .agg [.bool c.u, .int .u64 c.id, .int .u64 c.b, .int .u64 c.e, slV 1 i32V c.v] := rfl

theorem r79 (o : Option (List Cel)) (ho : SmA o) : res T 79 [slV 5 celV o, .fn 54 []] = some (.int .i64 (idxF (fun c => !okCel c) (lst o))) := by
  refine run_res (run_pure (fn := g79) rfl rfl (by decide) ?_)
  simp only [g79, b79]
  obtain ⟨hl, hs⟩ := ho
  simp +contextual -implicitDefEqProofs (maxSteps := 2000000) only [↓wP, wQ, wQ1, wQ2, wQ3, wR, boxE, partsOf, ↓reduceIte, Nat.reduceEqDiff, Nat.reduceAdd, Nat.reduceSub, Nat.reduceLeDiff, Nat.reduceLT, Nat.reduceMul, reduceCtorEq, Int.reduceBNe, Int.reduceBEq, Int.reduceLT, Int.reduceLE, Int.reduceGT]
  refine WC_for (lst o).length 0 (fun (j : Nat) env _ _ => env 0 = slV 5 celV o ∧ env 1 = .fn 54 [] ∧ (lst o).findIdx? (fun c => !okCel c) = (((lst o).drop j).findIdx? (fun c => !okCel c)).map (· + j)) (by omega) (by decide) (by decide) (fun _ _ => rfl) (fun _ _ _ => rfl) ?_ ?_ _ _ _ rfl rfl ?_
  · intro j env σ n hj h1 h2 ⟨h3, h4, h5⟩
    simp only [vl_tmp] at h2
    have hx : (lst o)[j]? = some (lst o)[j] := List.getElem?_eq_getElem hj
    have hv := hs _ (List.getElem_mem hj)
    rw [List.drop_eq_getElem_cons hj, List.findIdx?_cons] at h5
    generalize (lst o)[j] = c at *
    have hp' := f54 c.u c.id c.b c.e c.v hv
    simp +contextual -implicitDefEqProofs (maxSteps := 2000000) only [↓wP, wQ, wQ1, wQ2, wQ3, wR, boxE, partsOf, ↓reduceIte, Nat.reduceEqDiff, Nat.reduceAdd, Nat.reduceSub, Nat.reduceLeDiff, Nat.reduceLT, Nat.reduceMul, reduceCtorEq, Int.reduceBNe, Int.reduceBEq, Int.reduceLT, Int.reduceLE, Int.reduceGT, h1, h2, h3, h4, hx, celV_eq, hp']
    cases hb : okCel c
    · have h5' : List.findIdx? (fun c => !okCel c) (lst o) = some j := by simpa [hb] using h5
      simp +contextual -implicitDefEqProofs (maxSteps := 2000000) only [↓wP, wQ, wQ1, wQ2, wQ3, wR, boxE, partsOf, ↓reduceIte, Nat.reduceEqDiff, Nat.reduceAdd, Nat.reduceSub, Nat.reduceLeDiff, Nat.reduceLT, Nat.reduceMul, reduceCtorEq, Int.reduceBNe, Int.reduceBEq, Int.reduceLT, Int.reduceLE, Int.reduceGT, hb]
      simp [idxF, h5']
    · have h5' : List.findIdx? (fun c => !okCel c) (lst o) = (((lst o).drop (j + 1)).findIdx? (fun c => !okCel c)).map (· + (j + 1)) := by
        rw [h5, hb]
        simp only [Bool.not_true, Bool.false_eq_true, if_false, Option.map_map, Function.comp_def]
        congr 1; funext i; omega
      simp +contextual -implicitDefEqProofs (maxSteps := 2000000) only [↓wP, wQ, wQ1, wQ2, wQ3, wR, boxE, partsOf, ↓reduceIte, Nat.reduceEqDiff, Nat.reduceAdd, Nat.reduceSub, Nat.reduceLeDiff, Nat.reduceLT, Nat.reduceMul, reduceCtorEq, Int.reduceBNe, Int.reduceBEq, Int.reduceLT, Int.reduceLE, Int.reduceGT, h1, h2, h3, h4, hb]
      exact h5'
  · intro env σ n ⟨h3, h4, h5⟩ h1 h2
    simp +contextual -implicitDefEqProofs (maxSteps := 2000000) only [↓wP, wQ, wQ1, wQ2, wQ3, wR, boxE, partsOf, ↓reduceIte, Nat.reduceEqDiff, Nat.reduceAdd, Nat.reduceSub, Nat.reduceLeDiff, Nat.reduceLT, Nat.reduceMul, reduceCtorEq, Int.reduceBNe, Int.reduceBEq, Int.reduceLT, Int.reduceLE, Int.reduceGT]
    simp [idxF, h5]
  · exact ⟨rfl, rfl, by simp⟩

theorem f79 (o : Option (List Cel)) (ho : SmA o) (fs : Bool) (σ : Sto) (n lk : Nat) : callE T fs 79 [slV 5 celV o, .fn 54 []] σ n lk = some (.int .i64 (idxF (fun c => !okCel c) (lst o)), σ, n) :=
  callE_tr (by decide) (r79 o ho) (by simp [Tr, Tr_slV]) rfl fs σ n lk

theorem r55 (o : Option (List Cel)) (ho : SmA o) : res T 55 [slV 5 celV o, .fn 54 []] = some (.bool ((lst o).any fun c => !okCel c)) := by
  refine run_res (run_pure (fn := g55) rfl rfl (by decide) ?_)
  simp only [g55, b55]
  have h := f79 o ho
  simp +contextual -implicitDefEqProofs (maxSteps := 2000000) only [↓wP, wQ, wQ1, wQ2, wQ3, wR, boxE, partsOf, ↓reduceIte, Nat.reduceEqDiff, Nat.reduceAdd, Nat.reduceSub, Nat.reduceLeDiff, Nat.reduceLT, Nat.reduceMul, reduceCtorEq, Int.reduceBNe, Int.reduceBEq, Int.reduceLT, Int.reduceLE, Int.reduceGT, h, idxF_any]

theorem f55 (o : Option (List Cel)) (ho : SmA o) (fs : Bool) (σ : Sto) (n lk : Nat) : callE T fs 55 [slV 5 celV o, .fn 54 []] σ n lk = some (.bool ((lst o).any fun c => !okCel c), σ, n) :=
  callE_tr (by decide) (r55 o ho) (by simp [Tr, Tr_slV]) rfl fs σ n lk

def arE (a : Option (List Cel)) : Int := if okA a then 0 else 190
theorem r31 (a : Option (List Cel)) (ha : SmA a) : res T 31 [.agg [slV 5 celV a]] = some (.int .i64 (arE a)) := by
  refine run_res (run_pure (fn := g31) rfl rfl (by decide) ?_)
  simp only [g31, b31]
  have h := f55 a ha
  by_cases hl : (lst a).length = 96
  · have hd : (((lst a).length : Int) != 96) = false := by simp [hl]
    have hk : (lst a).any (fun c => !okCel c) = !okA a := by
      simp only [okA, hl, decide_true, Bool.true_and, List.not_all_eq_any_not]
    cases ho : okA a
    · rw [hk, ho] at h
      simp +contextual -implicitDefEqProofs (maxSteps := 2000000) only [↓wP, wQ, wQ1, wQ2, wQ3, wR, boxE, partsOf, ↓reduceIte, Nat.reduceEqDiff, Nat.reduceAdd, Nat.reduceSub, Nat.reduceLeDiff, Nat.reduceLT, Nat.reduceMul, reduceCtorEq, Int.reduceBNe, Int.reduceBEq, Int.reduceLT, Int.reduceLE, Int.reduceGT, h, hd, arE, ho]
    · rw [hk, ho] at h
      simp +contextual -implicitDefEqProofs (maxSteps := 2000000) only [↓wP, wQ, wQ1, wQ2, wQ3, wR, boxE, partsOf, ↓reduceIte, Nat.reduceEqDiff, Nat.reduceAdd, Nat.reduceSub, Nat.reduceLeDiff, Nat.reduceLT, Nat.reduceMul, reduceCtorEq, Int.reduceBNe, Int.reduceBEq, Int.reduceLT, Int.reduceLE, Int.reduceGT, h, hd, arE, ho]
  · have hd : (((lst a).length : Int) != 96) = true := by simp; omega
    have ho : okA a = false := by simp [okA, hl]
    simp +contextual -implicitDefEqProofs (maxSteps := 2000000) only [↓wP, wQ, wQ1, wQ2, wQ3, wR, boxE, partsOf, ↓reduceIte, Nat.reduceEqDiff, Nat.reduceAdd, Nat.reduceSub, Nat.reduceLeDiff, Nat.reduceLT, Nat.reduceMul, reduceCtorEq, Int.reduceBNe, Int.reduceBEq, Int.reduceLT, Int.reduceLE, Int.reduceGT, h, hd, arE, ho]

theorem f31 (a : Option (List Cel)) (ha : SmA a) (fs : Bool) (σ : Sto) (n lk : Nat) : callE T fs 31 [.agg [slV 5 celV a]] σ n lk = some (.int .i64 (arE a), σ, n) :=
  callE_tr (by decide) (r31 a ha) (by simp [Tr, Tr_slV]) rfl fs σ n lk

def overA (a : Option (List Cel)) : Bool := decide (120 < (lst a).length) || (lst a).any fun c => decide (50 < (lst c.v).length)
end Go.Q.S11
end

section
/- Masks. -/
set_option linter.unusedSimpArgs false
set_option linter.unusedVariables false
namespace Go.Q.S11
open Go.Q

theorem b_shr (m k : Nat) (hk : k < 64) : binV .shr (.int .u64 (m : Int)) (.int .i64 (k : Int)) = some (.int .u64 ((m / 2 ^ k : Nat) : Int)) := by
  have h0 : ¬ ((k : Int) < 0) := by omega
  have hm : min ((k : Int).toNat) IntKind.u64.bits = k := by
    show min (k : Int).toNat 64 = k
    omega
  have hf : (m : Int).fdiv (2 ^ k) = ((m / 2 ^ k : Nat) : Int) := by
    rw [Int.fdiv_eq_ediv_of_nonneg _ (by exact_mod_cast Nat.zero_le _)]
    norm_cast
  simp only [binV, pureV, Go.binOp, Op.shift, h0, if_false, hm, hf]
  rfl
theorem b_shl (k : Nat) (hk : k < 64) : binV .shl (.int .u64 1) (.int .i64 (k : Int)) = some (.int .u64 ((2 ^ k : Nat) : Int)) := by
  have h0 : ¬ ((k : Int) < 0) := by omega
  have hm : min ((k : Int).toNat) IntKind.u64.bits = k := by
    show min (k : Int).toNat 64 = k
    omega
  have hlt : 2 ^ k < 2 ^ 64 := Nat.pow_lt_pow_right (by decide) hk
  have hf : IntKind.u64.wrap (1 * 2 ^ k) = ((2 ^ k : Nat) : Int) := by
    have e : (2 : Int) ^ k = ((2 ^ k : Nat) : Int) := by norm_cast
    rw [Int.one_mul, e]
    have hlt' : 2 ^ k < 18446744073709551616 := hlt
    generalize 2 ^ k = y at *
    rw [wrap_u64] <;> omega
  simp only [binV, pureV, Go.binOp, Op.shift, h0, if_false, hm, hf]
  rfl
theorem ofInt_nat {x : Nat} (hx : x < 18446744073709551616) : (BitVec.ofInt 64 (x : Int)).toNat = x := by
  simp; omega
theorem b_and (x y : Nat) (hx : x < 18446744073709551616) (hy : y < 18446744073709551616) : binV .and (.int .u64 (x : Int)) (.int .u64 (y : Int)) = some (.int .u64 ((x &&& y : Nat) : Int)) := by
  rw [bin_and]
  have e : (BitVec.ofInt IntKind.u64.bits (x : Int) &&& BitVec.ofInt IntKind.u64.bits (y : Int)).toNat = x &&& y := by
    show (BitVec.ofInt 64 (x : Int) &&& BitVec.ofInt 64 (y : Int)).toNat = x &&& y
    rw [BitVec.toNat_and, ofInt_nat hx, ofInt_nat hy]
  have hle : x &&& y ≤ x := Nat.and_le_left
  rw [e, wrap_u64] <;> omega
theorem b_or (x y : Nat) (hx : x < 18446744073709551616) (hy : y < 18446744073709551616) : binV .or (.int .u64 (x : Int)) (.int .u64 (y : Int)) = some (.int .u64 ((x ||| y : Nat) : Int)) := by
  rw [bin_or]
  have e : (BitVec.ofInt IntKind.u64.bits (x : Int) ||| BitVec.ofInt IntKind.u64.bits (y : Int)).toNat = x ||| y := by
    show (BitVec.ofInt 64 (x : Int) ||| BitVec.ofInt 64 (y : Int)).toNat = x ||| y
    rw [BitVec.toNat_or, ofInt_nat hx, ofInt_nat hy]
  have hlt : x ||| y < 2 ^ 64 := Nat.or_lt_two_pow hx hy
  rw [e, wrap_u64] <;> omega

/-- Is a slot's bit set? -/
def tb (m0 m1 i : Nat) : Bool := if i < 64 then m0.testBit i else m1.testBit (i - 64)
def W64 (m : Nat) : Prop := m < 18446744073709551616

theorem quo64 (i : Nat) (hi : i < 128) : binV .quo (.int .i64 (i : Int)) (.int .i64 64) = some (.int .i64 ((i / 64 : Nat) : Int)) := by
  rw [bin_quo .i64 (i : Int) 64 (by decide)]
  have : (i : Int).tdiv 64 = ((i / 64 : Nat) : Int) := by
    rw [Int.tdiv_eq_ediv_of_nonneg (by omega)]; norm_cast
  rw [this, wrap_i64] <;> omega
theorem rem64 (i : Nat) (hi : i < 128) : binV .rem (.int .i64 (i : Int)) (.int .i64 64) = some (.int .i64 ((i % 64 : Nat) : Int)) := by
  rw [bin_rem .i64 (i : Int) 64 (by decide)]
  have : (i : Int).tmod 64 = ((i % 64 : Nat) : Int) := by
    rw [Int.tmod_eq_emod_of_nonneg (by omega)]; norm_cast
  rw [this]

theorem and_one (m k : Nat) (hm : W64 m) : binV .and (.int .u64 ((m / 2 ^ k : Nat) : Int)) (.int .u64 1) = some (.int .u64 ((m / 2 ^ k % 2 : Nat) : Int)) := by
  have h := b_and (m / 2 ^ k) 1 (Nat.lt_of_le_of_lt (Nat.div_le_self _ _) hm) (by decide)
  rw [Nat.and_one_is_mod] at h
  exact h
theorem tb_lo (m k : Nat) : (((m / 2 ^ k % 2 : Nat) : Int) == 1) = m.testBit k := by
  rw [Nat.testBit_eq_decide_div_mod_eq]
  by_cases h : m / 2 ^ k % 2 = 1
  · simp [h]
  · simp only [h, decide_false]
    have : m / 2 ^ k % 2 = 0 := by omega
    simp [this]

/-- The mask of a slot. -/
def bw (i : Nat) : Nat × Nat := if i < 64 then (2 ^ i, 0) else (0, 2 ^ (i - 64))
theorem r60 (i : Nat) (hi : i < 128) : res T 60 [.int .i64 (i : Int)] = some (.agg [.int .u64 ((bw i).1 : Int), .int .u64 ((bw i).2 : Int)]) := by
  refine run_res (run_pure (fn := g60) rfl rfl (by decide) ?_)
  simp only [g60, b60]
  have q := quo64 i hi
  have r := rem64 i hi
  by_cases h : i < 64
  · have e1 : i / 64 = 0 := by omega
    have e2 : i % 64 = i := by omega
    have eb : bw i = (2 ^ i, 0) := by simp [bw, h]
    rw [e1] at q; rw [e2] at r
    have s := b_shl i h
    simp only [Int.natCast_zero] at q
    rw [eb]
    simp +contextual -implicitDefEqProofs (maxSteps := 2000000) only [↓wP, wQ, wQ1, wQ2, wQ3, wR, boxE, partsOf, ↓reduceIte, Nat.reduceEqDiff, Nat.reduceAdd, Nat.reduceSub, Nat.reduceLeDiff, Nat.reduceLT, Nat.reduceMul, reduceCtorEq, Int.reduceBNe, Int.reduceBEq, Int.reduceLT, Int.reduceLE, Int.reduceGT, q, r, s, Int.natCast_zero]
  · have e1 : i / 64 = 1 := by omega
    have e2 : i % 64 = i - 64 := by omega
    have eb : bw i = (0, 2 ^ (i - 64)) := by simp [bw, h]
    rw [e1] at q; rw [e2] at r
    have s := b_shl (i - 64) (by omega)
    simp only [Int.natCast_one] at q
    rw [eb]
    simp +contextual -implicitDefEqProofs (maxSteps := 2000000) only [↓wP, wQ, wQ1, wQ2, wQ3, wR, boxE, partsOf, ↓reduceIte, Nat.reduceEqDiff, Nat.reduceAdd, Nat.reduceSub, Nat.reduceLeDiff, Nat.reduceLT, Nat.reduceMul, reduceCtorEq, Int.reduceBNe, Int.reduceBEq, Int.reduceLT, Int.reduceLE, Int.reduceGT, q, r, s, Int.natCast_zero]

theorem f60 (i : Nat) (hi : i < 128) (fs : Bool) (σ : Sto) (n lk : Nat) : callE T fs 60 [.int .i64 (i : Int)] σ n lk = some (.agg [.int .u64 ((bw i).1 : Int), .int .u64 ((bw i).2 : Int)], σ, n) :=
  callE_tr (by decide) (r60 i hi) (by simp [Tr, Tr_slV]) rfl fs σ n lk

theorem r58 (i : Int) : res T 58 [.int .i64 i] = some (.bool (decide (0 ≤ i) && decide (i < 96))) := by
  refine run_res (run_pure (fn := g58) rfl rfl (by decide) ?_)
  simp only [g58, b58]
  simp +contextual -implicitDefEqProofs (maxSteps := 2000000) only [↓wP, wQ, wQ1, wQ2, wQ3, wR, boxE, partsOf, ↓reduceIte, Nat.reduceEqDiff, Nat.reduceAdd, Nat.reduceSub, Nat.reduceLeDiff, Nat.reduceLT, Nat.reduceMul, reduceCtorEq, Int.reduceBNe, Int.reduceBEq, Int.reduceLT, Int.reduceLE, Int.reduceGT]

theorem f58 (i : Int) (fs : Bool) (σ : Sto) (n lk : Nat) : callE T fs 58 [.int .i64 i] σ n lk = some (.bool (decide (0 ≤ i) && decide (i < 96)), σ, n) :=
  callE_tr (by decide) (r58 i) (by simp [Tr, Tr_slV]) rfl fs σ n lk

theorem r81 (x y : Nat) (hx : W64 x) (hy : W64 y) : res T 81 [.int .u64 (x : Int), .int .u64 (y : Int)] = some (.int .u64 ((x &&& y : Nat) : Int)) := by
  refine run_res (run_pure (fn := g81) rfl rfl (by decide) ?_)
  simp only [g81, b81]
  have h := b_and x y hx hy
  simp +contextual -implicitDefEqProofs (maxSteps := 2000000) only [↓wP, wQ, wQ1, wQ2, wQ3, wR, boxE, partsOf, ↓reduceIte, Nat.reduceEqDiff, Nat.reduceAdd, Nat.reduceSub, Nat.reduceLeDiff, Nat.reduceLT, Nat.reduceMul, reduceCtorEq, Int.reduceBNe, Int.reduceBEq, Int.reduceLT, Int.reduceLE, Int.reduceGT, h]

theorem f81 (x y : Nat) (hx : W64 x) (hy : W64 y) (fs : Bool) (σ : Sto) (n lk : Nat) : callE T fs 81 [.int .u64 (x : Int), .int .u64 (y : Int)] σ n lk = some (.int .u64 ((x &&& y : Nat) : Int), σ, n) :=
  callE_tr (by decide) (r81 x y hx hy) (by simp [Tr, Tr_slV]) rfl fs σ n lk
end Go.Q.S11
end

section
/- The arguments of seat 11's statements, as trees. -/
set_option linter.unusedSimpArgs false
set_option linter.unusedVariables false
set_option maxRecDepth 20000
namespace Go.Q.S11
open Go.Q Go.Proofs

theorem wf_u64 {x : Int} (h : (Lit.int .u64 x).wf = true) : 0 ≤ x ∧ x < 18446744073709551616 := by
  simp [Lit.wf, IntKind.min, IntKind.max, IntKind.signed, IntKind.bits] at h
  omega
def eU64 : Enc Try.prog 25 Int := Enc.int .u64 Try.underlying25
def eI32 : Enc Try.prog 21 Int := Enc.int .i32 Try.underlying21
def eInt : Enc Try.prog 3 Int := Enc.int .i64 Try.underlying3
def eBool : Enc Try.prog 4 Bool := Enc.bool Try.underlying4
def eVec : Enc Try.prog 28 (Option (List Int)) := Enc.slice eI32 Try.underlying28 1 (by kernel_rfl) (by decide) 4 (by kernel_rfl)
def OkV (o : Option (List Int)) : Prop := (lst o).length < 4611686018427387904
theorem okVec {o : Option (List Int)} (h : eVec.ok o) : OkV o := by
  unfold OkV
  cases o with
  | none => simp [lst]
  | some l =>
    obtain ⟨h1, h2, h3⟩ := h l rfl
    rw [reach_eq] at h2
    rw [lst_some]
    omega
def eVer : Enc Try.prog 62 (Int × Int × Option (List Int)) := Enc.map
  (Enc.struct (EncF.cons (off := 0) (sz := 1) eU64 rfl (by kernel_rfl) (EncF.cons (sz := 1) eU64 rfl (by kernel_rfl) (EncF.cons (sz := 1) eVec rfl (by kernel_rfl) EncF.nil))) Try.underlying62 (by kernel_rfl))
  (fun x => (x.1, x.2.1, x.2.2.1)) (fun x => .agg [.int .u64 x.1, .int .u64 x.2.1, slV 1 i32V x.2.2]) (fun x => OkV x.2.2)
  (fun a _ => by
    obtain ⟨b, e, v, u⟩ := a
    cases v <;> rfl)
  (fun a h => okVec h.2.2.1)
def eCel : Enc Try.prog 64 Cel := Enc.map
  (Enc.struct (EncF.cons (off := 0) (sz := 1) eBool rfl (by kernel_rfl) (EncF.cons (sz := 1) eU64 rfl (by kernel_rfl) (EncF.cons (sz := 3) eVer rfl (by kernel_rfl) EncF.nil))) Try.underlying64 (by kernel_rfl))
  (fun x => ⟨x.1, x.2.1, x.2.2.1.1, x.2.2.1.2.1, x.2.2.1.2.2⟩) celV (fun c => OkV c.v)
  (fun a _ => by
    obtain ⟨b, e, ⟨x, y, v⟩, u⟩ := a
    rfl)
  (fun a h => h.2.2.1)
def eCels : Enc Try.prog 22 (Option (List Cel)) := Enc.slice eCel Try.underlying22 5 (by kernel_rfl) (by decide) 56 (by kernel_rfl)
theorem okCels {o : Option (List Cel)} (h : eCels.ok o) : SmA o := by
  cases o with
  | none => exact ⟨by simp [lst], by simp [lst]⟩
  | some l =>
    obtain ⟨h1, h2, h3⟩ := h l rfl
    rw [reach_eq] at h2
    refine ⟨by rw [lst_some]; omega, fun c hc => ?_⟩
    have : OkV c.v := h3 c hc
    unfold OkV at this
    omega
def eArena : Enc Try.prog 24 (Option (List Cel)) := Enc.map
  (Enc.struct (EncF.cons (off := 0) (sz := 1) eCels rfl (by kernel_rfl) EncF.nil) Try.underlying24 (by kernel_rfl))
  (fun x => x.1) (fun a => .agg [slV 5 celV a]) SmA (fun a _ => by obtain ⟨a, u⟩ := a; cases a <;> rfl) (fun a h => okCels h.1)
def eMask : Enc Try.prog 27 (Nat × Nat) := Enc.map (Enc.array eU64 2 Try.underlying27 1 (by kernel_rfl) (by kernel_rfl)) (fun l => ((l[0]?.getD 0).toNat, (l[1]?.getD 0).toNat))
  (fun x => .agg [.int .u64 (x.1 : Int), .int .u64 (x.2 : Int)]) (fun x => W64 x.1 ∧ W64 x.2)
  (fun l h => by
    obtain ⟨h1, h2⟩ := h
    match l, h1 with
    | [a, b], _ =>
      have ha := wf_u64 (h2 a (by simp))
      have hb := wf_u64 (h2 b (by simp))
      show V.agg [.int .u64 a, .int .u64 b] = V.agg [.int .u64 ((a.toNat : Nat) : Int), .int .u64 ((b.toNat : Nat) : Int)]
      rw [Int.toNat_of_nonneg ha.1, Int.toNat_of_nonneg hb.1])
  (fun l h => by
    obtain ⟨h1, h2⟩ := h
    match l, h1 with
    | [a, b], _ =>
      have ha := wf_u64 (h2 a (by simp))
      have hb := wf_u64 (h2 b (by simp))
      show a.toNat < _ ∧ b.toNat < _
      omega)
def eQry : Enc Try.prog 30 (Option (List Int) × Int) := Enc.map
  (Enc.struct (EncF.cons (off := 0) (sz := 1) eVec rfl (by kernel_rfl) (EncF.cons (sz := 1) eInt rfl (by kernel_rfl) EncF.nil)) Try.underlying30 (by kernel_rfl))
  (fun x => (x.1, x.2.1)) (fun x => .agg [slV 1 i32V x.1, .int .i64 x.2]) (fun x => OkV x.1) (fun a _ => by obtain ⟨a, b, u⟩ := a; cases a <;> rfl) (fun a h => okVec h.1)
end Go.Q.S11
end

section
/- What a mask has. -/
set_option linter.unusedSimpArgs false
set_option linter.unusedVariables false
namespace Go.Q.S11
open Go.Q

theorem r80 (a b c d : Nat) (ha : W64 a) (hb : W64 b) (hc : W64 c) (hd : W64 d) : res T 80 [.agg [.int .u64 (a : Int), .int .u64 (b : Int)], .agg [.int .u64 (c : Int), .int .u64 (d : Int)], .fn 81 []] = some (.agg [.int .u64 ((a &&& c : Nat) : Int), .int .u64 ((b &&& d : Nat) : Int)]) := by
  refine run_res (run_pure (fn := g80) rfl rfl (by decide) ?_)
  simp only [g80, b80]
  simp +contextual -implicitDefEqProofs (maxSteps := 2000000) only [↓wP, wQ, wQ1, wQ2, wQ3, wR, boxE, partsOf, ↓reduceIte, Nat.reduceEqDiff, Nat.reduceAdd, Nat.reduceSub, Nat.reduceLeDiff, Nat.reduceLT, Nat.reduceMul, reduceCtorEq, Int.reduceBNe, Int.reduceBEq, Int.reduceLT, Int.reduceLE, Int.reduceGT]
  refine WC_for 2 0 (fun (j : Nat) env σ n => env 2 = .fn 81 [] ∧ env 3 = .ptr 0 2 0 0 ∧ env 4 = .ptr 1 2 0 0 ∧ env 6 = .ptr 2 2 0 0 ∧ σ 1 = some (.row 2 [.agg [.int .u64 (c : Int), .int .u64 (d : Int)]]) ∧ σ 2 = some (.row 2 [.agg [.int .u64 0, .int .u64 0]]) ∧
    σ 0 = some (.row 2 [.agg [.int .u64 ((if j = 0 then a else a &&& c : Nat) : Int), .int .u64 ((if j < 2 then b else b &&& d : Nat) : Int)]])) (by decide) (by decide) (by decide) (fun _ _ => rfl) (fun _ _ _ => rfl) ?_ ?_ _ _ _ rfl rfl ?_
  · intro j env σ n hj h1 h2 ⟨h3, h4, h5, h6, h7, h8, h9⟩
    obtain rfl | rfl : j = 0 ∨ j = 1 := by omega
    · simp only [if_true, Nat.reduceLT, Int.natCast_zero] at h1 h9
      have f := f81 a c ha hc
      simp +contextual -implicitDefEqProofs (maxSteps := 2000000) only [↓wP, wQ, wQ1, wQ2, wQ3, wR, boxE, partsOf, ↓reduceIte, Nat.reduceEqDiff, Nat.reduceAdd, Nat.reduceSub, Nat.reduceLeDiff, Nat.reduceLT, Nat.reduceMul, reduceCtorEq, Int.reduceBNe, Int.reduceBEq, Int.reduceLT, Int.reduceLE, Int.reduceGT, h1, h3, h4, h5, h6, h7, h8, h9, f]
      exact ⟨rfl, rfl⟩
    · simp only [Nat.reduceEqDiff, if_false, if_true, Nat.reduceLT, Int.natCast_one] at h1 h9
      have f := f81 b d hb hd
      simp +contextual -implicitDefEqProofs (maxSteps := 2000000) only [↓wP, wQ, wQ1, wQ2, wQ3, wR, boxE, partsOf, ↓reduceIte, Nat.reduceEqDiff, Nat.reduceAdd, Nat.reduceSub, Nat.reduceLeDiff, Nat.reduceLT, Nat.reduceMul, reduceCtorEq, Int.reduceBNe, Int.reduceBEq, Int.reduceLT, Int.reduceLE, Int.reduceGT, h1, h3, h4, h5, h6, h7, h8, h9, f]
      exact ⟨rfl, rfl⟩
  · intro env σ n ⟨h3, h4, h5, h6, h7, h8, h9⟩ h1 h2
    simp only [Nat.reduceEqDiff, if_false, Nat.lt_irrefl] at h9
    simp +contextual -implicitDefEqProofs (maxSteps := 2000000) only [↓wP, wQ, wQ1, wQ2, wQ3, wR, boxE, partsOf, ↓reduceIte, Nat.reduceEqDiff, Nat.reduceAdd, Nat.reduceSub, Nat.reduceLeDiff, Nat.reduceLT, Nat.reduceMul, reduceCtorEq, Int.reduceBNe, Int.reduceBEq, Int.reduceLT, Int.reduceLE, Int.reduceGT, h4, h6, h9, h8]
  · simp +contextual -implicitDefEqProofs (maxSteps := 2000000) only [↓wP, wQ, wQ1, wQ2, wQ3, wR, boxE, partsOf, ↓reduceIte, Nat.reduceEqDiff, Nat.reduceAdd, Nat.reduceSub, Nat.reduceLeDiff, Nat.reduceLT, Nat.reduceMul, reduceCtorEq, Int.reduceBNe, Int.reduceBEq, Int.reduceLT, Int.reduceLE, Int.reduceGT]

theorem f80 (a b c d : Nat) (ha : W64 a) (hb : W64 b) (hc : W64 c) (hd : W64 d) (fs : Bool) (σ : Sto) (n lk : Nat) : callE T fs 80 [.agg [.int .u64 (a : Int), .int .u64 (b : Int)], .agg [.int .u64 (c : Int), .int .u64 (d : Int)], .fn 81 []] σ n lk = some (.agg [.int .u64 ((a &&& c : Nat) : Int), .int .u64 ((b &&& d : Nat) : Int)], σ, n) :=
  callE_tr (by decide) (r80 a b c d ha hb hc hd) (by simp [Tr, Tr_slV]) rfl fs σ n lk

theorem r59 (a b c d : Nat) (ha : W64 a) (hb : W64 b) (hc : W64 c) (hd : W64 d) : res T 59 [.agg [.int .u64 (a : Int), .int .u64 (b : Int)], .agg [.int .u64 (c : Int), .int .u64 (d : Int)]] = some (.agg [.int .u64 ((a &&& c : Nat) : Int), .int .u64 ((b &&& d : Nat) : Int)]) := by
  refine run_res (run_pure (fn := g59) rfl rfl (by decide) ?_)
  simp only [g59, b59]
  have f := f80 a b c d ha hb hc hd
  simp +contextual -implicitDefEqProofs (maxSteps := 2000000) only [↓wP, wQ, wQ1, wQ2, wQ3, wR, boxE, partsOf, ↓reduceIte, Nat.reduceEqDiff, Nat.reduceAdd, Nat.reduceSub, Nat.reduceLeDiff, Nat.reduceLT, Nat.reduceMul, reduceCtorEq, Int.reduceBNe, Int.reduceBEq, Int.reduceLT, Int.reduceLE, Int.reduceGT, f]

theorem f59 (a b c d : Nat) (ha : W64 a) (hb : W64 b) (hc : W64 c) (hd : W64 d) (fs : Bool) (σ : Sto) (n lk : Nat) : callE T fs 59 [.agg [.int .u64 (a : Int), .int .u64 (b : Int)], .agg [.int .u64 (c : Int), .int .u64 (d : Int)]] σ n lk = some (.agg [.int .u64 ((a &&& c : Nat) : Int), .int .u64 ((b &&& d : Nat) : Int)], σ, n) :=
  callE_tr (by decide) (r59 a b c d ha hb hc hd) (by simp [Tr, Tr_slV]) rfl fs σ n lk

theorem bw_lt (i : Nat) (hi : i < 128) : W64 (bw i).1 ∧ W64 (bw i).2 := by
  unfold bw W64
  split
  · have : 2 ^ i < 2 ^ 64 := Nat.pow_lt_pow_right (by decide) (by assumption)
    exact ⟨this, by simp⟩
  · have : 2 ^ (i - 64) < 2 ^ 64 := Nat.pow_lt_pow_right (by decide) (by omega)
    exact ⟨by simp, this⟩
theorem bit0 (m k : Nat) : (((m &&& 2 ^ k : Nat) : Int) == 0) = !m.testBit k := by
  cases h : m.testBit k
  · have e : m &&& 2 ^ k = 0 := by
      apply Nat.eq_of_testBit_eq
      intro i
      rw [Nat.testBit_and, Nat.testBit_two_pow, Nat.zero_testBit]
      by_cases hk : k = i
      · subst hk; simp [h]
      · simp [hk]
    simp [e]
  · have e : m &&& 2 ^ k ≠ 0 := by
      intro e
      have := congrArg (fun x => x.testBit k) e
      simp [Nat.testBit_and, h] at this
    simp
    exact_mod_cast e
theorem hasbit (m0 m1 i : Nat) : (((m0 &&& (bw i).1 : Nat) : Int) == 0 && ((m1 &&& (bw i).2 : Nat) : Int) == 0) = !tb m0 m1 i := by
  unfold bw tb
  split
  · rename_i h
    simp only [bit0, Nat.and_zero]
    simp
  · rename_i h
    simp only [bit0, Nat.and_zero]
    simp

theorem r36 (m0 m1 i : Nat) (h0 : W64 m0) (h1 : W64 m1) (hi : i < 128) : res T 36 [.agg [.int .u64 (m0 : Int), .int .u64 (m1 : Int)], .int .i64 (i : Int)] = some (.bool (decide (i < 96) && tb m0 m1 i)) := by
  refine run_res (run_pure (fn := g36) rfl rfl (by decide) ?_)
  simp only [g36, b36]
  have f1 := f58 (i : Int)
  have f2 := f60 i hi
  obtain ⟨w1, w2⟩ := bw_lt i hi
  have f3 := f59 m0 m1 (bw i).1 (bw i).2 h0 h1 w1 w2
  have hb := hasbit m0 m1 i
  have hnn : decide ((0 : Int) ≤ (i : Int)) = true := by simp
  by_cases h : i < 96
  · have hd : decide ((i : Int) < 96) = true := by simp; omega
    have hd' : decide (i < 96) = true := by simpa using h
    rw [hnn, hd] at f1
    simp +contextual -implicitDefEqProofs (maxSteps := 2000000) only [↓wP, wQ, wQ1, wQ2, wQ3, wR, boxE, partsOf, ↓reduceIte, Nat.reduceEqDiff, Nat.reduceAdd, Nat.reduceSub, Nat.reduceLeDiff, Nat.reduceLT, Nat.reduceMul, reduceCtorEq, Int.reduceBNe, Int.reduceBEq, Int.reduceLT, Int.reduceLE, Int.reduceGT, f1, f2, f3, eqc_two, hb, hd', Bool.bne_true, Bool.not_not]
  · have hd : decide ((i : Int) < 96) = false := by simp; omega
    have hd' : decide (i < 96) = false := by simpa using h
    rw [hnn, hd] at f1
    simp +contextual -implicitDefEqProofs (maxSteps := 2000000) only [↓wP, wQ, wQ1, wQ2, wQ3, wR, boxE, partsOf, ↓reduceIte, Nat.reduceEqDiff, Nat.reduceAdd, Nat.reduceSub, Nat.reduceLeDiff, Nat.reduceLT, Nat.reduceMul, reduceCtorEq, Int.reduceBNe, Int.reduceBEq, Int.reduceLT, Int.reduceLE, Int.reduceGT, f1, f2, f3, hd']

theorem f36 (m0 m1 i : Nat) (h0 : W64 m0) (h1 : W64 m1) (hi : i < 128) (fs : Bool) (σ : Sto) (n lk : Nat) : callE T fs 36 [.agg [.int .u64 (m0 : Int), .int .u64 (m1 : Int)], .int .i64 (i : Int)] σ n lk = some (.bool (decide (i < 96) && tb m0 m1 i), σ, n) :=
  callE_tr (by decide) (r36 m0 m1 i h0 h1 hi) (by simp [Tr, Tr_slV]) rfl fs σ n lk

theorem r35 (m0 m1 i : Nat) (h0 : W64 m0) (h1 : W64 m1) (hi : i < 128) : res T 35 [.int .i64 (i : Int), .box [.int .u64 (m0 : Int), .int .u64 (m1 : Int)]] = some (.bool (decide (i < 96) && tb m0 m1 i)) := by
  refine run_res (run_pure (fn := g35) rfl rfl (by decide) ?_)
  simp only [g35, b35]
  have f := f36 m0 m1 i h0 h1 hi
  simp +contextual -implicitDefEqProofs (maxSteps := 2000000) only [↓wP, wQ, wQ1, wQ2, wQ3, wR, boxE, partsOf, ↓reduceIte, Nat.reduceEqDiff, Nat.reduceAdd, Nat.reduceSub, Nat.reduceLeDiff, Nat.reduceLT, Nat.reduceMul, reduceCtorEq, Int.reduceBNe, Int.reduceBEq, Int.reduceLT, Int.reduceLE, Int.reduceGT, f]

theorem f35 (m0 m1 i : Nat) (h0 : W64 m0) (h1 : W64 m1) (hi : i < 128) (fs : Bool) (σ : Sto) (n lk : Nat) : callE T fs 35 [.int .i64 (i : Int), .box [.int .u64 (m0 : Int), .int .u64 (m1 : Int)]] σ n lk = some (.bool (decide (i < 96) && tb m0 m1 i), σ, n) :=
  callE_tr (by decide) (r35 m0 m1 i h0 h1 hi) (by simp [Tr, Tr_slV]) rfl fs σ n lk
end Go.Q.S11
end

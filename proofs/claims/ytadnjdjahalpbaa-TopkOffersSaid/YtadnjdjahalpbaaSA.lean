/- The compact code of this seat's functions, printed by a program. -/
import Derived.Test.YtadnjdjahalpbaaQD
import Derived.Sort.Defs
import Derived.Sort.AssemblyPlain
section
namespace Go.Q.S6
/- quiver/quiverlaw06.TopkFirsts -/
def b3 : AC :=
  (.seq (.reg [⟨(some 4), none, .mov (.con (.bool false))⟩])
  (.seq (.seq (.reg [⟨(some 11), none, .call 11 []⟩,
    ⟨(some 12), none, .un .not (.tmp 11)⟩])
  (.cond (.tmp 12)
   (.seq (.reg [⟨(some 4), none, .mov (.con (.bool false))⟩])
   .ret)
   .skip))
  (.seq (.seq (.reg [⟨(some 13), none, .mov (.tmp 1)⟩,
    ⟨(some 14), none, .len (.tmp 13)⟩,
    ⟨(some 15), none, .mov (.con (.int .i64 0))⟩])
  (.block 0 (.loop (.seq (.reg [⟨(some 16), none, .bin .lss (.tmp 15) (.tmp 14)⟩])
    (.seq (.cond (.tmp 16)
     .skip
     (.exit 0))
    (.seq (.block 1 (.seq (.reg [⟨(some 17), none, .mov (.tmp 15)⟩,
       ⟨(some 18), none, .iaddr 1 (.tmp 13) (.tmp 15)⟩,
       ⟨(some 19), none, .load false 1 (.tmp 18)⟩,
       ⟨(some 5), none, .mov (.tmp 17)⟩,
       ⟨(some 6), none, .mov (.tmp 19)⟩])
     (.seq (.seq (.reg [⟨(some 20), none, .mov (.tmp 5)⟩,
       ⟨(some 21), none, .bin .eql (.tmp 20) (.con (.int .i64 8))⟩])
     (.cond (.tmp 21)
      (.exit 0)
      .skip))
     (.seq (.reg [⟨(some 22), none, .mov (.tmp 0)⟩,
       ⟨(some 23), none, .call 12 [(.tmp 22), (.con (.int .i64 300))]⟩,
       ⟨(some 7), none, .mov (.tmp 23)⟩])
     (.seq (.reg [⟨(some 25), none, .mov (.tmp 7)⟩,
       ⟨(some 26), none, .mov (.tmp 6)⟩,
       ⟨(some 27), none, .call 13 [(.tmp 25), (.tmp 26)]⟩,
       ⟨(some 24), none, .mov (.tmp 27)⟩,
       ⟨(some 28), none, .ext (.tmp 24) 0⟩,
       ⟨(some 29), none, .ext (.tmp 24) 1⟩,
       ⟨(some 8), none, .mov (.tmp 28)⟩,
       ⟨(some 9), none, .mov (.tmp 29)⟩])
     (.seq (.seq (.reg [⟨(some 30), none, .mov (.tmp 6)⟩,
       ⟨(some 31), none, .bin .lss (.tmp 30) (.con (.int .i64 1))⟩,
       ⟨(some 32), none, .mov (.tmp 31)⟩,
       ⟨(some 33), (some (32, false)), .mov (.tmp 6)⟩,
       ⟨(some 34), (some (32, false)), .bin .gtr (.tmp 33) (.con (.int .i64 16))⟩,
       ⟨(some 35), none, .pick (.tmp 32) (.con (.bool true)) (.tmp 34)⟩])
     (.cond (.tmp 35)
      (.seq (.seq (.reg [⟨(some 36), none, .mov (.tmp 9)⟩,
        ⟨(some 37), none, .bin .neq (.tmp 36) (.con (.int .i64 2))⟩,
        ⟨(some 38), none, .mov (.tmp 37)⟩,
        ⟨(some 39), (some (38, false)), .mov (.tmp 8)⟩,
        ⟨(some 40), (some (38, false)), .len (.tmp 39)⟩,
        ⟨(some 41), (some (38, false)), .bin .neq (.tmp 40) (.con (.int .i64 0))⟩,
        ⟨(some 42), none, .pick (.tmp 38) (.con (.bool true)) (.tmp 41)⟩])
      (.cond (.tmp 42)
       (.seq (.reg [⟨(some 4), none, .mov (.con (.bool false))⟩])
       .ret)
       .skip))
      (.exit 1))
      .skip))
     (.seq (.seq (.reg [⟨(some 43), none, .mov (.tmp 9)⟩,
       ⟨(some 44), none, .bin .neq (.tmp 43) (.con (.int .i64 0))⟩,
       ⟨(some 45), none, .mov (.tmp 44)⟩,
       ⟨(some 46), (some (45, false)), .mov (.tmp 8)⟩,
       ⟨(some 47), (some (45, false)), .mov (.tmp 0)⟩,
       ⟨(some 48), (some (45, false)), .call 12 [(.tmp 47), (.con (.int .i64 300))]⟩,
       ⟨(some 49), (some (45, false)), .mov (.tmp 6)⟩,
       ⟨(some 50), (some (45, false)), .call 15 [(.tmp 48), (.tmp 49)]⟩,
       ⟨(some 51), (some (45, false)), .call 14 [(.tmp 46), (.tmp 50)]⟩,
       ⟨(some 52), (some (45, false)), .un .not (.tmp 51)⟩,
       ⟨(some 53), none, .pick (.tmp 45) (.con (.bool true)) (.tmp 52)⟩,
       ⟨(some 54), none, .mov (.tmp 53)⟩,
       ⟨(some 55), (some (54, false)), .mov (.tmp 7)⟩,
       ⟨(some 56), (some (54, false)), .mov (.tmp 0)⟩,
       ⟨(some 57), (some (54, false)), .call 12 [(.tmp 56), (.con (.int .i64 300))]⟩,
       ⟨(some 58), (some (54, false)), .call 14 [(.tmp 55), (.tmp 57)]⟩,
       ⟨(some 59), (some (54, false)), .un .not (.tmp 58)⟩,
       ⟨(some 60), none, .pick (.tmp 54) (.con (.bool true)) (.tmp 59)⟩])
     (.cond (.tmp 60)
      (.seq (.reg [⟨(some 4), none, .mov (.con (.bool false))⟩])
      .ret)
      .skip))
     (.seq (.seq (.reg [⟨(some 61), none, .mov (.tmp 8)⟩,
       ⟨(some 62), none, .len (.tmp 61)⟩,
       ⟨(some 63), none, .mov (.con (.int .i64 0))⟩])
     (.block 2 (.loop (.seq (.reg [⟨(some 64), none, .bin .lss (.tmp 63) (.tmp 62)⟩])
       (.seq (.cond (.tmp 64)
        .skip
        (.exit 2))
       (.seq (.block 3 (.seq (.reg [⟨(some 65), none, .mov (.tmp 63)⟩,
          ⟨(some 10), none, .mov (.tmp 65)⟩])
        (.reg [⟨(some 66), none, .mov (.tmp 8)⟩,
          ⟨(some 67), none, .mov (.tmp 10)⟩,
          ⟨(some 68), none, .iaddr 2 (.tmp 66) (.tmp 67)⟩,
          ⟨(some 69), none, .faddr (.tmp 68) 0⟩,
          ⟨none, none, .store 1 (.tmp 69) (.con (.int .u64 77))⟩])))
       (.reg [⟨(some 70), none, .bin .add (.tmp 63) (.con (.int .i64 1))⟩,
         ⟨(some 63), none, .mov (.tmp 70)⟩])))))))
     (.seq (.reg [⟨(some 71), none, .mov (.tmp 7)⟩,
       ⟨(some 72), none, .mov (.tmp 0)⟩,
       ⟨(some 73), none, .call 12 [(.tmp 72), (.con (.int .i64 300))]⟩,
       ⟨(some 74), none, .call 14 [(.tmp 71), (.tmp 73)]⟩,
       ⟨(some 75), none, .un .not (.tmp 74)⟩])
     (.cond (.tmp 75)
      (.seq (.reg [⟨(some 4), none, .mov (.con (.bool false))⟩])
      .ret)
      .skip))))))))))
    (.reg [⟨(some 76), none, .bin .add (.tmp 15) (.con (.int .i64 1))⟩,
      ⟨(some 15), none, .mov (.tmp 76)⟩])))))))
  (.seq (.reg [⟨(some 4), none, .mov (.con (.bool true))⟩])
  .ret))))
def g3 : Fn := ⟨2, 77, [.tmp 4], b3⟩
/- quiver/quiverlaw06.TopkMerges -/
def b4 : AC :=
  (.seq (.reg [⟨(some 4), none, .mov (.con (.bool false))⟩])
  (.seq (.seq (.reg [⟨(some 11), none, .call 11 []⟩,
    ⟨(some 12), none, .un .not (.tmp 11)⟩])
  (.cond (.tmp 12)
   (.seq (.reg [⟨(some 4), none, .mov (.con (.bool false))⟩])
   .ret)
   .skip))
  (.seq (.reg [⟨(some 5), none, .mov (.con .nilS)⟩])
  (.seq (.reg [⟨(some 6), none, .mov (.con .nilS)⟩])
  (.seq (.seq (.reg [⟨(some 13), none, .mov (.tmp 1)⟩,
    ⟨(some 14), none, .len (.tmp 13)⟩,
    ⟨(some 15), none, .mov (.con (.int .i64 0))⟩])
  (.block 0 (.loop (.seq (.reg [⟨(some 16), none, .bin .lss (.tmp 15) (.tmp 14)⟩])
    (.seq (.cond (.tmp 16)
     .skip
     (.exit 0))
    (.seq (.block 1 (.seq (.reg [⟨(some 17), none, .mov (.tmp 15)⟩,
       ⟨(some 18), none, .iaddr 1 (.tmp 13) (.tmp 15)⟩,
       ⟨(some 19), none, .load false 1 (.tmp 18)⟩,
       ⟨(some 7), none, .mov (.tmp 17)⟩,
       ⟨(some 8), none, .mov (.tmp 19)⟩])
     (.seq (.seq (.reg [⟨(some 20), none, .mov (.tmp 7)⟩,
       ⟨(some 21), none, .bin .eql (.tmp 20) (.con (.int .i64 6))⟩])
     (.cond (.tmp 21)
      (.exit 0)
      .skip))
     (.seq (.reg [⟨(some 22), none, .mov (.tmp 5)⟩,
       ⟨(some 23), none, .mov (.tmp 8)⟩,
       ⟨(some 24), none, .call 12 [(.tmp 23), (.con (.int .i64 60))]⟩,
       ⟨(some 25), none, .lit 1 [(.tmp 24)]⟩,
       ⟨(some 26), none, .append 1 24 (.tmp 22) (.tmp 25)⟩,
       ⟨(some 5), none, .mov (.tmp 26)⟩])
     (.reg [⟨(some 27), none, .mov (.tmp 6)⟩,
       ⟨(some 28), none, .mov (.tmp 8)⟩,
       ⟨(some 29), none, .call 12 [(.tmp 28), (.con (.int .i64 60))]⟩,
       ⟨(some 30), none, .append 2 16 (.tmp 27) (.tmp 29)⟩,
       ⟨(some 6), none, .mov (.tmp 30)⟩])))))
    (.reg [⟨(some 31), none, .bin .add (.tmp 15) (.con (.int .i64 1))⟩,
      ⟨(some 15), none, .mov (.tmp 31)⟩])))))))
  (.seq (.reg [⟨(some 33), none, .mov (.tmp 0)⟩,
    ⟨(some 34), none, .mov (.tmp 5)⟩,
    ⟨(some 35), none, .call 16 [(.tmp 33), (.tmp 34)]⟩,
    ⟨(some 32), none, .mov (.tmp 35)⟩,
    ⟨(some 36), none, .ext (.tmp 32) 0⟩,
    ⟨(some 37), none, .ext (.tmp 32) 1⟩,
    ⟨(some 9), none, .mov (.tmp 36)⟩,
    ⟨(some 10), none, .mov (.tmp 37)⟩])
  (.seq (.seq (.reg [⟨(some 38), none, .mov (.tmp 0)⟩,
    ⟨(some 39), none, .bin .lss (.tmp 38) (.con (.int .i64 1))⟩,
    ⟨(some 40), none, .mov (.tmp 39)⟩,
    ⟨(some 41), (some (40, false)), .mov (.tmp 0)⟩,
    ⟨(some 42), (some (40, false)), .bin .gtr (.tmp 41) (.con (.int .i64 16))⟩,
    ⟨(some 43), none, .pick (.tmp 40) (.con (.bool true)) (.tmp 42)⟩])
  (.cond (.tmp 43)
   (.seq (.reg [⟨(some 44), none, .mov (.tmp 10)⟩,
     ⟨(some 45), none, .bin .eql (.tmp 44) (.con (.int .i64 2))⟩,
     ⟨(some 46), none, .mov (.tmp 45)⟩,
     ⟨(some 47), (some (46, true)), .mov (.tmp 9)⟩,
     ⟨(some 48), (some (46, true)), .len (.tmp 47)⟩,
     ⟨(some 49), (some (46, true)), .bin .eql (.tmp 48) (.con (.int .i64 0))⟩,
     ⟨(some 50), none, .pick (.tmp 46) (.tmp 49) (.con (.bool false))⟩,
     ⟨(some 4), none, .mov (.tmp 50)⟩])
   .ret)
   .skip))
  (.seq (.reg [⟨(some 51), none, .mov (.tmp 10)⟩,
    ⟨(some 52), none, .bin .eql (.tmp 51) (.con (.int .i64 0))⟩,
    ⟨(some 53), none, .mov (.tmp 52)⟩,
    ⟨(some 54), (some (53, true)), .mov (.tmp 9)⟩,
    ⟨(some 55), (some (53, true)), .mov (.tmp 6)⟩,
    ⟨(some 56), (some (53, true)), .mov (.tmp 0)⟩,
    ⟨(some 57), (some (53, true)), .call 15 [(.tmp 55), (.tmp 56)]⟩,
    ⟨(some 58), (some (53, true)), .call 14 [(.tmp 54), (.tmp 57)]⟩,
    ⟨(some 59), none, .pick (.tmp 53) (.tmp 58) (.con (.bool false))⟩,
    ⟨(some 4), none, .mov (.tmp 59)⟩])
  .ret))))))))
def g4 : Fn := ⟨2, 60, [.tmp 4], b4⟩
/- quiver/quiverlaw06.TopkLeft -/
def b5 : AC :=
  (.seq (.reg [⟨(some 4), none, .mov (.con (.bool false))⟩])
  (.seq (.seq (.reg [⟨(some 15), none, .call 11 []⟩,
    ⟨(some 16), none, .un .not (.tmp 15)⟩])
  (.cond (.tmp 16)
   (.seq (.reg [⟨(some 4), none, .mov (.con (.bool false))⟩])
   .ret)
   .skip))
  (.seq (.reg [⟨(some 17), none, .mov (.tmp 0)⟩,
    ⟨(some 18), none, .bin .rem (.tmp 17) (.con (.int .i64 16))⟩,
    ⟨(some 19), none, .bin .add (.tmp 18) (.con (.int .i64 16))⟩,
    ⟨(some 20), none, .bin .rem (.tmp 19) (.con (.int .i64 16))⟩,
    ⟨(some 21), none, .bin .add (.tmp 20) (.con (.int .i64 1))⟩,
    ⟨(some 0), none, .mov (.tmp 21)⟩])
  (.seq (.reg [⟨(some 22), none, .mov (.tmp 1)⟩,
    ⟨(some 23), none, .call 12 [(.tmp 22), (.con (.int .i64 200))]⟩,
    ⟨(some 1), none, .mov (.tmp 23)⟩])
  (.seq (.reg [⟨(some 25), none, .mov (.tmp 1)⟩,
    ⟨(some 26), none, .mov (.tmp 0)⟩,
    ⟨(some 27), none, .call 13 [(.tmp 25), (.tmp 26)]⟩,
    ⟨(some 24), none, .mov (.tmp 27)⟩,
    ⟨(some 28), none, .ext (.tmp 24) 0⟩,
    ⟨(some 29), none, .ext (.tmp 24) 1⟩,
    ⟨(some 5), none, .mov (.tmp 28)⟩,
    ⟨(some 6), none, .mov (.tmp 29)⟩])
  (.seq (.seq (.reg [⟨(some 30), none, .mov (.tmp 6)⟩,
    ⟨(some 31), none, .bin .neq (.tmp 30) (.con (.int .i64 0))⟩,
    ⟨(some 32), none, .mov (.tmp 31)⟩,
    ⟨(some 33), (some (32, false)), .mov (.tmp 5)⟩,
    ⟨(some 34), (some (32, false)), .len (.tmp 33)⟩,
    ⟨(some 35), (some (32, false)), .mov (.tmp 0)⟩,
    ⟨(some 36), (some (32, false)), .mov (.tmp 1)⟩,
    ⟨(some 37), (some (32, false)), .len (.tmp 36)⟩,
    ⟨(some 38), (some (32, false)), .min [(.tmp 35), (.tmp 37)]⟩,
    ⟨(some 39), (some (32, false)), .bin .neq (.tmp 34) (.tmp 38)⟩,
    ⟨(some 40), none, .pick (.tmp 32) (.con (.bool true)) (.tmp 39)⟩])
  (.cond (.tmp 40)
   (.seq (.reg [⟨(some 4), none, .mov (.con (.bool false))⟩])
   .ret)
   .skip))
  (.seq (.seq (.reg [⟨(some 7), none, .mov (.con (.int .i64 1))⟩])
  (.block 0 (.loop (.seq (.seq (.reg [⟨(some 41), none, .mov (.tmp 7)⟩,
      ⟨(some 42), none, .mov (.tmp 5)⟩,
      ⟨(some 43), none, .len (.tmp 42)⟩,
      ⟨(some 44), none, .bin .lss (.tmp 41) (.tmp 43)⟩])
    (.cond (.tmp 44)
     .skip
     (.exit 0)))
    (.seq (.block 1 (.seq (.regd [⟨[⟨⟨(some 47), none, .mov (.tmp 5)⟩, true, false, false, 0, [], none⟩,
       ⟨⟨(some 48), none, .mov (.tmp 7)⟩, true, false, false, 0, [], none⟩,
       ⟨⟨(some 49), none, .bin .sub (.tmp 48) (.con (.int .i64 1))⟩, true, false, false, 0, [], none⟩,
       ⟨⟨(some 50), none, .iaddr 2 (.tmp 47) (.tmp 49)⟩, true, false, false, 0, [], none⟩,
       ⟨⟨(some 51), none, .load true 2 (.tmp 50)⟩, false, false, false, 0, [], none⟩,
       ⟨⟨(some 52), none, .mov (.tmp 5)⟩, true, false, false, 0, [], none⟩,
       ⟨⟨(some 53), none, .mov (.tmp 7)⟩, true, false, false, 0, [], none⟩,
       ⟨⟨(some 54), none, .iaddr 2 (.tmp 52) (.tmp 53)⟩, true, false, false, 0, [], none⟩,
       ⟨⟨(some 55), none, .load true 2 (.tmp 54)⟩, false, false, false, 0, [], none⟩], 0, [⟨(some 56), none, .call 17 [(.tmp 51), (.tmp 55)]⟩,
       ⟨(some 57), none, .bin .gtr (.tmp 56) (.con (.int .i64 0))⟩]⟩])
     (.cond (.tmp 57)
      (.seq (.reg [⟨(some 4), none, .mov (.con (.bool false))⟩])
      .ret)
      .skip)))
    (.reg [⟨(some 45), none, .mov (.tmp 7)⟩,
      ⟨(some 46), none, .bin .add (.tmp 45) (.con (.int .i64 1))⟩,
      ⟨(some 7), none, .mov (.tmp 46)⟩]))))))
  (.seq (.reg [⟨(some 58), none, .mkmap⟩,
    ⟨(some 8), none, .mov (.tmp 58)⟩])
  (.seq (.seq (.reg [⟨(some 59), none, .mov (.tmp 1)⟩,
    ⟨(some 60), none, .len (.tmp 59)⟩,
    ⟨(some 61), none, .mov (.con (.int .i64 0))⟩])
  (.block 2 (.loop (.seq (.reg [⟨(some 62), none, .bin .lss (.tmp 61) (.tmp 60)⟩])
    (.seq (.cond (.tmp 62)
     .skip
     (.exit 2))
    (.seq (.block 3 (.seq (.reg [⟨(some 63), none, .iaddr 2 (.tmp 59) (.tmp 61)⟩,
       ⟨(some 64), none, .load true 2 (.tmp 63)⟩,
       ⟨(some 10), none, .alloc (.agg [(.int .u64 0), (.int .u64 0)])⟩,
       ⟨none, none, .store 2 (.tmp 10) (.tmp 64)⟩])
     (.regd [⟨[⟨⟨(some 65), none, .mov (.tmp 8)⟩, true, false, false, 0, [], none⟩,
       ⟨⟨(some 66), none, .load true 2 (.tmp 10)⟩, false, false, false, 0, [], none⟩,
       ⟨⟨(some 67), none, .mget false (.agg [.int, .int]) (.int .i64 0) (.tmp 65) (.tmp 66)⟩, false, false, false, 0, [], none⟩,
       ⟨⟨(some 68), none, .bin .add (.tmp 67) (.con (.int .i64 1))⟩, true, false, false, 0, [], none⟩,
       ⟨⟨(some 69), none, .ment (.agg [.int, .int]) (.int .i64 0) (.tmp 65) (.tmp 66)⟩, false, true, false, 0, [], none⟩,
       ⟨⟨(some 70), none, .ext (.tmp 69) 1⟩, true, false, false, 0, [], none⟩], 0, [⟨none, none, .mest (.tmp 65) (.tmp 70) (.tmp 68)⟩]⟩])))
    (.reg [⟨(some 71), none, .bin .add (.tmp 61) (.con (.int .i64 1))⟩,
      ⟨(some 61), none, .mov (.tmp 71)⟩])))))))
  (.seq (.seq (.reg [⟨(some 72), none, .mov (.tmp 5)⟩,
    ⟨(some 73), none, .len (.tmp 72)⟩,
    ⟨(some 74), none, .mov (.con (.int .i64 0))⟩])
  (.block 4 (.loop (.seq (.reg [⟨(some 75), none, .bin .lss (.tmp 74) (.tmp 73)⟩])
    (.seq (.cond (.tmp 75)
     .skip
     (.exit 4))
    (.seq (.block 5 (.seq (.reg [⟨(some 76), none, .iaddr 2 (.tmp 72) (.tmp 74)⟩,
       ⟨(some 77), none, .load true 2 (.tmp 76)⟩,
       ⟨(some 12), none, .alloc (.agg [(.int .u64 0), (.int .u64 0)])⟩,
       ⟨none, none, .store 2 (.tmp 12) (.tmp 77)⟩])
     (.seq (.regd [⟨[⟨⟨(some 78), none, .mov (.tmp 8)⟩, true, false, false, 0, [], none⟩,
       ⟨⟨(some 79), none, .load true 2 (.tmp 12)⟩, false, false, false, 0, [], none⟩,
       ⟨⟨(some 80), none, .mget false (.agg [.int, .int]) (.int .i64 0) (.tmp 78) (.tmp 79)⟩, false, false, false, 0, [], none⟩,
       ⟨⟨(some 81), none, .bin .sub (.tmp 80) (.con (.int .i64 1))⟩, true, false, false, 0, [], none⟩,
       ⟨⟨(some 82), none, .ment (.agg [.int, .int]) (.int .i64 0) (.tmp 78) (.tmp 79)⟩, false, true, false, 0, [], none⟩,
       ⟨⟨(some 83), none, .ext (.tmp 82) 1⟩, true, false, false, 0, [], none⟩], 0, [⟨none, none, .mest (.tmp 78) (.tmp 83) (.tmp 81)⟩]⟩])
     (.seq (.reg [⟨(some 84), none, .mov (.tmp 8)⟩,
       ⟨(some 85), none, .load true 2 (.tmp 12)⟩,
       ⟨(some 86), none, .mget false (.agg [.int, .int]) (.int .i64 0) (.tmp 84) (.tmp 85)⟩,
       ⟨(some 87), none, .bin .lss (.tmp 86) (.con (.int .i64 0))⟩])
     (.cond (.tmp 87)
      (.seq (.reg [⟨(some 4), none, .mov (.con (.bool false))⟩])
      .ret)
      .skip)))))
    (.reg [⟨(some 88), none, .bin .add (.tmp 74) (.con (.int .i64 1))⟩,
      ⟨(some 74), none, .mov (.tmp 88)⟩])))))))
  (.seq (.seq (.reg [⟨(some 89), none, .mov (.tmp 8)⟩,
    ⟨(some 90), none, .range (.tmp 89)⟩])
  (.block 6 (.loop (.seq (.reg [⟨(some 91), none, .next (.tmp 90)⟩,
      ⟨(some 92), none, .ext (.tmp 91) 0⟩])
    (.seq (.cond (.tmp 92)
     .skip
     (.exit 6))
    (.block 7 (.seq (.reg [⟨(some 93), none, .entry (.tmp 90)⟩,
       ⟨(some 94), none, .ext (.tmp 93) 0⟩,
       ⟨(some 95), none, .ext (.tmp 93) 1⟩,
       ⟨(some 13), none, .alloc (.agg [(.int .u64 0), (.int .u64 0)])⟩,
       ⟨none, none, .store 2 (.tmp 13) (.tmp 94)⟩,
       ⟨(some 14), none, .mov (.tmp 95)⟩])
     (.seq (.regd [⟨[], 0, [⟨(some 96), none, .mov (.tmp 14)⟩,
       ⟨(some 97), none, .bin .gtr (.tmp 96) (.con (.int .i64 0))⟩,
       ⟨(some 98), none, .mov (.tmp 97)⟩,
       ⟨(some 99), (some (98, true)), .mov (.tmp 5)⟩,
       ⟨(some 100), (some (98, true)), .len (.tmp 99)⟩,
       ⟨(some 101), (some (98, true)), .bin .gtr (.tmp 100) (.con (.int .i64 0))⟩,
       ⟨(some 102), none, .pick (.tmp 98) (.tmp 101) (.con (.bool false))⟩,
       ⟨(some 103), none, .mov (.tmp 102)⟩]⟩,
      ⟨[⟨⟨(some 104), (some (103, true)), .load true 2 (.tmp 13)⟩, false, false, false, 0, [], none⟩,
       ⟨⟨(some 105), (some (103, true)), .mov (.tmp 5)⟩, true, false, false, 0, [], none⟩,
       ⟨⟨(some 106), (some (103, true)), .mov (.tmp 5)⟩, true, false, false, 0, [], none⟩,
       ⟨⟨(some 107), (some (103, true)), .len (.tmp 106)⟩, true, false, false, 0, [], none⟩,
       ⟨⟨(some 108), (some (103, true)), .bin .sub (.tmp 107) (.con (.int .i64 1))⟩, true, false, false, 0, [], none⟩,
       ⟨⟨(some 109), (some (103, true)), .iaddr 2 (.tmp 105) (.tmp 108)⟩, true, false, false, 0, [], none⟩,
       ⟨⟨(some 110), (some (103, true)), .load true 2 (.tmp 109)⟩, false, false, false, 0, [], none⟩], 0, [⟨(some 111), (some (103, true)), .call 17 [(.tmp 104), (.tmp 110)]⟩,
       ⟨(some 112), (some (103, true)), .bin .lss (.tmp 111) (.con (.int .i64 0))⟩,
       ⟨(some 113), none, .pick (.tmp 103) (.tmp 112) (.con (.bool false))⟩]⟩])
     (.cond (.tmp 113)
      (.seq (.reg [⟨(some 4), none, .mov (.con (.bool false))⟩])
      .ret)
      .skip)))))))))
  (.seq (.reg [⟨(some 4), none, .mov (.con (.bool true))⟩])
  .ret))))))))))))
def g5 : Fn := ⟨2, 114, [.tmp 4], b5⟩
/- quiver/quiverlaw06.TopkSames -/
def b6 : AC :=
  (.seq (.reg [⟨(some 4), none, .mov (.con (.bool false))⟩])
  (.seq (.seq (.reg [⟨(some 14), none, .call 11 []⟩,
    ⟨(some 15), none, .un .not (.tmp 14)⟩])
  (.cond (.tmp 15)
   (.seq (.reg [⟨(some 4), none, .mov (.con (.bool false))⟩])
   .ret)
   .skip))
  (.seq (.seq (.reg [⟨(some 16), none, .mov (.tmp 0)⟩,
    ⟨(some 17), none, .len (.tmp 16)⟩,
    ⟨(some 18), none, .mov (.con (.int .i64 0))⟩])
  (.block 0 (.loop (.seq (.reg [⟨(some 19), none, .bin .lss (.tmp 18) (.tmp 17)⟩])
    (.seq (.cond (.tmp 19)
     .skip
     (.exit 0))
    (.seq (.block 1 (.seq (.reg [⟨(some 20), none, .mov (.tmp 18)⟩,
       ⟨(some 21), none, .iaddr 1 (.tmp 16) (.tmp 18)⟩,
       ⟨(some 22), none, .load false 1 (.tmp 21)⟩,
       ⟨(some 5), none, .mov (.tmp 20)⟩,
       ⟨(some 6), none, .mov (.tmp 22)⟩])
     (.seq (.seq (.reg [⟨(some 23), none, .mov (.tmp 5)⟩,
       ⟨(some 24), none, .bin .eql (.tmp 23) (.con (.int .i64 8))⟩])
     (.cond (.tmp 24)
      (.exit 0)
      .skip))
     (.seq (.regd [⟨[⟨⟨(some 25), none, .mov (.tmp 6)⟩, true, false, false, 0, [], none⟩,
       ⟨⟨(some 26), none, .call 12 [(.tmp 25), (.con (.int .i64 50))]⟩, false, false, true, 0, [], none⟩,
       ⟨⟨(some 27), none, .mov (.tmp 0)⟩, true, false, false, 1, [], none⟩,
       ⟨⟨(some 28), none, .iaddr 1 (.tmp 27) (.con (.int .i64 0))⟩, true, false, false, 1, [], none⟩,
       ⟨⟨(some 29), none, .load false 1 (.tmp 28)⟩, false, false, false, 1, [0], none⟩], 1, [⟨(some 30), none, .call 12 [(.tmp 29), (.con (.int .i64 50))]⟩,
       ⟨(some 7), none, .mov (.tmp 26)⟩,
       ⟨(some 8), none, .mov (.tmp 30)⟩]⟩])
     (.seq (.reg [⟨(some 31), none, .mov (.tmp 7)⟩,
       ⟨(some 32), none, .mov (.tmp 8)⟩,
       ⟨(some 33), none, .call 18 [(.tmp 31), (.tmp 32)]⟩,
       ⟨(some 34), none, .mov (.tmp 7)⟩,
       ⟨(some 35), none, .mov (.tmp 8)⟩,
       ⟨(some 36), none, .call 14 [(.tmp 34), (.tmp 35)]⟩,
       ⟨(some 37), none, .eqB true (.tmp 33) (.tmp 36)⟩,
       ⟨(some 38), none, .mov (.tmp 37)⟩,
       ⟨(some 39), (some (38, false)), .mov (.tmp 7)⟩,
       ⟨(some 40), (some (38, false)), .mov (.tmp 6)⟩,
       ⟨(some 41), (some (38, false)), .call 12 [(.tmp 40), (.con (.int .i64 50))]⟩,
       ⟨(some 42), (some (38, false)), .call 18 [(.tmp 39), (.tmp 41)]⟩,
       ⟨(some 43), (some (38, false)), .un .not (.tmp 42)⟩,
       ⟨(some 44), none, .pick (.tmp 38) (.con (.bool true)) (.tmp 43)⟩])
     (.cond (.tmp 44)
      (.seq (.reg [⟨(some 4), none, .mov (.con (.bool false))⟩])
      .ret)
      .skip))))))
    (.reg [⟨(some 45), none, .bin .add (.tmp 18) (.con (.int .i64 1))⟩,
      ⟨(some 18), none, .mov (.tmp 45)⟩])))))))
  (.seq (.seq (.reg [⟨(some 46), none, .mov (.tmp 1)⟩,
    ⟨(some 47), none, .len (.tmp 46)⟩,
    ⟨(some 48), none, .mov (.con (.int .i64 0))⟩])
  (.block 2 (.loop (.seq (.reg [⟨(some 49), none, .bin .lss (.tmp 48) (.tmp 47)⟩])
    (.seq (.cond (.tmp 49)
     .skip
     (.exit 2))
    (.seq (.block 3 (.seq (.reg [⟨(some 50), none, .mov (.tmp 48)⟩,
       ⟨(some 51), none, .iaddr 1 (.tmp 46) (.tmp 48)⟩,
       ⟨(some 52), none, .load false 1 (.tmp 51)⟩,
       ⟨(some 9), none, .mov (.tmp 50)⟩,
       ⟨(some 10), none, .mov (.tmp 52)⟩])
     (.seq (.seq (.reg [⟨(some 53), none, .mov (.tmp 9)⟩,
       ⟨(some 54), none, .bin .eql (.tmp 53) (.con (.int .i64 8))⟩])
     (.cond (.tmp 54)
      (.exit 2)
      .skip))
     (.seq (.reg [⟨(some 56), none, .mov (.tmp 10)⟩,
       ⟨(some 57), none, .call 19 [(.tmp 56)]⟩,
       ⟨(some 55), none, .mov (.tmp 57)⟩,
       ⟨(some 58), none, .ext (.tmp 55) 0⟩,
       ⟨(some 59), none, .ext (.tmp 55) 1⟩,
       ⟨(some 11), none, .alloc (.agg [(.int .i64 0), .nilS])⟩,
       ⟨none, none, .store 2 (.tmp 11) (.tmp 58)⟩,
       ⟨(some 12), none, .mov (.tmp 59)⟩])
     (.seq (.reg [⟨(some 60), none, .mov (.tmp 10)⟩,
       ⟨(some 61), none, .bin .geq (.tmp 60) (.con (.int .i64 1))⟩,
       ⟨(some 62), none, .mov (.tmp 61)⟩,
       ⟨(some 63), (some (62, true)), .mov (.tmp 10)⟩,
       ⟨(some 64), (some (62, true)), .bin .leq (.tmp 63) (.con (.int .i64 16))⟩,
       ⟨(some 65), none, .pick (.tmp 62) (.tmp 64) (.con (.bool false))⟩,
       ⟨(some 13), none, .mov (.tmp 65)⟩])
     (.seq (.reg [⟨(some 66), none, .mov (.tmp 13)⟩,
       ⟨(some 67), none, .mov (.tmp 66)⟩,
       ⟨(some 68), (some (67, true)), .mov (.tmp 12)⟩,
       ⟨(some 69), (some (67, true)), .bin .neq (.tmp 68) (.con (.int .i64 0))⟩,
       ⟨(some 70), (some (67, true)), .mov (.tmp 69)⟩,
       ⟨(some 71), (some (70, false)), .faddr (.tmp 11) 0⟩,
       ⟨(some 72), (some (70, false)), .load false 1 (.tmp 71)⟩,
       ⟨(some 73), (some (70, false)), .mov (.tmp 10)⟩,
       ⟨(some 74), (some (70, false)), .bin .neq (.tmp 72) (.tmp 73)⟩,
       ⟨(some 75), (some (67, true)), .pick (.tmp 70) (.con (.bool true)) (.tmp 74)⟩,
       ⟨(some 76), none, .pick (.tmp 67) (.tmp 75) (.con (.bool false))⟩,
       ⟨(some 77), none, .mov (.tmp 76)⟩,
       ⟨(some 78), (some (77, false)), .mov (.tmp 13)⟩,
       ⟨(some 79), (some (77, false)), .un .not (.tmp 78)⟩,
       ⟨(some 80), (some (77, false)), .mov (.tmp 79)⟩,
       ⟨(some 81), (some (80, true)), .mov (.tmp 12)⟩,
       ⟨(some 82), (some (80, true)), .bin .neq (.tmp 81) (.con (.int .i64 2))⟩,
       ⟨(some 83), (some (80, true)), .mov (.tmp 82)⟩,
       ⟨(some 84), (some (83, false)), .faddr (.tmp 11) 0⟩,
       ⟨(some 85), (some (83, false)), .load false 1 (.tmp 84)⟩,
       ⟨(some 86), (some (83, false)), .bin .neq (.tmp 85) (.con (.int .i64 0))⟩,
       ⟨(some 87), (some (80, true)), .pick (.tmp 83) (.con (.bool true)) (.tmp 86)⟩,
       ⟨(some 88), (some (77, false)), .pick (.tmp 80) (.tmp 87) (.con (.bool false))⟩,
       ⟨(some 89), none, .pick (.tmp 77) (.con (.bool true)) (.tmp 88)⟩,
       ⟨(some 90), none, .mov (.tmp 89)⟩,
       ⟨(some 91), (some (90, false)), .faddr (.tmp 11) 1⟩,
       ⟨(some 92), (some (90, false)), .load false 1 (.tmp 91)⟩,
       ⟨(some 93), (some (90, false)), .len (.tmp 92)⟩,
       ⟨(some 94), (some (90, false)), .bin .neq (.tmp 93) (.con (.int .i64 0))⟩,
       ⟨(some 95), none, .pick (.tmp 90) (.con (.bool true)) (.tmp 94)⟩])
     (.cond (.tmp 95)
      (.seq (.reg [⟨(some 4), none, .mov (.con (.bool false))⟩])
      .ret)
      .skip)))))))
    (.reg [⟨(some 96), none, .bin .add (.tmp 48) (.con (.int .i64 1))⟩,
      ⟨(some 48), none, .mov (.tmp 96)⟩])))))))
  (.seq (.reg [⟨(some 4), none, .mov (.con (.bool true))⟩])
  .ret)))))
def g6 : Fn := ⟨2, 97, [.tmp 4], b6⟩
/- quiver/quiverlaw06.TopkTurned -/
def b7 : AC :=
  (.seq (.reg [⟨(some 6), none, .mov (.con (.bool false))⟩])
  (.seq (.seq (.reg [⟨(some 17), none, .call 11 []⟩,
    ⟨(some 18), none, .un .not (.tmp 17)⟩])
  (.cond (.tmp 18)
   (.seq (.reg [⟨(some 6), none, .mov (.con (.bool false))⟩])
   .ret)
   .skip))
  (.seq (.reg [⟨(some 19), none, .mov (.tmp 0)⟩,
    ⟨(some 20), none, .bin .rem (.tmp 19) (.con (.int .i64 16))⟩,
    ⟨(some 21), none, .bin .add (.tmp 20) (.con (.int .i64 16))⟩,
    ⟨(some 22), none, .bin .rem (.tmp 21) (.con (.int .i64 16))⟩,
    ⟨(some 23), none, .bin .add (.tmp 22) (.con (.int .i64 1))⟩,
    ⟨(some 0), none, .mov (.tmp 23)⟩])
  (.seq (.reg [⟨(some 24), none, .mov (.tmp 1)⟩,
    ⟨(some 25), none, .call 12 [(.tmp 24), (.con (.int .i64 200))]⟩,
    ⟨(some 1), none, .mov (.tmp 25)⟩])
  (.seq (.seq (.reg [⟨(some 26), none, .mov (.tmp 1)⟩,
    ⟨(some 27), none, .len (.tmp 26)⟩,
    ⟨(some 28), none, .bin .eql (.tmp 27) (.con (.int .i64 0))⟩])
  (.cond (.tmp 28)
   (.seq (.reg [⟨(some 6), none, .mov (.con (.bool true))⟩])
   .ret)
   .skip))
  (.seq (.reg [⟨(some 29), none, .mov (.tmp 2)⟩,
    ⟨(some 30), none, .conv .u64 (.tmp 29)⟩,
    ⟨(some 31), none, .mov (.tmp 1)⟩,
    ⟨(some 32), none, .len (.tmp 31)⟩,
    ⟨(some 33), none, .conv .u64 (.tmp 32)⟩,
    ⟨(some 34), none, .bin .rem (.tmp 30) (.tmp 33)⟩,
    ⟨(some 35), none, .conv .i64 (.tmp 34)⟩,
    ⟨(some 7), none, .mov (.tmp 35)⟩])
  (.seq (.regd [⟨[⟨⟨(some 36), none, .mov (.tmp 1)⟩, true, false, false, 0, [], none⟩,
    ⟨⟨(some 37), none, .mov (.tmp 7)⟩, true, false, false, 0, [], none⟩,
    ⟨⟨(some 38), none, .slice 2 (.tmp 36) (some (.tmp 37)) none⟩, true, false, false, 0, [], none⟩,
    ⟨⟨(some 39), none, .mov (.tmp 1)⟩, true, false, false, 0, [], none⟩,
    ⟨⟨(some 40), none, .len (.tmp 39)⟩, true, false, false, 0, [], none⟩,
    ⟨⟨(some 41), none, .call 12 [(.tmp 38), (.tmp 40)]⟩, false, false, true, 0, [], none⟩,
    ⟨⟨(some 42), none, .mov (.tmp 1)⟩, true, false, false, 1, [], none⟩,
    ⟨⟨(some 43), none, .mov (.tmp 7)⟩, true, false, false, 1, [], none⟩,
    ⟨⟨(some 44), none, .slice 2 (.tmp 42) none (some (.tmp 43))⟩, true, false, false, 1, [], none⟩], 1, [⟨(some 45), none, .append 2 16 (.tmp 41) (.tmp 44)⟩,
    ⟨(some 8), none, .mov (.tmp 45)⟩]⟩])
  (.seq (.reg [⟨(some 46), none, .mov (.tmp 1)⟩,
    ⟨(some 47), none, .mov (.tmp 1)⟩,
    ⟨(some 48), none, .len (.tmp 47)⟩,
    ⟨(some 49), none, .call 12 [(.tmp 46), (.tmp 48)]⟩,
    ⟨(some 9), none, .mov (.tmp 49)⟩])
  (.seq (.seq (.reg [⟨(some 50), none, .mov (.tmp 9)⟩,
    ⟨(some 51), none, .len (.tmp 50)⟩,
    ⟨(some 52), none, .mov (.con (.int .i64 0))⟩])
  (.block 0 (.loop (.seq (.reg [⟨(some 53), none, .bin .lss (.tmp 52) (.tmp 51)⟩])
    (.seq (.cond (.tmp 53)
     .skip
     (.exit 0))
    (.seq (.block 1 (.seq (.reg [⟨(some 54), none, .mov (.tmp 52)⟩,
       ⟨(some 10), none, .mov (.tmp 54)⟩])
     (.reg [⟨(some 55), none, .mov (.tmp 9)⟩,
       ⟨(some 56), none, .mov (.tmp 10)⟩,
       ⟨(some 57), none, .mov (.tmp 1)⟩,
       ⟨(some 58), none, .mov (.tmp 1)⟩,
       ⟨(some 59), none, .len (.tmp 58)⟩,
       ⟨(some 60), none, .bin .sub (.tmp 59) (.con (.int .i64 1))⟩,
       ⟨(some 61), none, .mov (.tmp 10)⟩,
       ⟨(some 62), none, .bin .sub (.tmp 60) (.tmp 61)⟩,
       ⟨(some 63), none, .iaddr 2 (.tmp 57) (.tmp 62)⟩,
       ⟨(some 64), none, .load true 2 (.tmp 63)⟩,
       ⟨(some 65), none, .iaddr 2 (.tmp 55) (.tmp 56)⟩,
       ⟨none, none, .store 2 (.tmp 65) (.tmp 64)⟩])))
    (.reg [⟨(some 66), none, .bin .add (.tmp 52) (.con (.int .i64 1))⟩,
      ⟨(some 52), none, .mov (.tmp 66)⟩])))))))
  (.seq (.reg [⟨(some 68), none, .mov (.tmp 1)⟩,
    ⟨(some 69), none, .mov (.tmp 0)⟩,
    ⟨(some 70), none, .call 13 [(.tmp 68), (.tmp 69)]⟩,
    ⟨(some 67), none, .mov (.tmp 70)⟩,
    ⟨(some 71), none, .ext (.tmp 67) 0⟩,
    ⟨(some 72), none, .ext (.tmp 67) 1⟩,
    ⟨(some 11), none, .mov (.tmp 71)⟩,
    ⟨(some 12), none, .mov (.tmp 72)⟩])
  (.seq (.reg [⟨(some 74), none, .mov (.tmp 8)⟩,
    ⟨(some 75), none, .mov (.tmp 0)⟩,
    ⟨(some 76), none, .call 13 [(.tmp 74), (.tmp 75)]⟩,
    ⟨(some 73), none, .mov (.tmp 76)⟩,
    ⟨(some 77), none, .ext (.tmp 73) 0⟩,
    ⟨(some 78), none, .ext (.tmp 73) 1⟩,
    ⟨(some 13), none, .mov (.tmp 77)⟩,
    ⟨(some 14), none, .mov (.tmp 78)⟩])
  (.seq (.reg [⟨(some 80), none, .mov (.tmp 9)⟩,
    ⟨(some 81), none, .mov (.tmp 0)⟩,
    ⟨(some 82), none, .call 13 [(.tmp 80), (.tmp 81)]⟩,
    ⟨(some 79), none, .mov (.tmp 82)⟩,
    ⟨(some 83), none, .ext (.tmp 79) 0⟩,
    ⟨(some 84), none, .ext (.tmp 79) 1⟩,
    ⟨(some 15), none, .mov (.tmp 83)⟩,
    ⟨(some 16), none, .mov (.tmp 84)⟩])
  (.seq (.reg [⟨(some 85), none, .mov (.tmp 12)⟩,
    ⟨(some 86), none, .bin .eql (.tmp 85) (.con (.int .i64 0))⟩,
    ⟨(some 87), none, .mov (.tmp 86)⟩,
    ⟨(some 88), (some (87, true)), .mov (.tmp 14)⟩,
    ⟨(some 89), (some (87, true)), .bin .eql (.tmp 88) (.con (.int .i64 0))⟩,
    ⟨(some 90), none, .pick (.tmp 87) (.tmp 89) (.con (.bool false))⟩,
    ⟨(some 91), none, .mov (.tmp 90)⟩,
    ⟨(some 92), (some (91, true)), .mov (.tmp 16)⟩,
    ⟨(some 93), (some (91, true)), .bin .eql (.tmp 92) (.con (.int .i64 0))⟩,
    ⟨(some 94), none, .pick (.tmp 91) (.tmp 93) (.con (.bool false))⟩,
    ⟨(some 95), none, .mov (.tmp 94)⟩,
    ⟨(some 96), (some (95, true)), .mov (.tmp 11)⟩,
    ⟨(some 97), (some (95, true)), .mov (.tmp 13)⟩,
    ⟨(some 98), (some (95, true)), .call 18 [(.tmp 96), (.tmp 97)]⟩,
    ⟨(some 99), none, .pick (.tmp 95) (.tmp 98) (.con (.bool false))⟩,
    ⟨(some 100), none, .mov (.tmp 99)⟩,
    ⟨(some 101), (some (100, true)), .mov (.tmp 11)⟩,
    ⟨(some 102), (some (100, true)), .mov (.tmp 15)⟩,
    ⟨(some 103), (some (100, true)), .call 18 [(.tmp 101), (.tmp 102)]⟩,
    ⟨(some 104), none, .pick (.tmp 100) (.tmp 103) (.con (.bool false))⟩,
    ⟨(some 6), none, .mov (.tmp 104)⟩])
  .ret)))))))))))))
def g7 : Fn := ⟨3, 105, [.tmp 6], b7⟩
/- quiver/quiverlaw06.TopkMost -/
def b8 : AC :=
  (.seq (.reg [⟨(some 4), none, .mov (.con (.bool false))⟩])
  (.seq (.seq (.reg [⟨(some 13), none, .call 11 []⟩,
    ⟨(some 14), none, .un .not (.tmp 13)⟩])
  (.cond (.tmp 14)
   (.seq (.reg [⟨(some 4), none, .mov (.con (.bool false))⟩])
   .ret)
   .skip))
  (.seq (.reg [⟨(some 15), none, .mov (.tmp 0)⟩,
    ⟨(some 16), none, .bin .rem (.tmp 15) (.con (.int .i64 2))⟩,
    ⟨(some 17), none, .bin .add (.tmp 16) (.con (.int .i64 2))⟩,
    ⟨(some 18), none, .bin .rem (.tmp 17) (.con (.int .i64 2))⟩,
    ⟨(some 19), none, .bin .add (.con (.int .i64 2000)) (.tmp 18)⟩,
    ⟨(some 20), none, .mksl 2 16 (.agg [(.int .u64 0), (.int .u64 0)]) (.tmp 19)⟩,
    ⟨(some 5), none, .mov (.tmp 20)⟩])
  (.seq (.seq (.reg [⟨(some 21), none, .mov (.tmp 5)⟩,
    ⟨(some 22), none, .len (.tmp 21)⟩,
    ⟨(some 23), none, .mov (.con (.int .i64 0))⟩])
  (.block 0 (.loop (.seq (.reg [⟨(some 24), none, .bin .lss (.tmp 23) (.tmp 22)⟩])
    (.seq (.cond (.tmp 24)
     .skip
     (.exit 0))
    (.seq (.block 1 (.seq (.reg [⟨(some 25), none, .mov (.tmp 23)⟩,
       ⟨(some 6), none, .mov (.tmp 25)⟩])
     (.reg [⟨(some 26), none, .mov (.tmp 5)⟩,
       ⟨(some 27), none, .mov (.tmp 6)⟩,
       ⟨(some 28), none, .mov (.tmp 6)⟩,
       ⟨(some 29), none, .conv .u64 (.tmp 28)⟩,
       ⟨(some 30), none, .mov (.tmp 5)⟩,
       ⟨(some 31), none, .len (.tmp 30)⟩,
       ⟨(some 32), none, .mov (.tmp 6)⟩,
       ⟨(some 33), none, .bin .sub (.tmp 31) (.tmp 32)⟩,
       ⟨(some 34), none, .conv .u64 (.tmp 33)⟩,
       ⟨(some 35), none, .build [(.int .u64 0), (.int .u64 0)] [(0, 1, (.tmp 29)), (1, 1, (.tmp 34))]⟩,
       ⟨(some 36), none, .iaddr 2 (.tmp 26) (.tmp 27)⟩,
       ⟨none, none, .store 2 (.tmp 36) (.tmp 35)⟩])))
    (.reg [⟨(some 37), none, .bin .add (.tmp 23) (.con (.int .i64 1))⟩,
      ⟨(some 23), none, .mov (.tmp 37)⟩])))))))
  (.seq (.reg [⟨(some 38), none, .mov (.tmp 1)⟩,
    ⟨(some 39), none, .bin .rem (.tmp 38) (.con (.int .i64 16))⟩,
    ⟨(some 40), none, .bin .add (.tmp 39) (.con (.int .i64 16))⟩,
    ⟨(some 41), none, .bin .rem (.tmp 40) (.con (.int .i64 16))⟩,
    ⟨(some 42), none, .bin .add (.tmp 41) (.con (.int .i64 1))⟩,
    ⟨(some 1), none, .mov (.tmp 42)⟩])
  (.seq (.reg [⟨(some 44), none, .mov (.tmp 5)⟩,
    ⟨(some 45), none, .mov (.tmp 1)⟩,
    ⟨(some 46), none, .call 13 [(.tmp 44), (.tmp 45)]⟩,
    ⟨(some 43), none, .mov (.tmp 46)⟩,
    ⟨(some 47), none, .ext (.tmp 43) 0⟩,
    ⟨(some 48), none, .ext (.tmp 43) 1⟩,
    ⟨(some 7), none, .mov (.tmp 47)⟩,
    ⟨(some 8), none, .mov (.tmp 48)⟩])
  (.seq (.regd [⟨[⟨⟨(some 50), none, .mov (.tmp 1)⟩, true, false, false, 0, [], none⟩,
    ⟨⟨(some 51), none, .mov (.tmp 5)⟩, true, false, false, 0, [], none⟩,
    ⟨⟨(some 52), none, .slice 2 (.tmp 51) none (some (.con (.int .i64 5)))⟩, true, false, false, 0, [], none⟩,
    ⟨⟨(some 53), none, .mov (.tmp 5)⟩, true, false, false, 0, [], none⟩,
    ⟨⟨(some 54), none, .slice 2 (.tmp 53) (some (.con (.int .i64 5))) none⟩, true, false, false, 0, [], none⟩,
    ⟨⟨(some 55), none, .lit 1 [(.tmp 52), (.tmp 54)]⟩, false, false, true, 0, [], none⟩], 1, [⟨(some 56), none, .call 16 [(.tmp 50), (.tmp 55)]⟩,
    ⟨(some 49), none, .mov (.tmp 56)⟩]⟩,
   ⟨[⟨⟨(some 57), none, .ext (.tmp 49) 0⟩, true, false, false, 0, [], none⟩,
    ⟨⟨(some 58), none, .ext (.tmp 49) 1⟩, true, false, false, 0, [], none⟩,
    ⟨⟨(some 9), none, .mov (.tmp 57)⟩, true, false, false, 0, [], none⟩], 0, [⟨(some 10), none, .mov (.tmp 58)⟩]⟩])
  (.seq (.reg [⟨(some 60), none, .mov (.tmp 1)⟩,
    ⟨(some 61), none, .build [(.int .i64 0), .nilS] [(0, 1, (.tmp 60))]⟩,
    ⟨(some 62), none, .mov (.tmp 5)⟩,
    ⟨(some 63), none, .call 20 [(.tmp 61), (.tmp 62)]⟩,
    ⟨(some 59), none, .mov (.tmp 63)⟩,
    ⟨(some 64), none, .ext (.tmp 59) 0⟩,
    ⟨(some 65), none, .ext (.tmp 59) 1⟩,
    ⟨(some 11), none, .alloc (.agg [(.int .i64 0), .nilS])⟩,
    ⟨none, none, .store 2 (.tmp 11) (.tmp 64)⟩,
    ⟨(some 12), none, .mov (.tmp 65)⟩])
  (.seq (.seq (.reg [⟨(some 66), none, .mov (.tmp 5)⟩,
    ⟨(some 67), none, .len (.tmp 66)⟩,
    ⟨(some 68), none, .bin .gtr (.tmp 67) (.con (.int .i64 2000))⟩])
  (.cond (.tmp 68)
   (.seq (.reg [⟨(some 69), none, .mov (.tmp 8)⟩,
     ⟨(some 70), none, .bin .eql (.tmp 69) (.con (.int .i64 3))⟩,
     ⟨(some 71), none, .mov (.tmp 70)⟩,
     ⟨(some 72), (some (71, true)), .mov (.tmp 10)⟩,
     ⟨(some 73), (some (71, true)), .bin .eql (.tmp 72) (.con (.int .i64 3))⟩,
     ⟨(some 74), none, .pick (.tmp 71) (.tmp 73) (.con (.bool false))⟩,
     ⟨(some 75), none, .mov (.tmp 74)⟩,
     ⟨(some 76), (some (75, true)), .mov (.tmp 12)⟩,
     ⟨(some 77), (some (75, true)), .bin .eql (.tmp 76) (.con (.int .i64 3))⟩,
     ⟨(some 78), none, .pick (.tmp 75) (.tmp 77) (.con (.bool false))⟩,
     ⟨(some 79), none, .mov (.tmp 78)⟩,
     ⟨(some 80), (some (79, true)), .mov (.tmp 7)⟩,
     ⟨(some 81), (some (79, true)), .len (.tmp 80)⟩,
     ⟨(some 82), (some (79, true)), .mov (.tmp 9)⟩,
     ⟨(some 83), (some (79, true)), .len (.tmp 82)⟩,
     ⟨(some 84), (some (79, true)), .bin .add (.tmp 81) (.tmp 83)⟩,
     ⟨(some 85), (some (79, true)), .faddr (.tmp 11) 1⟩,
     ⟨(some 86), (some (79, true)), .load false 1 (.tmp 85)⟩,
     ⟨(some 87), (some (79, true)), .len (.tmp 86)⟩,
     ⟨(some 88), (some (79, true)), .bin .add (.tmp 84) (.tmp 87)⟩,
     ⟨(some 89), (some (79, true)), .bin .eql (.tmp 88) (.con (.int .i64 0))⟩,
     ⟨(some 90), none, .pick (.tmp 79) (.tmp 89) (.con (.bool false))⟩,
     ⟨(some 4), none, .mov (.tmp 90)⟩])
   .ret)
   .skip))
  (.seq (.reg [⟨(some 91), none, .mov (.tmp 8)⟩,
    ⟨(some 92), none, .bin .eql (.tmp 91) (.con (.int .i64 0))⟩,
    ⟨(some 93), none, .mov (.tmp 92)⟩,
    ⟨(some 94), (some (93, true)), .mov (.tmp 10)⟩,
    ⟨(some 95), (some (93, true)), .bin .eql (.tmp 94) (.con (.int .i64 0))⟩,
    ⟨(some 96), none, .pick (.tmp 93) (.tmp 95) (.con (.bool false))⟩,
    ⟨(some 97), none, .mov (.tmp 96)⟩,
    ⟨(some 98), (some (97, true)), .mov (.tmp 12)⟩,
    ⟨(some 99), (some (97, true)), .bin .eql (.tmp 98) (.con (.int .i64 0))⟩,
    ⟨(some 100), none, .pick (.tmp 97) (.tmp 99) (.con (.bool false))⟩,
    ⟨(some 101), none, .mov (.tmp 100)⟩,
    ⟨(some 102), (some (101, true)), .mov (.tmp 7)⟩,
    ⟨(some 103), (some (101, true)), .len (.tmp 102)⟩,
    ⟨(some 104), (some (101, true)), .mov (.tmp 1)⟩,
    ⟨(some 105), (some (101, true)), .bin .eql (.tmp 103) (.tmp 104)⟩,
    ⟨(some 106), none, .pick (.tmp 101) (.tmp 105) (.con (.bool false))⟩,
    ⟨(some 107), none, .mov (.tmp 106)⟩,
    ⟨(some 108), (some (107, true)), .mov (.tmp 7)⟩,
    ⟨(some 109), (some (107, true)), .iaddr 2 (.tmp 108) (.con (.int .i64 0))⟩,
    ⟨(some 110), (some (107, true)), .faddr (.tmp 109) 0⟩,
    ⟨(some 111), (some (107, true)), .load false 1 (.tmp 110)⟩,
    ⟨(some 112), (some (107, true)), .mov (.tmp 5)⟩,
    ⟨(some 113), (some (107, true)), .len (.tmp 112)⟩,
    ⟨(some 114), (some (107, true)), .conv .u64 (.tmp 113)⟩,
    ⟨(some 115), (some (107, true)), .bin .sub (.tmp 114) (.con (.int .u64 1))⟩,
    ⟨(some 116), (some (107, true)), .bin .eql (.tmp 111) (.tmp 115)⟩,
    ⟨(some 117), none, .pick (.tmp 107) (.tmp 116) (.con (.bool false))⟩,
    ⟨(some 118), none, .mov (.tmp 117)⟩,
    ⟨(some 119), (some (118, true)), .mov (.tmp 7)⟩,
    ⟨(some 120), (some (118, true)), .mov (.tmp 9)⟩,
    ⟨(some 121), (some (118, true)), .call 14 [(.tmp 119), (.tmp 120)]⟩,
    ⟨(some 122), none, .pick (.tmp 118) (.tmp 121) (.con (.bool false))⟩,
    ⟨(some 123), none, .mov (.tmp 122)⟩,
    ⟨(some 124), (some (123, true)), .mov (.tmp 7)⟩,
    ⟨(some 125), (some (123, true)), .faddr (.tmp 11) 1⟩,
    ⟨(some 126), (some (123, true)), .load false 1 (.tmp 125)⟩,
    ⟨(some 127), (some (123, true)), .call 14 [(.tmp 124), (.tmp 126)]⟩,
    ⟨(some 128), none, .pick (.tmp 123) (.tmp 127) (.con (.bool false))⟩,
    ⟨(some 4), none, .mov (.tmp 128)⟩])
  .ret))))))))))
def g8 : Fn := ⟨2, 129, [.tmp 4], b8⟩
/- quiver/quiverlaw06.TopkOffers -/
def b9 : AC :=
  (.seq (.reg [⟨(some 2), none, .box (.tmp 0)⟩,
    ⟨(some 4), none, .mov (.con (.bool false))⟩])
  (.seq (.seq (.reg [⟨(some 17), none, .call 11 []⟩,
    ⟨(some 18), none, .un .not (.tmp 17)⟩])
  (.cond (.tmp 18)
   (.seq (.reg [⟨(some 4), none, .mov (.con (.bool false))⟩])
   .ret)
   .skip))
  (.seq (.regd [⟨[⟨⟨(some 19), none, .faddr (.tmp 2) 0⟩, true, false, false, 0, [], none⟩,
    ⟨⟨(some 20), none, .load false 1 (.tmp 19)⟩, false, false, false, 0, [0, 1], none⟩,
    ⟨⟨(some 21), none, .faddr (.tmp 2) 1⟩, true, false, false, 0, [], none⟩,
    ⟨⟨(some 22), none, .load false 1 (.tmp 21)⟩, false, false, false, 0, [1], none⟩,
    ⟨⟨(some 23), none, .call 12 [(.tmp 22), (.con (.int .i64 17))]⟩, false, false, true, 0, [1], none⟩,
    ⟨⟨(some 24), none, .build [(.int .i64 0), .nilS] [(0, 1, (.tmp 20)), (1, 1, (.tmp 23))]⟩, true, false, false, 1, [], none⟩,
    ⟨⟨(some 5), none, .alloc (.agg [(.int .i64 0), .nilS])⟩, false, false, true, 1, [0], none⟩], 2, [⟨none, none, .store 2 (.tmp 5) (.tmp 24)⟩]⟩])
  (.seq (.seq (.reg [⟨(some 25), none, .mov (.tmp 1)⟩,
    ⟨(some 26), none, .len (.tmp 25)⟩,
    ⟨(some 27), none, .mov (.con (.int .i64 0))⟩])
  (.block 0 (.loop (.seq (.reg [⟨(some 28), none, .bin .lss (.tmp 27) (.tmp 26)⟩])
    (.seq (.cond (.tmp 28)
     .skip
     (.exit 0))
    (.seq (.block 1 (.seq (.reg [⟨(some 29), none, .mov (.tmp 27)⟩,
       ⟨(some 30), none, .iaddr 1 (.tmp 25) (.tmp 27)⟩,
       ⟨(some 31), none, .load false 1 (.tmp 30)⟩,
       ⟨(some 6), none, .mov (.tmp 29)⟩,
       ⟨(some 7), none, .mov (.tmp 31)⟩])
     (.seq (.seq (.reg [⟨(some 32), none, .mov (.tmp 6)⟩,
       ⟨(some 33), none, .bin .eql (.tmp 32) (.con (.int .i64 10))⟩])
     (.cond (.tmp 33)
      (.exit 0)
      .skip))
     (.seq (.reg [⟨(some 34), none, .mov (.tmp 7)⟩,
       ⟨(some 35), none, .call 12 [(.tmp 34), (.con (.int .i64 40))]⟩,
       ⟨(some 7), none, .mov (.tmp 35)⟩])
     (.seq (.reg [⟨(some 36), none, .faddr (.tmp 5) 1⟩,
       ⟨(some 37), none, .load false 1 (.tmp 36)⟩,
       ⟨(some 38), none, .faddr (.tmp 5) 1⟩,
       ⟨(some 39), none, .load false 1 (.tmp 38)⟩,
       ⟨(some 40), none, .len (.tmp 39)⟩,
       ⟨(some 41), none, .call 12 [(.tmp 37), (.tmp 40)]⟩,
       ⟨(some 8), none, .mov (.tmp 41)⟩])
     (.seq (.reg [⟨(some 42), none, .load true 2 (.tmp 5)⟩,
       ⟨(some 43), none, .call 21 [(.tmp 42)]⟩,
       ⟨(some 9), none, .mov (.tmp 43)⟩])
     (.seq (.seq (.reg [⟨(some 44), none, .load true 2 (.tmp 5)⟩,
       ⟨(some 45), none, .call 22 [(.tmp 44)]⟩,
       ⟨(some 10), none, .mov (.tmp 45)⟩])
     (.seq (.reg [⟨(some 46), none, .mov (.tmp 10)⟩,
       ⟨(some 47), none, .bin .eql (.tmp 46) (.con (.int .i64 0))⟩,
       ⟨(some 48), none, .mov (.tmp 9)⟩,
       ⟨(some 49), none, .eqB true (.tmp 47) (.tmp 48)⟩,
       ⟨(some 50), none, .mov (.tmp 49)⟩,
       ⟨(some 51), (some (50, false)), .mov (.tmp 9)⟩,
       ⟨(some 52), (some (50, false)), .un .not (.tmp 51)⟩,
       ⟨(some 53), (some (50, false)), .mov (.tmp 52)⟩,
       ⟨(some 54), (some (53, true)), .mov (.tmp 10)⟩,
       ⟨(some 55), (some (53, true)), .bin .neq (.tmp 54) (.con (.int .i64 160))⟩,
       ⟨(some 56), (some (50, false)), .pick (.tmp 53) (.tmp 55) (.con (.bool false))⟩,
       ⟨(some 57), none, .pick (.tmp 50) (.con (.bool true)) (.tmp 56)⟩])
     (.cond (.tmp 57)
      (.seq (.reg [⟨(some 4), none, .mov (.con (.bool false))⟩])
      .ret)
      .skip)))
     (.seq (.reg [⟨(some 59), none, .load true 2 (.tmp 5)⟩,
       ⟨(some 60), none, .call 23 [(.tmp 59)]⟩,
       ⟨(some 58), none, .mov (.tmp 60)⟩,
       ⟨(some 61), none, .ext (.tmp 58) 0⟩,
       ⟨(some 62), none, .ext (.tmp 58) 1⟩,
       ⟨(some 11), none, .alloc (.agg [(.int .u64 0), (.int .u64 0)])⟩,
       ⟨none, none, .store 2 (.tmp 11) (.tmp 61)⟩,
       ⟨(some 12), none, .mov (.tmp 62)⟩])
     (.seq (.reg [⟨(some 64), none, .load true 2 (.tmp 5)⟩,
       ⟨(some 65), none, .mov (.tmp 7)⟩,
       ⟨(some 66), none, .call 20 [(.tmp 64), (.tmp 65)]⟩,
       ⟨(some 63), none, .mov (.tmp 66)⟩,
       ⟨(some 67), none, .ext (.tmp 63) 0⟩,
       ⟨(some 68), none, .ext (.tmp 63) 1⟩,
       ⟨(some 13), none, .alloc (.agg [(.int .i64 0), .nilS])⟩,
       ⟨none, none, .store 2 (.tmp 13) (.tmp 67)⟩,
       ⟨(some 14), none, .mov (.tmp 68)⟩])
     (.seq (.seq (.reg [⟨(some 69), none, .mov (.tmp 9)⟩,
       ⟨(some 70), none, .un .not (.tmp 69)⟩])
     (.cond (.tmp 70)
      (.seq (.reg [⟨(some 71), none, .mov (.tmp 14)⟩,
        ⟨(some 72), none, .bin .eql (.tmp 71) (.con (.int .i64 160))⟩,
        ⟨(some 73), none, .mov (.tmp 72)⟩,
        ⟨(some 74), (some (73, true)), .faddr (.tmp 13) 0⟩,
        ⟨(some 75), (some (73, true)), .load false 1 (.tmp 74)⟩,
        ⟨(some 76), (some (73, true)), .bin .eql (.tmp 75) (.con (.int .i64 0))⟩,
        ⟨(some 77), none, .pick (.tmp 73) (.tmp 76) (.con (.bool false))⟩,
        ⟨(some 78), none, .mov (.tmp 77)⟩,
        ⟨(some 79), (some (78, true)), .faddr (.tmp 13) 1⟩,
        ⟨(some 80), (some (78, true)), .load false 1 (.tmp 79)⟩,
        ⟨(some 81), (some (78, true)), .len (.tmp 80)⟩,
        ⟨(some 82), (some (78, true)), .bin .eql (.tmp 81) (.con (.int .i64 0))⟩,
        ⟨(some 83), none, .pick (.tmp 78) (.tmp 82) (.con (.bool false))⟩,
        ⟨(some 84), none, .mov (.tmp 83)⟩,
        ⟨(some 85), (some (84, true)), .mov (.tmp 12)⟩,
        ⟨(some 86), (some (84, true)), .un .not (.tmp 85)⟩,
        ⟨(some 87), none, .pick (.tmp 84) (.tmp 86) (.con (.bool false))⟩,
        ⟨(some 88), none, .mov (.tmp 87)⟩,
        ⟨(some 89), (some (88, true)), .load true 2 (.tmp 11)⟩,
        ⟨(some 90), (some (88, true)), .build [(.int .u64 0), (.int .u64 0)] []⟩,
        ⟨(some 91), (some (88, true)), .eqA false [.int, .int] (.tmp 89) (.tmp 90)⟩,
        ⟨(some 92), none, .pick (.tmp 88) (.tmp 91) (.con (.bool false))⟩,
        ⟨(some 4), none, .mov (.tmp 92)⟩])
      .ret)
      .skip))
     (.seq (.seq (.regd [⟨[⟨⟨(some 93), none, .mov (.tmp 12)⟩, true, false, false, 0, [], none⟩,
       ⟨⟨(some 94), none, .faddr (.tmp 5) 1⟩, true, false, false, 0, [], none⟩,
       ⟨⟨(some 95), none, .load false 1 (.tmp 94)⟩, false, false, false, 0, [], none⟩,
       ⟨⟨(some 96), none, .len (.tmp 95)⟩, true, false, false, 0, [], none⟩,
       ⟨⟨(some 97), none, .faddr (.tmp 5) 0⟩, true, false, false, 0, [], none⟩,
       ⟨⟨(some 98), none, .load false 1 (.tmp 97)⟩, false, false, false, 0, [], none⟩,
       ⟨⟨(some 99), none, .bin .eql (.tmp 96) (.tmp 98)⟩, true, false, false, 0, [], none⟩], 0, [⟨(some 100), none, .eqB true (.tmp 93) (.tmp 99)⟩,
       ⟨(some 101), none, .mov (.tmp 100)⟩,
       ⟨(some 102), (some (101, false)), .mov (.tmp 12)⟩,
       ⟨(some 103), (some (101, false)), .mov (.tmp 102)⟩]⟩,
      ⟨[⟨⟨(some 104), (some (103, true)), .load true 2 (.tmp 11)⟩, false, false, false, 0, [], none⟩,
       ⟨⟨(some 105), (some (103, true)), .faddr (.tmp 5) 1⟩, true, false, false, 0, [], none⟩,
       ⟨⟨(some 106), (some (103, true)), .load false 1 (.tmp 105)⟩, false, false, false, 0, [], none⟩,
       ⟨⟨(some 107), (some (103, true)), .faddr (.tmp 5) 0⟩, true, false, false, 0, [], none⟩,
       ⟨⟨(some 108), (some (103, true)), .load false 1 (.tmp 107)⟩, false, false, false, 0, [], none⟩,
       ⟨⟨(some 109), (some (103, true)), .bin .sub (.tmp 108) (.con (.int .i64 1))⟩, true, false, false, 0, [], none⟩,
       ⟨⟨(some 110), (some (103, true)), .iaddr 2 (.tmp 106) (.tmp 109)⟩, true, false, false, 0, [], none⟩,
       ⟨⟨(some 111), (some (103, true)), .load true 2 (.tmp 110)⟩, false, false, false, 0, [], none⟩], 0, [⟨(some 112), (some (103, true)), .eqA true [.int, .int] (.tmp 104) (.tmp 111)⟩,
       ⟨(some 113), (some (101, false)), .pick (.tmp 103) (.tmp 112) (.con (.bool false))⟩,
       ⟨(some 114), none, .pick (.tmp 101) (.con (.bool true)) (.tmp 113)⟩,
       ⟨(some 115), none, .mov (.tmp 114)⟩,
       ⟨(some 116), (some (115, false)), .mov (.tmp 12)⟩,
       ⟨(some 117), (some (115, false)), .un .not (.tmp 116)⟩,
       ⟨(some 118), (some (115, false)), .mov (.tmp 117)⟩]⟩,
      ⟨[⟨⟨(some 119), (some (118, true)), .load true 2 (.tmp 11)⟩, false, false, false, 0, [], none⟩,
       ⟨⟨(some 120), (some (118, true)), .build [(.int .u64 0), (.int .u64 0)] []⟩, true, false, false, 0, [], none⟩], 0, [⟨(some 121), (some (118, true)), .eqA true [.int, .int] (.tmp 119) (.tmp 120)⟩,
       ⟨(some 122), (some (115, false)), .pick (.tmp 118) (.tmp 121) (.con (.bool false))⟩,
       ⟨(some 123), none, .pick (.tmp 115) (.con (.bool true)) (.tmp 122)⟩]⟩])
     (.cond (.tmp 123)
      (.seq (.reg [⟨(some 4), none, .mov (.con (.bool false))⟩])
      .ret)
      .skip))
     (.seq (.regd [⟨[⟨⟨(some 124), none, .faddr (.tmp 5) 1⟩, true, false, false, 0, [], none⟩,
       ⟨⟨(some 125), none, .load false 1 (.tmp 124)⟩, false, false, false, 0, [], none⟩,
       ⟨⟨(some 126), none, .faddr (.tmp 5) 1⟩, true, false, false, 0, [], none⟩,
       ⟨⟨(some 127), none, .load false 1 (.tmp 126)⟩, false, false, false, 0, [], none⟩,
       ⟨⟨(some 128), none, .len (.tmp 127)⟩, true, false, false, 0, [], none⟩,
       ⟨⟨(some 129), none, .call 12 [(.tmp 125), (.tmp 128)]⟩, false, false, true, 0, [], none⟩,
       ⟨⟨(some 130), none, .mov (.tmp 7)⟩, true, false, false, 1, [], none⟩,
       ⟨⟨(some 131), none, .append 2 16 (.tmp 129) (.tmp 130)⟩, false, false, true, 1, [], some 0⟩,
       ⟨⟨(some 132), none, .faddr (.tmp 5) 0⟩, true, false, false, 2, [], none⟩,
       ⟨⟨(some 133), none, .load false 1 (.tmp 132)⟩, false, false, false, 2, [0, 1], none⟩], 2, [⟨(some 134), none, .call 15 [(.tmp 131), (.tmp 133)]⟩,
       ⟨(some 15), none, .mov (.tmp 134)⟩]⟩])
     (.seq (.seq (.reg [⟨(some 135), none, .mov (.tmp 14)⟩,
       ⟨(some 136), none, .bin .neq (.tmp 135) (.con (.int .i64 0))⟩,
       ⟨(some 137), none, .mov (.tmp 136)⟩,
       ⟨(some 138), (some (137, false)), .faddr (.tmp 13) 0⟩,
       ⟨(some 139), (some (137, false)), .load false 1 (.tmp 138)⟩,
       ⟨(some 140), (some (137, false)), .faddr (.tmp 5) 0⟩,
       ⟨(some 141), (some (137, false)), .load false 1 (.tmp 140)⟩,
       ⟨(some 142), (some (137, false)), .bin .neq (.tmp 139) (.tmp 141)⟩,
       ⟨(some 143), none, .pick (.tmp 137) (.con (.bool true)) (.tmp 142)⟩,
       ⟨(some 144), none, .mov (.tmp 143)⟩,
       ⟨(some 145), (some (144, false)), .faddr (.tmp 13) 1⟩,
       ⟨(some 146), (some (144, false)), .load false 1 (.tmp 145)⟩,
       ⟨(some 147), (some (144, false)), .mov (.tmp 15)⟩,
       ⟨(some 148), (some (144, false)), .call 14 [(.tmp 146), (.tmp 147)]⟩,
       ⟨(some 149), (some (144, false)), .un .not (.tmp 148)⟩,
       ⟨(some 150), none, .pick (.tmp 144) (.con (.bool true)) (.tmp 149)⟩,
       ⟨(some 151), none, .mov (.tmp 150)⟩,
       ⟨(some 152), (some (151, false)), .faddr (.tmp 5) 1⟩,
       ⟨(some 153), (some (151, false)), .load false 1 (.tmp 152)⟩,
       ⟨(some 154), (some (151, false)), .mov (.tmp 8)⟩,
       ⟨(some 155), (some (151, false)), .call 14 [(.tmp 153), (.tmp 154)]⟩,
       ⟨(some 156), (some (151, false)), .un .not (.tmp 155)⟩,
       ⟨(some 157), none, .pick (.tmp 151) (.con (.bool true)) (.tmp 156)⟩])
     (.cond (.tmp 157)
      (.seq (.reg [⟨(some 4), none, .mov (.con (.bool false))⟩])
      .ret)
      .skip))
     (.seq (.seq (.reg [⟨(some 158), none, .faddr (.tmp 13) 1⟩,
       ⟨(some 159), none, .load false 1 (.tmp 158)⟩,
       ⟨(some 160), none, .len (.tmp 159)⟩,
       ⟨(some 161), none, .mov (.con (.int .i64 0))⟩])
     (.block 2 (.loop (.seq (.reg [⟨(some 162), none, .bin .lss (.tmp 161) (.tmp 160)⟩])
       (.seq (.cond (.tmp 162)
        .skip
        (.exit 2))
       (.seq (.block 3 (.seq (.reg [⟨(some 163), none, .mov (.tmp 161)⟩,
          ⟨(some 16), none, .mov (.tmp 163)⟩])
        (.reg [⟨(some 164), none, .faddr (.tmp 13) 1⟩,
          ⟨(some 165), none, .load false 1 (.tmp 164)⟩,
          ⟨(some 166), none, .mov (.tmp 16)⟩,
          ⟨(some 167), none, .iaddr 2 (.tmp 165) (.tmp 166)⟩,
          ⟨(some 168), none, .faddr (.tmp 167) 0⟩,
          ⟨none, none, .store 1 (.tmp 168) (.con (.int .u64 77))⟩])))
       (.reg [⟨(some 169), none, .bin .add (.tmp 161) (.con (.int .i64 1))⟩,
         ⟨(some 161), none, .mov (.tmp 169)⟩])))))))
     (.seq (.seq (.reg [⟨(some 170), none, .faddr (.tmp 5) 1⟩,
       ⟨(some 171), none, .load false 1 (.tmp 170)⟩,
       ⟨(some 172), none, .mov (.tmp 8)⟩,
       ⟨(some 173), none, .call 14 [(.tmp 171), (.tmp 172)]⟩,
       ⟨(some 174), none, .un .not (.tmp 173)⟩])
     (.cond (.tmp 174)
      (.seq (.reg [⟨(some 4), none, .mov (.con (.bool false))⟩])
      .ret)
      .skip))
     (.reg [⟨(some 175), none, .mov (.tmp 15)⟩,
       ⟨(some 176), none, .faddr (.tmp 5) 1⟩,
       ⟨none, none, .store 1 (.tmp 176) (.tmp 175)⟩]))))))))))))))))
    (.reg [⟨(some 177), none, .bin .add (.tmp 27) (.con (.int .i64 1))⟩,
      ⟨(some 27), none, .mov (.tmp 177)⟩])))))))
  (.seq (.reg [⟨(some 4), none, .mov (.con (.bool true))⟩])
  .ret)))))
def g9 : Fn := ⟨2, 178, [.tmp 4], b9⟩
/- quiver/quiverlaw06.TopkParts -/
def b10 : AC :=
  (.seq (.reg [⟨(some 6), none, .mov (.con (.bool false))⟩])
  (.seq (.seq (.reg [⟨(some 20), none, .call 11 []⟩,
    ⟨(some 21), none, .un .not (.tmp 20)⟩])
  (.cond (.tmp 21)
   (.seq (.reg [⟨(some 6), none, .mov (.con (.bool false))⟩])
   .ret)
   .skip))
  (.seq (.reg [⟨(some 22), none, .mov (.tmp 0)⟩,
    ⟨(some 23), none, .bin .rem (.tmp 22) (.con (.int .i64 16))⟩,
    ⟨(some 24), none, .bin .add (.tmp 23) (.con (.int .i64 16))⟩,
    ⟨(some 25), none, .bin .rem (.tmp 24) (.con (.int .i64 16))⟩,
    ⟨(some 26), none, .bin .add (.tmp 25) (.con (.int .i64 1))⟩,
    ⟨(some 0), none, .mov (.tmp 26)⟩])
  (.seq (.reg [⟨(some 27), none, .mov (.tmp 1)⟩,
    ⟨(some 28), none, .call 12 [(.tmp 27), (.con (.int .i64 200))]⟩,
    ⟨(some 1), none, .mov (.tmp 28)⟩])
  (.seq (.reg [⟨(some 30), none, .mov (.tmp 1)⟩,
    ⟨(some 31), none, .mov (.tmp 0)⟩,
    ⟨(some 32), none, .call 13 [(.tmp 30), (.tmp 31)]⟩,
    ⟨(some 29), none, .mov (.tmp 32)⟩,
    ⟨(some 33), none, .ext (.tmp 29) 0⟩,
    ⟨(some 34), none, .ext (.tmp 29) 1⟩,
    ⟨(some 7), none, .mov (.tmp 33)⟩,
    ⟨(some 8), none, .mov (.tmp 34)⟩])
  (.seq (.seq (.reg [⟨(some 35), none, .mov (.tmp 8)⟩,
    ⟨(some 36), none, .bin .neq (.tmp 35) (.con (.int .i64 0))⟩])
  (.cond (.tmp 36)
   (.seq (.reg [⟨(some 6), none, .mov (.con (.bool false))⟩])
   .ret)
   .skip))
  (.seq (.reg [⟨(some 37), none, .mksl 1 24 .nilS (.con (.int .i64 4))⟩,
    ⟨(some 9), none, .mov (.tmp 37)⟩])
  (.seq (.reg [⟨(some 39), none, .mov (.tmp 0)⟩,
    ⟨(some 40), none, .call 19 [(.tmp 39)]⟩,
    ⟨(some 38), none, .mov (.tmp 40)⟩,
    ⟨(some 41), none, .ext (.tmp 38) 0⟩,
    ⟨(some 42), none, .ext (.tmp 38) 1⟩,
    ⟨(some 10), none, .alloc (.agg [(.int .i64 0), .nilS])⟩,
    ⟨none, none, .store 2 (.tmp 10) (.tmp 41)⟩,
    ⟨(some 8), none, .mov (.tmp 42)⟩])
  (.seq (.seq (.reg [⟨(some 43), none, .mov (.tmp 8)⟩,
    ⟨(some 44), none, .bin .neq (.tmp 43) (.con (.int .i64 0))⟩])
  (.cond (.tmp 44)
   (.seq (.reg [⟨(some 6), none, .mov (.con (.bool false))⟩])
   .ret)
   .skip))
  (.seq (.seq (.reg [⟨(some 45), none, .mov (.tmp 1)⟩,
    ⟨(some 46), none, .len (.tmp 45)⟩,
    ⟨(some 47), none, .mov (.con (.int .i64 0))⟩])
  (.block 0 (.loop (.seq (.reg [⟨(some 48), none, .bin .lss (.tmp 47) (.tmp 46)⟩])
    (.seq (.cond (.tmp 48)
     .skip
     (.exit 0))
    (.seq (.block 1 (.seq (.reg [⟨(some 49), none, .mov (.tmp 47)⟩,
       ⟨(some 50), none, .iaddr 2 (.tmp 45) (.tmp 47)⟩,
       ⟨(some 51), none, .load true 2 (.tmp 50)⟩,
       ⟨(some 12), none, .alloc (.agg [(.int .u64 0), (.int .u64 0)])⟩,
       ⟨(some 11), none, .mov (.tmp 49)⟩,
       ⟨none, none, .store 2 (.tmp 12) (.tmp 51)⟩])
     (.seq (.reg [⟨(some 52), none, .mov (.tmp 11)⟩,
       ⟨(some 13), none, .mov (.tmp 52)⟩])
     (.seq (.seq (.reg [⟨(some 53), none, .mov (.tmp 2)⟩,
       ⟨(some 54), none, .len (.tmp 53)⟩,
       ⟨(some 55), none, .bin .gtr (.tmp 54) (.con (.int .i64 0))⟩])
     (.cond (.tmp 55)
      (.reg [⟨(some 56), none, .mov (.tmp 2)⟩,
        ⟨(some 57), none, .mov (.tmp 11)⟩,
        ⟨(some 58), none, .mov (.tmp 2)⟩,
        ⟨(some 59), none, .len (.tmp 58)⟩,
        ⟨(some 60), none, .bin .rem (.tmp 57) (.tmp 59)⟩,
        ⟨(some 61), none, .iaddr 1 (.tmp 56) (.tmp 60)⟩,
        ⟨(some 62), none, .load false 1 (.tmp 61)⟩,
        ⟨(some 13), none, .mov (.tmp 62)⟩])
      .skip))
     (.seq (.regd [⟨[⟨⟨(some 63), none, .mov (.tmp 9)⟩, true, false, false, 0, [], none⟩,
       ⟨⟨(some 64), none, .mov (.tmp 13)⟩, true, false, false, 0, [], none⟩,
       ⟨⟨(some 65), none, .conv .u64 (.tmp 64)⟩, true, false, false, 0, [], none⟩,
       ⟨⟨(some 66), none, .bin .rem (.tmp 65) (.con (.int .u64 4))⟩, true, false, false, 0, [], none⟩,
       ⟨⟨(some 67), none, .mov (.tmp 9)⟩, true, false, false, 0, [], none⟩,
       ⟨⟨(some 68), none, .mov (.tmp 13)⟩, true, false, false, 0, [], none⟩,
       ⟨⟨(some 69), none, .conv .u64 (.tmp 68)⟩, true, false, false, 0, [], none⟩,
       ⟨⟨(some 70), none, .bin .rem (.tmp 69) (.con (.int .u64 4))⟩, true, false, false, 0, [], none⟩,
       ⟨⟨(some 71), none, .iaddr 1 (.tmp 67) (.tmp 70)⟩, true, false, false, 0, [], none⟩,
       ⟨⟨(some 72), none, .load false 1 (.tmp 71)⟩, false, false, false, 0, [0], none⟩,
       ⟨⟨(some 73), none, .load true 2 (.tmp 12)⟩, false, false, false, 0, [], none⟩,
       ⟨⟨(some 74), none, .lit 2 [(.tmp 73)]⟩, false, false, true, 0, [], none⟩,
       ⟨⟨(some 75), none, .append 2 16 (.tmp 72) (.tmp 74)⟩, false, true, true, 1, [], none⟩], 2, [⟨(some 76), none, .iaddr 1 (.tmp 63) (.tmp 66)⟩,
       ⟨none, none, .store 1 (.tmp 76) (.tmp 75)⟩]⟩])
     (.seq (.reg [⟨(some 78), none, .load true 2 (.tmp 10)⟩,
       ⟨(some 79), none, .load true 2 (.tmp 12)⟩,
       ⟨(some 80), none, .lit 2 [(.tmp 79)]⟩,
       ⟨(some 81), none, .call 20 [(.tmp 78), (.tmp 80)]⟩,
       ⟨(some 77), none, .mov (.tmp 81)⟩,
       ⟨(some 82), none, .ext (.tmp 77) 0⟩,
       ⟨(some 83), none, .ext (.tmp 77) 1⟩,
       ⟨none, none, .store 2 (.tmp 10) (.tmp 82)⟩,
       ⟨(some 8), none, .mov (.tmp 83)⟩])
     (.seq (.reg [⟨(some 84), none, .mov (.tmp 8)⟩,
       ⟨(some 85), none, .bin .neq (.tmp 84) (.con (.int .i64 0))⟩,
       ⟨(some 86), none, .mov (.tmp 85)⟩,
       ⟨(some 87), (some (86, false)), .load true 2 (.tmp 10)⟩,
       ⟨(some 88), (some (86, false)), .call 22 [(.tmp 87)]⟩,
       ⟨(some 89), (some (86, false)), .bin .neq (.tmp 88) (.con (.int .i64 0))⟩,
       ⟨(some 90), none, .pick (.tmp 86) (.con (.bool true)) (.tmp 89)⟩])
     (.cond (.tmp 90)
      (.seq (.reg [⟨(some 6), none, .mov (.con (.bool false))⟩])
      .ret)
      .skip))))))))
    (.reg [⟨(some 91), none, .bin .add (.tmp 47) (.con (.int .i64 1))⟩,
      ⟨(some 47), none, .mov (.tmp 91)⟩])))))))
  (.seq (.reg [⟨(some 14), none, .mov (.con .nilS)⟩])
  (.seq (.seq (.reg [⟨(some 92), none, .mov (.tmp 9)⟩,
    ⟨(some 93), none, .len (.tmp 92)⟩,
    ⟨(some 94), none, .mov (.con (.int .i64 0))⟩])
  (.block 2 (.loop (.seq (.reg [⟨(some 95), none, .bin .lss (.tmp 94) (.tmp 93)⟩])
    (.seq (.cond (.tmp 95)
     .skip
     (.exit 2))
    (.seq (.block 3 (.seq (.reg [⟨(some 96), none, .iaddr 1 (.tmp 92) (.tmp 94)⟩,
       ⟨(some 97), none, .load false 1 (.tmp 96)⟩,
       ⟨(some 16), none, .mov (.tmp 97)⟩])
     (.seq (.reg [⟨(some 99), none, .mov (.tmp 16)⟩,
       ⟨(some 100), none, .mov (.tmp 0)⟩,
       ⟨(some 101), none, .call 13 [(.tmp 99), (.tmp 100)]⟩,
       ⟨(some 98), none, .mov (.tmp 101)⟩,
       ⟨(some 102), none, .ext (.tmp 98) 0⟩,
       ⟨(some 103), none, .ext (.tmp 98) 1⟩,
       ⟨(some 17), none, .mov (.tmp 102)⟩,
       ⟨(some 18), none, .mov (.tmp 103)⟩])
     (.seq (.seq (.reg [⟨(some 104), none, .mov (.tmp 18)⟩,
       ⟨(some 105), none, .bin .neq (.tmp 104) (.con (.int .i64 0))⟩])
     (.cond (.tmp 105)
      (.seq (.reg [⟨(some 6), none, .mov (.con (.bool false))⟩])
      .ret)
      .skip))
     (.reg [⟨(some 106), none, .mov (.tmp 14)⟩,
       ⟨(some 107), none, .mov (.tmp 17)⟩,
       ⟨(some 108), none, .lit 1 [(.tmp 107)]⟩,
       ⟨(some 109), none, .append 1 24 (.tmp 106) (.tmp 108)⟩,
       ⟨(some 14), none, .mov (.tmp 109)⟩])))))
    (.reg [⟨(some 110), none, .bin .add (.tmp 94) (.con (.int .i64 1))⟩,
      ⟨(some 94), none, .mov (.tmp 110)⟩])))))))
  (.seq (.reg [⟨(some 112), none, .mov (.tmp 0)⟩,
    ⟨(some 113), none, .mov (.tmp 14)⟩,
    ⟨(some 114), none, .call 16 [(.tmp 112), (.tmp 113)]⟩,
    ⟨(some 111), none, .mov (.tmp 114)⟩,
    ⟨(some 115), none, .ext (.tmp 111) 0⟩,
    ⟨(some 116), none, .ext (.tmp 111) 1⟩,
    ⟨(some 19), none, .mov (.tmp 115)⟩,
    ⟨(some 8), none, .mov (.tmp 116)⟩])
  (.seq (.reg [⟨(some 117), none, .mov (.tmp 8)⟩,
    ⟨(some 118), none, .bin .eql (.tmp 117) (.con (.int .i64 0))⟩,
    ⟨(some 119), none, .mov (.tmp 118)⟩,
    ⟨(some 120), (some (119, true)), .mov (.tmp 19)⟩,
    ⟨(some 121), (some (119, true)), .mov (.tmp 7)⟩,
    ⟨(some 122), (some (119, true)), .call 18 [(.tmp 120), (.tmp 121)]⟩,
    ⟨(some 123), none, .pick (.tmp 119) (.tmp 122) (.con (.bool false))⟩,
    ⟨(some 124), none, .mov (.tmp 123)⟩,
    ⟨(some 125), (some (124, true)), .faddr (.tmp 10) 1⟩,
    ⟨(some 126), (some (124, true)), .load false 1 (.tmp 125)⟩,
    ⟨(some 127), (some (124, true)), .mov (.tmp 7)⟩,
    ⟨(some 128), (some (124, true)), .call 18 [(.tmp 126), (.tmp 127)]⟩,
    ⟨(some 129), none, .pick (.tmp 124) (.tmp 128) (.con (.bool false))⟩,
    ⟨(some 6), none, .mov (.tmp 129)⟩])
  .ret))))))))))))))
def g10 : Fn := ⟨3, 130, [.tmp 6], b10⟩
/- quiver/quiverlaw06.wakes -/
def b11 : AC :=
  (.seq (.reg [⟨(some 0), none, .mov (.con (.bool false))⟩])
  (.seq (.reg [⟨(some 6), none, .build [(.int .u64 0), (.int .u64 0)] [(0, 1, (.con (.int .u64 7))), (1, 1, (.con (.int .u64 3)))]⟩,
    ⟨(some 7), none, .build [(.int .u64 0), (.int .u64 0)] [(0, 1, (.con (.int .u64 2))), (1, 1, (.con (.int .u64 4)))]⟩,
    ⟨(some 8), none, .build [(.int .u64 0), (.int .u64 0)] [(0, 1, (.con (.int .u64 1))), (1, 1, (.con (.int .u64 3)))]⟩,
    ⟨(some 9), none, .lit 2 [(.tmp 6), (.tmp 7), (.tmp 8)]⟩,
    ⟨(some 10), none, .call 13 [(.tmp 9), (.con (.int .i64 2))]⟩,
    ⟨(some 5), none, .mov (.tmp 10)⟩,
    ⟨(some 11), none, .ext (.tmp 5) 0⟩,
    ⟨(some 12), none, .ext (.tmp 5) 1⟩,
    ⟨(some 1), none, .mov (.tmp 11)⟩,
    ⟨(some 2), none, .mov (.tmp 12)⟩])
  (.seq (.reg [⟨(some 14), none, .call 19 [(.con (.int .i64 17))]⟩,
    ⟨(some 13), none, .mov (.tmp 14)⟩,
    ⟨(some 15), none, .ext (.tmp 13) 0⟩,
    ⟨(some 16), none, .ext (.tmp 13) 1⟩,
    ⟨(some 3), none, .alloc (.agg [(.int .i64 0), .nilS])⟩,
    ⟨none, none, .store 2 (.tmp 3) (.tmp 15)⟩,
    ⟨(some 4), none, .mov (.tmp 16)⟩])
  (.seq (.reg [⟨(some 17), none, .mov (.tmp 2)⟩,
    ⟨(some 18), none, .bin .eql (.tmp 17) (.con (.int .i64 0))⟩,
    ⟨(some 19), none, .mov (.tmp 18)⟩,
    ⟨(some 20), (some (19, true)), .mov (.tmp 4)⟩,
    ⟨(some 21), (some (19, true)), .bin .eql (.tmp 20) (.con (.int .i64 2))⟩,
    ⟨(some 22), none, .pick (.tmp 19) (.tmp 21) (.con (.bool false))⟩,
    ⟨(some 23), none, .mov (.tmp 22)⟩,
    ⟨(some 24), (some (23, true)), .mov (.tmp 1)⟩,
    ⟨(some 25), (some (23, true)), .len (.tmp 24)⟩,
    ⟨(some 26), (some (23, true)), .bin .eql (.tmp 25) (.con (.int .i64 2))⟩,
    ⟨(some 27), none, .pick (.tmp 23) (.tmp 26) (.con (.bool false))⟩,
    ⟨(some 28), none, .mov (.tmp 27)⟩,
    ⟨(some 29), (some (28, true)), .mov (.tmp 1)⟩,
    ⟨(some 30), (some (28, true)), .iaddr 2 (.tmp 29) (.con (.int .i64 0))⟩,
    ⟨(some 31), (some (28, true)), .faddr (.tmp 30) 0⟩,
    ⟨(some 32), (some (28, true)), .load false 1 (.tmp 31)⟩,
    ⟨(some 33), (some (28, true)), .bin .eql (.tmp 32) (.con (.int .u64 1))⟩,
    ⟨(some 34), none, .pick (.tmp 28) (.tmp 33) (.con (.bool false))⟩,
    ⟨(some 35), none, .mov (.tmp 34)⟩,
    ⟨(some 36), (some (35, true)), .mov (.tmp 1)⟩,
    ⟨(some 37), (some (35, true)), .iaddr 2 (.tmp 36) (.con (.int .i64 1))⟩,
    ⟨(some 38), (some (35, true)), .faddr (.tmp 37) 0⟩,
    ⟨(some 39), (some (35, true)), .load false 1 (.tmp 38)⟩,
    ⟨(some 40), (some (35, true)), .bin .eql (.tmp 39) (.con (.int .u64 7))⟩,
    ⟨(some 41), none, .pick (.tmp 35) (.tmp 40) (.con (.bool false))⟩,
    ⟨(some 0), none, .mov (.tmp 41)⟩])
  .ret))))
def g11 : Fn := ⟨0, 42, [.tmp 0], b11⟩
/- quiver/quiverlaw06.own -/
def b12 : AC :=
  (.seq (.reg [⟨(some 4), none, .mov (.con .nilS)⟩])
  (.seq (.reg [⟨(some 5), none, .lit 2 []⟩,
    ⟨(some 6), none, .mov (.tmp 0)⟩,
    ⟨(some 7), none, .mov (.tmp 0)⟩,
    ⟨(some 8), none, .len (.tmp 7)⟩,
    ⟨(some 9), none, .mov (.tmp 1)⟩,
    ⟨(some 10), none, .min [(.tmp 8), (.tmp 9)]⟩,
    ⟨(some 11), none, .slice 2 (.tmp 6) none (some (.tmp 10))⟩,
    ⟨(some 12), none, .append 2 16 (.tmp 5) (.tmp 11)⟩,
    ⟨(some 4), none, .mov (.tmp 12)⟩])
  .ret))
def g12 : Fn := ⟨2, 13, [.tmp 4], b12⟩
/- quiver/topk.First -/
def b13 : AC :=
  (.seq (.reg [⟨(some 4), none, .mov (.con .nilS)⟩,
    ⟨(some 5), none, .mov (.con (.int .i64 0))⟩])
  (.seq (.reg [⟨(some 6), none, .mov (.tmp 1)⟩,
    ⟨(some 7), none, .mov (.tmp 0)⟩,
    ⟨(some 8), none, .lit 1 [(.tmp 7)]⟩,
    ⟨(some 9), none, .call 16 [(.tmp 6), (.tmp 8)]⟩,
    ⟨(some 10), none, .ext (.tmp 9) 0⟩,
    ⟨(some 11), none, .ext (.tmp 9) 1⟩,
    ⟨(some 4), none, .mov (.tmp 10)⟩,
    ⟨(some 5), none, .mov (.tmp 11)⟩])
  .ret))
def g13 : Fn := ⟨2, 12, [.tmp 4, .tmp 5], b13⟩
/- quiver/quiverref06.Same -/
def b14 : AC :=
  (.seq (.reg [⟨(some 4), none, .mov (.con (.bool false))⟩])
  (.seq (.seq (.reg [⟨(some 6), none, .mov (.tmp 0)⟩,
    ⟨(some 7), none, .len (.tmp 6)⟩,
    ⟨(some 8), none, .mov (.tmp 1)⟩,
    ⟨(some 9), none, .len (.tmp 8)⟩,
    ⟨(some 10), none, .bin .neq (.tmp 7) (.tmp 9)⟩])
  (.cond (.tmp 10)
   (.seq (.reg [⟨(some 4), none, .mov (.con (.bool false))⟩])
   .ret)
   .skip))
  (.seq (.seq (.reg [⟨(some 11), none, .mov (.tmp 0)⟩,
    ⟨(some 12), none, .len (.tmp 11)⟩,
    ⟨(some 13), none, .mov (.con (.int .i64 0))⟩])
  (.block 0 (.loop (.seq (.reg [⟨(some 14), none, .bin .lss (.tmp 13) (.tmp 12)⟩])
    (.seq (.cond (.tmp 14)
     .skip
     (.exit 0))
    (.seq (.block 1 (.seq (.reg [⟨(some 15), none, .mov (.tmp 13)⟩,
       ⟨(some 5), none, .mov (.tmp 15)⟩])
     (.seq (.regd [⟨[⟨⟨(some 16), none, .mov (.tmp 0)⟩, true, false, false, 0, [], none⟩,
       ⟨⟨(some 17), none, .mov (.tmp 5)⟩, true, false, false, 0, [], none⟩,
       ⟨⟨(some 18), none, .iaddr 2 (.tmp 16) (.tmp 17)⟩, true, false, false, 0, [], none⟩,
       ⟨⟨(some 19), none, .load true 2 (.tmp 18)⟩, false, false, false, 0, [], none⟩,
       ⟨⟨(some 20), none, .mov (.tmp 1)⟩, true, false, false, 0, [], none⟩,
       ⟨⟨(some 21), none, .mov (.tmp 5)⟩, true, false, false, 0, [], none⟩,
       ⟨⟨(some 22), none, .iaddr 2 (.tmp 20) (.tmp 21)⟩, true, false, false, 0, [], none⟩,
       ⟨⟨(some 23), none, .load true 2 (.tmp 22)⟩, false, false, false, 0, [], none⟩], 0, [⟨(some 24), none, .eqA true [.int, .int] (.tmp 19) (.tmp 23)⟩]⟩])
     (.cond (.tmp 24)
      (.seq (.reg [⟨(some 4), none, .mov (.con (.bool false))⟩])
      .ret)
      .skip))))
    (.reg [⟨(some 25), none, .bin .add (.tmp 13) (.con (.int .i64 1))⟩,
      ⟨(some 13), none, .mov (.tmp 25)⟩])))))))
  (.seq (.reg [⟨(some 4), none, .mov (.con (.bool true))⟩])
  .ret))))
def g14 : Fn := ⟨2, 26, [.tmp 4], b14⟩
/- quiver/quiverref06.First -/
def b15 : AC :=
  (.seq (.reg [⟨(some 4), none, .mov (.con .nilS)⟩])
  (.seq (.reg [⟨(some 6), none, .mov (.tmp 0)⟩,
    ⟨(some 7), none, .call 24 [(.tmp 6)]⟩,
    ⟨(some 5), none, .mov (.tmp 7)⟩])
  (.seq (.reg [⟨(some 8), none, .mov (.tmp 5)⟩,
    ⟨(some 9), none, .mov (.tmp 1)⟩,
    ⟨(some 10), none, .mov (.tmp 5)⟩,
    ⟨(some 11), none, .len (.tmp 10)⟩,
    ⟨(some 12), none, .min [(.tmp 9), (.tmp 11)]⟩,
    ⟨(some 13), none, .slice 2 (.tmp 8) none (some (.tmp 12))⟩,
    ⟨(some 4), none, .mov (.tmp 13)⟩])
  .ret)))
def g15 : Fn := ⟨2, 14, [.tmp 4], b15⟩
/- quiver/topk.Merge -/
def b16 : AC :=
  (.seq (.reg [⟨(some 4), none, .mov (.con .nilS)⟩,
    ⟨(some 5), none, .mov (.con (.int .i64 0))⟩])
  (.seq (.seq (.reg [⟨(some 9), none, .mov (.tmp 0)⟩,
    ⟨(some 10), none, .bin .lss (.tmp 9) (.con (.int .i64 1))⟩,
    ⟨(some 11), none, .mov (.tmp 10)⟩,
    ⟨(some 12), (some (11, false)), .mov (.tmp 0)⟩,
    ⟨(some 13), (some (11, false)), .bin .gtr (.tmp 12) (.con (.int .i64 16))⟩,
    ⟨(some 14), none, .pick (.tmp 11) (.con (.bool true)) (.tmp 13)⟩])
  (.cond (.tmp 14)
   (.seq (.reg [⟨(some 4), none, .mov (.con .nilS)⟩,
     ⟨(some 5), none, .mov (.con (.int .i64 2))⟩])
   .ret)
   .skip))
  (.seq (.reg [⟨(some 6), none, .mov (.con (.int .i64 0))⟩])
  (.seq (.seq (.reg [⟨(some 15), none, .mov (.tmp 1)⟩,
    ⟨(some 16), none, .len (.tmp 15)⟩,
    ⟨(some 17), none, .mov (.con (.int .i64 0))⟩])
  (.block 0 (.loop (.seq (.reg [⟨(some 18), none, .bin .lss (.tmp 17) (.tmp 16)⟩])
    (.seq (.cond (.tmp 18)
     .skip
     (.exit 0))
    (.seq (.block 1 (.seq (.reg [⟨(some 19), none, .iaddr 1 (.tmp 15) (.tmp 17)⟩,
       ⟨(some 20), none, .load false 1 (.tmp 19)⟩,
       ⟨(some 8), none, .mov (.tmp 20)⟩])
     (.seq (.reg [⟨(some 21), none, .mov (.tmp 6)⟩,
       ⟨(some 22), none, .mov (.tmp 8)⟩,
       ⟨(some 23), none, .len (.tmp 22)⟩,
       ⟨(some 24), none, .bin .add (.tmp 21) (.tmp 23)⟩,
       ⟨(some 6), none, .mov (.tmp 24)⟩])
     (.seq (.reg [⟨(some 25), none, .mov (.tmp 6)⟩,
       ⟨(some 26), none, .bin .gtr (.tmp 25) (.con (.int .i64 2000))⟩])
     (.cond (.tmp 26)
      (.seq (.reg [⟨(some 4), none, .mov (.con .nilS)⟩,
        ⟨(some 5), none, .mov (.con (.int .i64 3))⟩])
      .ret)
      .skip)))))
    (.reg [⟨(some 27), none, .bin .add (.tmp 17) (.con (.int .i64 1))⟩,
      ⟨(some 17), none, .mov (.tmp 27)⟩])))))))
  (.seq (.reg [⟨(some 28), none, .mov (.tmp 0)⟩,
    ⟨(some 29), none, .mov (.tmp 1)⟩,
    ⟨(some 30), none, .call 25 [(.tmp 28), (.tmp 29)]⟩,
    ⟨(some 4), none, .mov (.tmp 30)⟩,
    ⟨(some 5), none, .mov (.con (.int .i64 0))⟩])
  .ret)))))
def g16 : Fn := ⟨2, 31, [.tmp 4, .tmp 5], b16⟩
/- quiver/vec.Compare -/
def b17 : AC :=
  (.seq (.reg [⟨(some 2), none, .box (.tmp 0)⟩,
    ⟨(some 3), none, .box (.tmp 1)⟩,
    ⟨(some 4), none, .mov (.con (.int .i64 0))⟩])
  (.seq (.regd [⟨[⟨⟨(some 5), none, .faddr (.tmp 2) 1⟩, true, false, false, 0, [], none⟩,
    ⟨⟨(some 6), none, .load false 1 (.tmp 5)⟩, false, false, false, 0, [], none⟩,
    ⟨⟨(some 7), none, .faddr (.tmp 3) 1⟩, true, false, false, 0, [], none⟩,
    ⟨⟨(some 8), none, .load false 1 (.tmp 7)⟩, false, false, false, 0, [], none⟩,
    ⟨⟨(some 9), none, .call 27 [(.tmp 6), (.tmp 8)]⟩, false, false, false, 0, [], none⟩,
    ⟨⟨(some 10), none, .faddr (.tmp 2) 0⟩, true, false, false, 0, [], none⟩,
    ⟨⟨(some 11), none, .load false 1 (.tmp 10)⟩, false, false, false, 0, [], none⟩,
    ⟨⟨(some 12), none, .faddr (.tmp 3) 0⟩, true, false, false, 0, [], none⟩,
    ⟨⟨(some 13), none, .load false 1 (.tmp 12)⟩, false, false, false, 0, [], none⟩], 0, [⟨(some 14), none, .call 27 [(.tmp 11), (.tmp 13)]⟩,
    ⟨(some 15), none, .lit 1 [(.tmp 9), (.tmp 14)]⟩,
    ⟨(some 16), none, .call 26 [(.tmp 15)]⟩,
    ⟨(some 4), none, .mov (.tmp 16)⟩]⟩])
  .ret))
def g17 : Fn := ⟨2, 17, [.tmp 4], b17⟩
/- quiver/topk.Same -/
def b18 : AC :=
  (.seq (.reg [⟨(some 4), none, .mov (.con (.bool false))⟩])
  (.seq (.reg [⟨(some 5), none, .mov (.tmp 0)⟩,
    ⟨(some 6), none, .mov (.tmp 1)⟩,
    ⟨(some 7), none, .call 28 [(.tmp 5), (.tmp 6)]⟩,
    ⟨(some 4), none, .mov (.tmp 7)⟩])
  .ret))
def g18 : Fn := ⟨2, 8, [.tmp 4], b18⟩
/- quiver/topk.New -/
def b19 : AC :=
  (.seq (.reg [⟨(some 2), none, .alloc (.agg [(.int .i64 0), .nilS])⟩,
    ⟨(some 3), none, .mov (.con (.int .i64 0))⟩])
  (.seq (.seq (.reg [⟨(some 4), none, .mov (.tmp 0)⟩,
    ⟨(some 5), none, .bin .lss (.tmp 4) (.con (.int .i64 1))⟩,
    ⟨(some 6), none, .mov (.tmp 5)⟩,
    ⟨(some 7), (some (6, false)), .mov (.tmp 0)⟩,
    ⟨(some 8), (some (6, false)), .bin .gtr (.tmp 7) (.con (.int .i64 16))⟩,
    ⟨(some 9), none, .pick (.tmp 6) (.con (.bool true)) (.tmp 8)⟩])
  (.cond (.tmp 9)
   (.seq (.reg [⟨(some 10), none, .build [(.int .i64 0), .nilS] []⟩,
     ⟨none, none, .store 2 (.tmp 2) (.tmp 10)⟩,
     ⟨(some 3), none, .mov (.con (.int .i64 2))⟩])
   .ret)
   .skip))
  (.seq (.reg [⟨(some 11), none, .mov (.tmp 0)⟩,
    ⟨(some 12), none, .build [(.int .i64 0), .nilS] [(0, 1, (.tmp 11))]⟩,
    ⟨none, none, .store 2 (.tmp 2) (.tmp 12)⟩,
    ⟨(some 3), none, .mov (.con (.int .i64 0))⟩])
  .ret)))
def g19 : Fn := ⟨1, 13, [.cell 2 true 2, .tmp 3], b19⟩
/- quiver/topk.Offer -/
def b20 : AC :=
  (.seq (.reg [⟨(some 2), none, .box (.tmp 0)⟩,
    ⟨(some 4), none, .alloc (.agg [(.int .i64 0), .nilS])⟩,
    ⟨(some 5), none, .mov (.con (.int .i64 0))⟩])
  (.seq (.seq (.reg [⟨(some 7), none, .load true 2 (.tmp 2)⟩,
    ⟨(some 8), none, .call 22 [(.tmp 7)]⟩,
    ⟨(some 6), none, .mov (.tmp 8)⟩])
  (.seq (.reg [⟨(some 9), none, .mov (.tmp 6)⟩,
    ⟨(some 10), none, .bin .neq (.tmp 9) (.con (.int .i64 0))⟩])
  (.cond (.tmp 10)
   (.seq (.reg [⟨(some 11), none, .build [(.int .i64 0), .nilS] []⟩,
     ⟨(some 12), none, .mov (.tmp 6)⟩,
     ⟨none, none, .store 2 (.tmp 4) (.tmp 11)⟩,
     ⟨(some 5), none, .mov (.tmp 12)⟩])
   .ret)
   .skip)))
  (.seq (.seq (.reg [⟨(some 13), none, .mov (.tmp 1)⟩,
    ⟨(some 14), none, .len (.tmp 13)⟩,
    ⟨(some 15), none, .bin .gtr (.tmp 14) (.con (.int .i64 2000))⟩])
  (.cond (.tmp 15)
   (.seq (.reg [⟨(some 16), none, .build [(.int .i64 0), .nilS] []⟩,
     ⟨none, none, .store 2 (.tmp 4) (.tmp 16)⟩,
     ⟨(some 5), none, .mov (.con (.int .i64 3))⟩])
   .ret)
   .skip))
  (.seq (.regd [⟨[⟨⟨(some 17), none, .faddr (.tmp 2) 0⟩, true, false, false, 0, [], none⟩,
    ⟨⟨(some 18), none, .load false 1 (.tmp 17)⟩, false, false, false, 0, [0, 1], none⟩,
    ⟨⟨(some 19), none, .faddr (.tmp 2) 0⟩, true, false, false, 0, [], none⟩,
    ⟨⟨(some 20), none, .load false 1 (.tmp 19)⟩, false, false, false, 0, [0], none⟩,
    ⟨⟨(some 21), none, .faddr (.tmp 2) 1⟩, true, false, false, 0, [], none⟩,
    ⟨⟨(some 22), none, .load false 1 (.tmp 21)⟩, false, false, false, 0, [], none⟩,
    ⟨⟨(some 23), none, .mov (.tmp 1)⟩, true, false, false, 0, [], none⟩,
    ⟨⟨(some 24), none, .lit 1 [(.tmp 22), (.tmp 23)]⟩, false, false, true, 0, [], none⟩,
    ⟨⟨(some 25), none, .call 25 [(.tmp 20), (.tmp 24)]⟩, false, false, true, 1, [], none⟩], 2, [⟨(some 26), none, .build [(.int .i64 0), .nilS] [(0, 1, (.tmp 18)), (1, 1, (.tmp 25))]⟩,
    ⟨none, none, .store 2 (.tmp 4) (.tmp 26)⟩,
    ⟨(some 5), none, .mov (.con (.int .i64 0))⟩]⟩])
  .ret))))
def g20 : Fn := ⟨2, 27, [.cell 4 true 2, .tmp 5], b20⟩
/- quiver/quiverref06.Right -/
def b21 : AC :=
  (.seq (.reg [⟨(some 1), none, .box (.tmp 0)⟩,
    ⟨(some 2), none, .mov (.con (.bool false))⟩])
  (.seq (.seq (.reg [⟨(some 4), none, .faddr (.tmp 1) 0⟩,
    ⟨(some 5), none, .load false 1 (.tmp 4)⟩,
    ⟨(some 6), none, .bin .lss (.tmp 5) (.con (.int .i64 1))⟩,
    ⟨(some 7), none, .mov (.tmp 6)⟩,
    ⟨(some 8), (some (7, false)), .faddr (.tmp 1) 0⟩,
    ⟨(some 9), (some (7, false)), .load false 1 (.tmp 8)⟩,
    ⟨(some 10), (some (7, false)), .bin .gtr (.tmp 9) (.con (.int .i64 16))⟩,
    ⟨(some 11), none, .pick (.tmp 7) (.con (.bool true)) (.tmp 10)⟩,
    ⟨(some 12), none, .mov (.tmp 11)⟩,
    ⟨(some 13), (some (12, false)), .faddr (.tmp 1) 1⟩,
    ⟨(some 14), (some (12, false)), .load false 1 (.tmp 13)⟩,
    ⟨(some 15), (some (12, false)), .len (.tmp 14)⟩,
    ⟨(some 16), (some (12, false)), .faddr (.tmp 1) 0⟩,
    ⟨(some 17), (some (12, false)), .load false 1 (.tmp 16)⟩,
    ⟨(some 18), (some (12, false)), .bin .gtr (.tmp 15) (.tmp 17)⟩,
    ⟨(some 19), none, .pick (.tmp 12) (.con (.bool true)) (.tmp 18)⟩])
  (.cond (.tmp 19)
   (.seq (.reg [⟨(some 2), none, .mov (.con (.bool false))⟩])
   .ret)
   .skip))
  (.seq (.seq (.reg [⟨(some 3), none, .mov (.con (.int .i64 1))⟩])
  (.block 0 (.loop (.seq (.seq (.reg [⟨(some 20), none, .mov (.tmp 3)⟩,
      ⟨(some 21), none, .faddr (.tmp 1) 1⟩,
      ⟨(some 22), none, .load false 1 (.tmp 21)⟩,
      ⟨(some 23), none, .len (.tmp 22)⟩,
      ⟨(some 24), none, .bin .lss (.tmp 20) (.tmp 23)⟩])
    (.cond (.tmp 24)
     .skip
     (.exit 0)))
    (.seq (.block 1 (.seq (.regd [⟨[⟨⟨(some 27), none, .faddr (.tmp 1) 1⟩, true, false, false, 0, [], none⟩,
       ⟨⟨(some 28), none, .load false 1 (.tmp 27)⟩, false, false, false, 0, [], none⟩,
       ⟨⟨(some 29), none, .mov (.tmp 3)⟩, true, false, false, 0, [], none⟩,
       ⟨⟨(some 30), none, .iaddr 2 (.tmp 28) (.tmp 29)⟩, true, false, false, 0, [], none⟩,
       ⟨⟨(some 31), none, .load true 2 (.tmp 30)⟩, false, false, false, 0, [], none⟩,
       ⟨⟨(some 32), none, .faddr (.tmp 1) 1⟩, true, false, false, 0, [], none⟩,
       ⟨⟨(some 33), none, .load false 1 (.tmp 32)⟩, false, false, false, 0, [], none⟩,
       ⟨⟨(some 34), none, .mov (.tmp 3)⟩, true, false, false, 0, [], none⟩,
       ⟨⟨(some 35), none, .bin .sub (.tmp 34) (.con (.int .i64 1))⟩, true, false, false, 0, [], none⟩,
       ⟨⟨(some 36), none, .iaddr 2 (.tmp 33) (.tmp 35)⟩, true, false, false, 0, [], none⟩,
       ⟨⟨(some 37), none, .load true 2 (.tmp 36)⟩, false, false, false, 0, [], none⟩], 0, [⟨(some 38), none, .call 29 [(.tmp 31), (.tmp 37)]⟩]⟩])
     (.cond (.tmp 38)
      (.seq (.reg [⟨(some 2), none, .mov (.con (.bool false))⟩])
      .ret)
      .skip)))
    (.reg [⟨(some 25), none, .mov (.tmp 3)⟩,
      ⟨(some 26), none, .bin .add (.tmp 25) (.con (.int .i64 1))⟩,
      ⟨(some 3), none, .mov (.tmp 26)⟩]))))))
  (.seq (.reg [⟨(some 2), none, .mov (.con (.bool true))⟩])
  .ret))))
def g21 : Fn := ⟨1, 39, [.tmp 2], b21⟩
/- quiver/topk.Check -/
def b22 : AC :=
  (.seq (.reg [⟨(some 1), none, .box (.tmp 0)⟩,
    ⟨(some 2), none, .mov (.con (.int .i64 0))⟩])
  (.seq (.seq (.reg [⟨(some 3), none, .faddr (.tmp 1) 0⟩,
    ⟨(some 4), none, .load false 1 (.tmp 3)⟩,
    ⟨(some 5), none, .bin .lss (.tmp 4) (.con (.int .i64 1))⟩,
    ⟨(some 6), none, .mov (.tmp 5)⟩,
    ⟨(some 7), (some (6, false)), .faddr (.tmp 1) 0⟩,
    ⟨(some 8), (some (6, false)), .load false 1 (.tmp 7)⟩,
    ⟨(some 9), (some (6, false)), .bin .gtr (.tmp 8) (.con (.int .i64 16))⟩,
    ⟨(some 10), none, .pick (.tmp 6) (.con (.bool true)) (.tmp 9)⟩,
    ⟨(some 11), none, .mov (.tmp 10)⟩,
    ⟨(some 12), (some (11, false)), .faddr (.tmp 1) 1⟩,
    ⟨(some 13), (some (11, false)), .load false 1 (.tmp 12)⟩,
    ⟨(some 14), (some (11, false)), .len (.tmp 13)⟩,
    ⟨(some 15), (some (11, false)), .faddr (.tmp 1) 0⟩,
    ⟨(some 16), (some (11, false)), .load false 1 (.tmp 15)⟩,
    ⟨(some 17), (some (11, false)), .bin .gtr (.tmp 14) (.tmp 16)⟩,
    ⟨(some 18), none, .pick (.tmp 11) (.con (.bool true)) (.tmp 17)⟩,
    ⟨(some 19), none, .mov (.tmp 18)⟩,
    ⟨(some 20), (some (19, false)), .faddr (.tmp 1) 1⟩,
    ⟨(some 21), (some (19, false)), .load false 1 (.tmp 20)⟩,
    ⟨(some 22), (some (19, false)), .call 30 [(.tmp 21), (.con (.fn 17 []))]⟩,
    ⟨(some 23), (some (19, false)), .un .not (.tmp 22)⟩,
    ⟨(some 24), none, .pick (.tmp 19) (.con (.bool true)) (.tmp 23)⟩])
  (.cond (.tmp 24)
   (.seq (.reg [⟨(some 2), none, .mov (.con (.int .i64 160))⟩])
   .ret)
   .skip))
  (.seq (.reg [⟨(some 2), none, .mov (.con (.int .i64 0))⟩])
  .ret)))
def g22 : Fn := ⟨1, 25, [.tmp 2], b22⟩
/- quiver/topk.Last -/
def b23 : AC :=
  (.seq (.reg [⟨(some 1), none, .box (.tmp 0)⟩,
    ⟨(some 2), none, .alloc (.agg [(.int .u64 0), (.int .u64 0)])⟩,
    ⟨(some 3), none, .mov (.con (.bool false))⟩])
  (.seq (.seq (.reg [⟨(some 4), none, .load true 2 (.tmp 1)⟩,
    ⟨(some 5), none, .call 22 [(.tmp 4)]⟩,
    ⟨(some 6), none, .bin .neq (.tmp 5) (.con (.int .i64 0))⟩,
    ⟨(some 7), none, .mov (.tmp 6)⟩,
    ⟨(some 8), (some (7, false)), .faddr (.tmp 1) 1⟩,
    ⟨(some 9), (some (7, false)), .load false 1 (.tmp 8)⟩,
    ⟨(some 10), (some (7, false)), .len (.tmp 9)⟩,
    ⟨(some 11), (some (7, false)), .faddr (.tmp 1) 0⟩,
    ⟨(some 12), (some (7, false)), .load false 1 (.tmp 11)⟩,
    ⟨(some 13), (some (7, false)), .bin .lss (.tmp 10) (.tmp 12)⟩,
    ⟨(some 14), none, .pick (.tmp 7) (.con (.bool true)) (.tmp 13)⟩])
  (.cond (.tmp 14)
   (.seq (.reg [⟨(some 15), none, .build [(.int .u64 0), (.int .u64 0)] []⟩,
     ⟨none, none, .store 2 (.tmp 2) (.tmp 15)⟩,
     ⟨(some 3), none, .mov (.con (.bool false))⟩])
   .ret)
   .skip))
  (.seq (.reg [⟨(some 16), none, .faddr (.tmp 1) 1⟩,
    ⟨(some 17), none, .load false 1 (.tmp 16)⟩,
    ⟨(some 18), none, .faddr (.tmp 1) 0⟩,
    ⟨(some 19), none, .load false 1 (.tmp 18)⟩,
    ⟨(some 20), none, .bin .sub (.tmp 19) (.con (.int .i64 1))⟩,
    ⟨(some 21), none, .iaddr 2 (.tmp 17) (.tmp 20)⟩,
    ⟨(some 22), none, .load true 2 (.tmp 21)⟩,
    ⟨none, none, .store 2 (.tmp 2) (.tmp 22)⟩,
    ⟨(some 3), none, .mov (.con (.bool true))⟩])
  .ret)))
def g23 : Fn := ⟨1, 23, [.cell 2 true 2, .tmp 3], b23⟩
/- quiver/quiverref06.Sorted -/
def b24 : AC :=
  (.seq (.reg [⟨(some 2), none, .mov (.con .nilS)⟩])
  (.seq (.reg [⟨(some 3), none, .mov (.con .nilS)⟩])
  (.seq (.seq (.reg [⟨(some 8), none, .mov (.tmp 0)⟩,
    ⟨(some 9), none, .len (.tmp 8)⟩,
    ⟨(some 10), none, .mov (.con (.int .i64 0))⟩])
  (.block 0 (.loop (.seq (.reg [⟨(some 11), none, .bin .lss (.tmp 10) (.tmp 9)⟩])
    (.seq (.cond (.tmp 11)
     .skip
     (.exit 0))
    (.seq (.block 1 (.seq (.reg [⟨(some 12), none, .iaddr 2 (.tmp 8) (.tmp 10)⟩,
       ⟨(some 13), none, .load true 2 (.tmp 12)⟩,
       ⟨(some 5), none, .alloc (.agg [(.int .u64 0), (.int .u64 0)])⟩,
       ⟨none, none, .store 2 (.tmp 5) (.tmp 13)⟩])
     (.seq (.reg [⟨(some 6), none, .mov (.con (.int .i64 0))⟩])
     (.seq (.block 2 (.loop (.seq (.seq (.regd [⟨[⟨⟨(some 14), none, .mov (.tmp 6)⟩, true, false, false, 0, [], none⟩,
         ⟨⟨(some 15), none, .mov (.tmp 3)⟩, true, false, false, 0, [], none⟩,
         ⟨⟨(some 16), none, .len (.tmp 15)⟩, true, false, false, 0, [], none⟩], 0, [⟨(some 17), none, .bin .lss (.tmp 14) (.tmp 16)⟩,
         ⟨(some 18), none, .mov (.tmp 17)⟩]⟩,
        ⟨[⟨⟨(some 19), (some (18, true)), .load true 2 (.tmp 5)⟩, false, false, false, 0, [], none⟩,
         ⟨⟨(some 20), (some (18, true)), .mov (.tmp 3)⟩, true, false, false, 0, [], none⟩,
         ⟨⟨(some 21), (some (18, true)), .mov (.tmp 6)⟩, true, false, false, 0, [], none⟩,
         ⟨⟨(some 22), (some (18, true)), .iaddr 2 (.tmp 20) (.tmp 21)⟩, true, false, false, 0, [], none⟩,
         ⟨⟨(some 23), (some (18, true)), .load true 2 (.tmp 22)⟩, false, false, false, 0, [], none⟩], 0, [⟨(some 24), (some (18, true)), .call 29 [(.tmp 19), (.tmp 23)]⟩,
         ⟨(some 25), (some (18, true)), .un .not (.tmp 24)⟩,
         ⟨(some 26), none, .pick (.tmp 18) (.tmp 25) (.con (.bool false))⟩]⟩])
       (.cond (.tmp 26)
        .skip
        (.exit 2)))
       (.block 3 (.reg [⟨(some 27), none, .mov (.tmp 6)⟩,
          ⟨(some 28), none, .bin .add (.tmp 27) (.con (.int .i64 1))⟩,
          ⟨(some 6), none, .mov (.tmp 28)⟩])))))
     (.seq (.reg [⟨(some 29), none, .mov (.tmp 3)⟩,
       ⟨(some 30), none, .load true 2 (.tmp 5)⟩,
       ⟨(some 31), none, .lit 2 [(.tmp 30)]⟩,
       ⟨(some 32), none, .append 2 16 (.tmp 29) (.tmp 31)⟩,
       ⟨(some 3), none, .mov (.tmp 32)⟩])
     (.seq (.reg [⟨(some 33), none, .mov (.tmp 3)⟩,
       ⟨(some 34), none, .len (.tmp 33)⟩,
       ⟨(some 35), none, .bin .sub (.tmp 34) (.con (.int .i64 1))⟩,
       ⟨(some 7), none, .mov (.tmp 35)⟩])
     (.block 4 (.loop (.seq (.seq (.reg [⟨(some 36), none, .mov (.tmp 7)⟩,
         ⟨(some 37), none, .mov (.tmp 6)⟩,
         ⟨(some 38), none, .bin .gtr (.tmp 36) (.tmp 37)⟩])
       (.cond (.tmp 38)
        .skip
        (.exit 4)))
       (.seq (.block 5 (.regd [⟨[⟨⟨(some 41), none, .mov (.tmp 3)⟩, true, false, false, 0, [], none⟩,
          ⟨⟨(some 42), none, .mov (.tmp 7)⟩, true, false, false, 0, [], none⟩,
          ⟨⟨(some 43), none, .mov (.tmp 3)⟩, true, false, false, 0, [], none⟩,
          ⟨⟨(some 44), none, .mov (.tmp 7)⟩, true, false, false, 0, [], none⟩,
          ⟨⟨(some 45), none, .bin .sub (.tmp 44) (.con (.int .i64 1))⟩, true, false, false, 0, [], none⟩,
          ⟨⟨(some 46), none, .mov (.tmp 3)⟩, true, false, false, 0, [], none⟩,
          ⟨⟨(some 47), none, .mov (.tmp 7)⟩, true, false, false, 0, [], none⟩,
          ⟨⟨(some 48), none, .bin .sub (.tmp 47) (.con (.int .i64 1))⟩, true, false, false, 0, [], none⟩,
          ⟨⟨(some 49), none, .iaddr 2 (.tmp 46) (.tmp 48)⟩, true, false, false, 0, [], none⟩,
          ⟨⟨(some 50), none, .load true 2 (.tmp 49)⟩, false, false, false, 0, [], none⟩,
          ⟨⟨(some 51), none, .mov (.tmp 3)⟩, true, false, false, 0, [], none⟩,
          ⟨⟨(some 52), none, .mov (.tmp 7)⟩, true, false, false, 0, [], none⟩,
          ⟨⟨(some 53), none, .iaddr 2 (.tmp 51) (.tmp 52)⟩, true, false, false, 0, [], none⟩,
          ⟨⟨(some 54), none, .load true 2 (.tmp 53)⟩, false, false, false, 0, [], none⟩,
          ⟨⟨(some 55), none, .iaddr 2 (.tmp 41) (.tmp 42)⟩, true, false, false, 0, [], none⟩,
          ⟨⟨none, none, .store 2 (.tmp 55) (.tmp 50)⟩, false, true, false, 0, [], none⟩], 0, [⟨(some 56), none, .iaddr 2 (.tmp 43) (.tmp 45)⟩,
          ⟨none, none, .store 2 (.tmp 56) (.tmp 54)⟩]⟩]))
       (.reg [⟨(some 39), none, .mov (.tmp 7)⟩,
         ⟨(some 40), none, .bin .sub (.tmp 39) (.con (.int .i64 1))⟩,
         ⟨(some 7), none, .mov (.tmp 40)⟩])))))))))))
    (.reg [⟨(some 57), none, .bin .add (.tmp 10) (.con (.int .i64 1))⟩,
      ⟨(some 10), none, .mov (.tmp 57)⟩])))))))
  (.seq (.reg [⟨(some 58), none, .mov (.tmp 3)⟩,
    ⟨(some 2), none, .mov (.tmp 58)⟩])
  .ret))))
def g24 : Fn := ⟨1, 59, [.tmp 2], b24⟩
/- quiver/topk.first -/
def b25 : AC :=
  (.seq (.reg [⟨(some 2), none, .box (.tmp 0)⟩,
    ⟨(some 4), none, .mov (.con .nilS)⟩])
  (.seq (.reg [⟨(some 9), none, .build [.nilS] []⟩,
    ⟨(some 10), none, .box (.tmp 9)⟩,
    ⟨(some 5), none, .alloc .nilP⟩,
    ⟨none, none, .store 1 (.tmp 5) (.tmp 10)⟩])
  (.seq (.reg [⟨(some 11), none, .mkfn 31 [(.tmp 5), (.tmp 2)]⟩,
    ⟨(some 6), none, .alloc .nilF⟩,
    ⟨none, none, .store 1 (.tmp 6) (.tmp 11)⟩])
  (.seq (.seq (.reg [⟨(some 12), none, .mov (.tmp 1)⟩,
    ⟨(some 13), none, .call 33 [(.tmp 12)]⟩])
  (.block 0 (.rangeF (.tmp 13) [14]
    (.reg [⟨(some 7), none, .alloc (.agg [(.int .u64 0), (.int .u64 0)])⟩,
      ⟨none, none, .store 2 (.tmp 7) (.tmp 14)⟩])
    (.block 1 (.seq (.seq (.reg [⟨(some 15), none, .load false 1 (.tmp 6)⟩,
       ⟨(some 16), none, .load true 2 (.tmp 7)⟩,
       ⟨(some 17), none, .callv (.tmp 15) [(.tmp 16)]⟩,
       ⟨(some 18), none, .un .not (.tmp 17)⟩])
     (.cond (.tmp 18)
      (.exit 1)
      .skip))
     (.seq (.reg [⟨(some 19), none, .load false 1 (.tmp 5)⟩,
       ⟨(some 20), none, .mkif 61 (.tmp 19)⟩,
       ⟨(some 21), none, .load true 2 (.tmp 7)⟩,
       ⟨(some 22), none, .mkif 32 (.tmp 21)⟩,
       ⟨(some 23), none, .call 34 [(.tmp 20), (.tmp 22)]⟩])
     (.seq (.regd [⟨[⟨⟨(some 24), none, .load false 1 (.tmp 5)⟩, false, false, false, 0, [], none⟩,
       ⟨⟨(some 25), none, .nilck (.tmp 24)⟩, true, false, false, 0, [], none⟩,
       ⟨⟨(some 26), none, .faddr (.tmp 25) 0⟩, true, false, false, 0, [], none⟩,
       ⟨⟨(some 27), none, .load false 1 (.tmp 26)⟩, false, false, false, 0, [], none⟩,
       ⟨⟨(some 28), none, .call 32 [(.tmp 27)]⟩, false, false, false, 0, [], none⟩,
       ⟨⟨(some 29), none, .load false 1 (.tmp 2)⟩, false, false, false, 0, [], none⟩], 0, [⟨(some 30), none, .bin .gtr (.tmp 28) (.tmp 29)⟩]⟩])
     (.cond (.tmp 30)
      (.reg [⟨(some 31), none, .load false 1 (.tmp 5)⟩,
        ⟨(some 32), none, .mkif 61 (.tmp 31)⟩,
        ⟨(some 33), none, .call 35 [(.tmp 32)]⟩])
      .skip))))))))
  (.seq (.reg [⟨(some 34), none, .load false 1 (.tmp 5)⟩,
    ⟨(some 35), none, .nilck (.tmp 34)⟩,
    ⟨(some 36), none, .faddr (.tmp 35) 0⟩,
    ⟨(some 37), none, .load false 1 (.tmp 36)⟩,
    ⟨(some 38), none, .call 36 [(.tmp 37)]⟩,
    ⟨(some 8), none, .mov (.tmp 38)⟩])
  (.seq (.reg [⟨(some 39), none, .mov (.tmp 8)⟩,
    ⟨(some 40), none, .call 37 [(.tmp 39), (.con (.fn 17 []))]⟩])
  (.seq (.reg [⟨(some 41), none, .mov (.tmp 8)⟩,
    ⟨(some 4), none, .mov (.tmp 41)⟩])
  .ret)))))))
def g25 : Fn := ⟨2, 42, [.tmp 4], b25⟩
/- cmp.Or[int] -/
def b26 : AC :=
  (.seq (.reg [⟨(some 2), none, .mov (.con (.int .i64 0))⟩])
  (.seq (.reg [⟨(some 3), none, .mov (.con (.int .i64 0))⟩])
  (.seq (.seq (.reg [⟨(some 6), none, .mov (.tmp 0)⟩,
    ⟨(some 7), none, .len (.tmp 6)⟩,
    ⟨(some 8), none, .mov (.con (.int .i64 0))⟩])
  (.block 0 (.loop (.seq (.reg [⟨(some 9), none, .bin .lss (.tmp 8) (.tmp 7)⟩])
    (.seq (.cond (.tmp 9)
     .skip
     (.exit 0))
    (.seq (.block 1 (.seq (.reg [⟨(some 10), none, .iaddr 1 (.tmp 6) (.tmp 8)⟩,
       ⟨(some 11), none, .load false 1 (.tmp 10)⟩,
       ⟨(some 5), none, .mov (.tmp 11)⟩])
     (.seq (.reg [⟨(some 12), none, .mov (.tmp 5)⟩,
       ⟨(some 13), none, .mov (.tmp 3)⟩,
       ⟨(some 14), none, .bin .neq (.tmp 12) (.tmp 13)⟩])
     (.cond (.tmp 14)
      (.seq (.reg [⟨(some 15), none, .mov (.tmp 5)⟩,
        ⟨(some 2), none, .mov (.tmp 15)⟩])
      .ret)
      .skip))))
    (.reg [⟨(some 16), none, .bin .add (.tmp 8) (.con (.int .i64 1))⟩,
      ⟨(some 8), none, .mov (.tmp 16)⟩])))))))
  (.seq (.reg [⟨(some 17), none, .mov (.tmp 3)⟩,
    ⟨(some 2), none, .mov (.tmp 17)⟩])
  .ret))))
def g26 : Fn := ⟨1, 18, [.tmp 2], b26⟩
/- cmp.Compare[uint64] -/
def b27 : AC :=
  (.seq (.reg [⟨(some 4), none, .mov (.con (.int .i64 0))⟩])
  (.seq (.reg [⟨(some 7), none, .mov (.tmp 0)⟩,
    ⟨(some 8), none, .call 38 [(.tmp 7)]⟩,
    ⟨(some 5), none, .mov (.tmp 8)⟩])
  (.seq (.reg [⟨(some 9), none, .mov (.tmp 1)⟩,
    ⟨(some 10), none, .call 38 [(.tmp 9)]⟩,
    ⟨(some 6), none, .mov (.tmp 10)⟩])
  (.seq (.seq (.reg [⟨(some 11), none, .mov (.tmp 5)⟩])
  (.cond (.tmp 11)
   (.seq (.seq (.reg [⟨(some 12), none, .mov (.tmp 6)⟩])
   (.cond (.tmp 12)
    (.seq (.reg [⟨(some 4), none, .mov (.con (.int .i64 0))⟩])
    .ret)
    .skip))
   (.seq (.reg [⟨(some 4), none, .mov (.con (.int .i64 (-1)))⟩])
   .ret))
   .skip))
  (.seq (.seq (.reg [⟨(some 13), none, .mov (.tmp 6)⟩])
  (.cond (.tmp 13)
   (.seq (.reg [⟨(some 4), none, .mov (.con (.int .i64 1))⟩])
   .ret)
   .skip))
  (.seq (.seq (.reg [⟨(some 14), none, .mov (.tmp 0)⟩,
    ⟨(some 15), none, .mov (.tmp 1)⟩,
    ⟨(some 16), none, .bin .lss (.tmp 14) (.tmp 15)⟩])
  (.cond (.tmp 16)
   (.seq (.reg [⟨(some 4), none, .mov (.con (.int .i64 (-1)))⟩])
   .ret)
   .skip))
  (.seq (.seq (.reg [⟨(some 17), none, .mov (.tmp 0)⟩,
    ⟨(some 18), none, .mov (.tmp 1)⟩,
    ⟨(some 19), none, .bin .gtr (.tmp 17) (.tmp 18)⟩])
  (.cond (.tmp 19)
   (.seq (.reg [⟨(some 4), none, .mov (.con (.int .i64 1))⟩])
   .ret)
   .skip))
  (.seq (.reg [⟨(some 4), none, .mov (.con (.int .i64 0))⟩])
  .ret))))))))
def g27 : Fn := ⟨2, 20, [.tmp 4], b27⟩
/- slices.Equal[[]quiver/api.Hit,quiver/api.Hit] -/
def b28 : AC :=
  (.seq (.reg [⟨(some 4), none, .mov (.con (.bool false))⟩])
  (.seq (.seq (.reg [⟨(some 6), none, .mov (.tmp 0)⟩,
    ⟨(some 7), none, .len (.tmp 6)⟩,
    ⟨(some 8), none, .mov (.tmp 1)⟩,
    ⟨(some 9), none, .len (.tmp 8)⟩,
    ⟨(some 10), none, .bin .neq (.tmp 7) (.tmp 9)⟩])
  (.cond (.tmp 10)
   (.seq (.reg [⟨(some 4), none, .mov (.con (.bool false))⟩])
   .ret)
   .skip))
  (.seq (.seq (.reg [⟨(some 11), none, .mov (.tmp 0)⟩,
    ⟨(some 12), none, .len (.tmp 11)⟩,
    ⟨(some 13), none, .mov (.con (.int .i64 0))⟩])
  (.block 0 (.loop (.seq (.reg [⟨(some 14), none, .bin .lss (.tmp 13) (.tmp 12)⟩])
    (.seq (.cond (.tmp 14)
     .skip
     (.exit 0))
    (.seq (.block 1 (.seq (.reg [⟨(some 15), none, .mov (.tmp 13)⟩,
       ⟨(some 5), none, .mov (.tmp 15)⟩])
     (.seq (.regd [⟨[⟨⟨(some 16), none, .mov (.tmp 0)⟩, true, false, false, 0, [], none⟩,
       ⟨⟨(some 17), none, .mov (.tmp 5)⟩, true, false, false, 0, [], none⟩,
       ⟨⟨(some 18), none, .iaddr 2 (.tmp 16) (.tmp 17)⟩, true, false, false, 0, [], none⟩,
       ⟨⟨(some 19), none, .load true 2 (.tmp 18)⟩, false, false, false, 0, [], none⟩,
       ⟨⟨(some 20), none, .mov (.tmp 1)⟩, true, false, false, 0, [], none⟩,
       ⟨⟨(some 21), none, .mov (.tmp 5)⟩, true, false, false, 0, [], none⟩,
       ⟨⟨(some 22), none, .iaddr 2 (.tmp 20) (.tmp 21)⟩, true, false, false, 0, [], none⟩,
       ⟨⟨(some 23), none, .load true 2 (.tmp 22)⟩, false, false, false, 0, [], none⟩], 0, [⟨(some 24), none, .eqA true [.int, .int] (.tmp 19) (.tmp 23)⟩]⟩])
     (.cond (.tmp 24)
      (.seq (.reg [⟨(some 4), none, .mov (.con (.bool false))⟩])
      .ret)
      .skip))))
    (.reg [⟨(some 25), none, .bin .add (.tmp 13) (.con (.int .i64 1))⟩,
      ⟨(some 13), none, .mov (.tmp 25)⟩])))))))
  (.seq (.reg [⟨(some 4), none, .mov (.con (.bool true))⟩])
  .ret))))
def g28 : Fn := ⟨2, 26, [.tmp 4], b28⟩
/- quiver/quiverref06.Ahead -/
def b29 : AC :=
  (.seq (.reg [⟨(some 2), none, .box (.tmp 0)⟩,
    ⟨(some 3), none, .box (.tmp 1)⟩,
    ⟨(some 4), none, .mov (.con (.bool false))⟩])
  (.seq (.reg [⟨(some 5), none, .faddr (.tmp 2) 1⟩,
    ⟨(some 6), none, .load false 1 (.tmp 5)⟩,
    ⟨(some 7), none, .faddr (.tmp 3) 1⟩,
    ⟨(some 8), none, .load false 1 (.tmp 7)⟩,
    ⟨(some 9), none, .bin .lss (.tmp 6) (.tmp 8)⟩,
    ⟨(some 10), none, .mov (.tmp 9)⟩,
    ⟨(some 11), (some (10, false)), .faddr (.tmp 2) 1⟩,
    ⟨(some 12), (some (10, false)), .load false 1 (.tmp 11)⟩,
    ⟨(some 13), (some (10, false)), .faddr (.tmp 3) 1⟩,
    ⟨(some 14), (some (10, false)), .load false 1 (.tmp 13)⟩,
    ⟨(some 15), (some (10, false)), .bin .eql (.tmp 12) (.tmp 14)⟩,
    ⟨(some 16), (some (10, false)), .mov (.tmp 15)⟩,
    ⟨(some 17), (some (16, true)), .faddr (.tmp 2) 0⟩,
    ⟨(some 18), (some (16, true)), .load false 1 (.tmp 17)⟩,
    ⟨(some 19), (some (16, true)), .faddr (.tmp 3) 0⟩,
    ⟨(some 20), (some (16, true)), .load false 1 (.tmp 19)⟩,
    ⟨(some 21), (some (16, true)), .bin .lss (.tmp 18) (.tmp 20)⟩,
    ⟨(some 22), (some (10, false)), .pick (.tmp 16) (.tmp 21) (.con (.bool false))⟩,
    ⟨(some 23), none, .pick (.tmp 10) (.con (.bool true)) (.tmp 22)⟩,
    ⟨(some 4), none, .mov (.tmp 23)⟩])
  .ret))
def g29 : Fn := ⟨2, 24, [.tmp 4], b29⟩
/- slices.IsSortedFunc[[]quiver/api.Hit,quiver/api.Hit] -/
def b30 : AC :=
  (.seq (.reg [⟨(some 4), none, .mov (.con (.bool false))⟩])
  (.seq (.seq (.reg [⟨(some 6), none, .mov (.tmp 0)⟩,
    ⟨(some 7), none, .len (.tmp 6)⟩,
    ⟨(some 8), none, .bin .sub (.tmp 7) (.con (.int .i64 1))⟩,
    ⟨(some 5), none, .mov (.tmp 8)⟩])
  (.block 0 (.loop (.seq (.seq (.reg [⟨(some 9), none, .mov (.tmp 5)⟩,
      ⟨(some 10), none, .bin .gtr (.tmp 9) (.con (.int .i64 0))⟩])
    (.cond (.tmp 10)
     .skip
     (.exit 0)))
    (.seq (.block 1 (.seq (.regd [⟨[⟨⟨(some 13), none, .mov (.tmp 1)⟩, true, false, false, 0, [], none⟩,
       ⟨⟨(some 14), none, .mov (.tmp 0)⟩, true, false, false, 0, [], none⟩,
       ⟨⟨(some 15), none, .mov (.tmp 5)⟩, true, false, false, 0, [], none⟩,
       ⟨⟨(some 16), none, .iaddr 2 (.tmp 14) (.tmp 15)⟩, true, false, false, 0, [], none⟩,
       ⟨⟨(some 17), none, .load true 2 (.tmp 16)⟩, false, false, false, 0, [], none⟩,
       ⟨⟨(some 18), none, .mov (.tmp 0)⟩, true, false, false, 0, [], none⟩,
       ⟨⟨(some 19), none, .mov (.tmp 5)⟩, true, false, false, 0, [], none⟩,
       ⟨⟨(some 20), none, .bin .sub (.tmp 19) (.con (.int .i64 1))⟩, true, false, false, 0, [], none⟩,
       ⟨⟨(some 21), none, .iaddr 2 (.tmp 18) (.tmp 20)⟩, true, false, false, 0, [], none⟩,
       ⟨⟨(some 22), none, .load true 2 (.tmp 21)⟩, false, false, false, 0, [], none⟩], 0, [⟨(some 23), none, .callv (.tmp 13) [(.tmp 17), (.tmp 22)]⟩,
       ⟨(some 24), none, .bin .lss (.tmp 23) (.con (.int .i64 0))⟩]⟩])
     (.cond (.tmp 24)
      (.seq (.reg [⟨(some 4), none, .mov (.con (.bool false))⟩])
      .ret)
      .skip)))
    (.reg [⟨(some 11), none, .mov (.tmp 5)⟩,
      ⟨(some 12), none, .bin .sub (.tmp 11) (.con (.int .i64 1))⟩,
      ⟨(some 5), none, .mov (.tmp 12)⟩]))))))
  (.seq (.reg [⟨(some 4), none, .mov (.con (.bool true))⟩])
  .ret)))
def g30 : Fn := ⟨2, 25, [.tmp 4], b30⟩
/- quiver/topk.first$1 -/
def b31 : AC :=
  (.seq (.reg [⟨(some 3), none, .box (.tmp 0)⟩,
    ⟨(some 4), none, .mov (.con (.bool false))⟩])
  (.seq (.regd [⟨[⟨⟨(some 5), none, .load false 1 (.tmp 1)⟩, false, false, false, 0, [], none⟩,
    ⟨⟨(some 6), none, .nilck (.tmp 5)⟩, true, false, false, 0, [], none⟩,
    ⟨⟨(some 7), none, .faddr (.tmp 6) 0⟩, true, false, false, 0, [], none⟩,
    ⟨⟨(some 8), none, .load false 1 (.tmp 7)⟩, false, false, false, 0, [], none⟩,
    ⟨⟨(some 9), none, .call 32 [(.tmp 8)]⟩, false, false, false, 0, [], none⟩,
    ⟨⟨(some 10), none, .load false 1 (.tmp 2)⟩, false, false, false, 0, [], none⟩], 0, [⟨(some 11), none, .bin .lss (.tmp 9) (.tmp 10)⟩,
    ⟨(some 12), none, .mov (.tmp 11)⟩]⟩,
   ⟨[⟨⟨(some 13), (some (12, false)), .load true 2 (.tmp 3)⟩, false, false, false, 0, [], none⟩,
    ⟨⟨(some 14), (some (12, false)), .load false 1 (.tmp 1)⟩, false, false, false, 0, [], none⟩,
    ⟨⟨(some 15), (some (12, false)), .nilck (.tmp 14)⟩, true, false, false, 0, [], none⟩,
    ⟨⟨(some 16), (some (12, false)), .faddr (.tmp 15) 0⟩, true, false, false, 0, [], none⟩,
    ⟨⟨(some 17), (some (12, false)), .load false 1 (.tmp 16)⟩, false, false, false, 0, [], none⟩,
    ⟨⟨(some 18), (some (12, false)), .iaddr 2 (.tmp 17) (.con (.int .i64 0))⟩, true, false, false, 0, [], none⟩,
    ⟨⟨(some 19), (some (12, false)), .load true 2 (.tmp 18)⟩, false, false, false, 0, [], none⟩], 0, [⟨(some 20), (some (12, false)), .call 17 [(.tmp 13), (.tmp 19)]⟩,
    ⟨(some 21), (some (12, false)), .bin .lss (.tmp 20) (.con (.int .i64 0))⟩,
    ⟨(some 22), none, .pick (.tmp 12) (.con (.bool true)) (.tmp 21)⟩,
    ⟨(some 4), none, .mov (.tmp 22)⟩]⟩])
  .ret))
def g31 : Fn := ⟨3, 23, [.tmp 4], b31⟩
/- (quiver/topk.hits).Len -/
def b32 : AC :=
  (.seq (.reg [⟨(some 2), none, .mov (.con (.int .i64 0))⟩])
  (.seq (.reg [⟨(some 3), none, .mov (.tmp 0)⟩,
    ⟨(some 4), none, .len (.tmp 3)⟩,
    ⟨(some 2), none, .mov (.tmp 4)⟩])
  .ret))
def g32 : Fn := ⟨1, 5, [.tmp 2], b32⟩
/- quiver/topk.all -/
def b33 : AC :=
  (.seq (.reg [⟨(some 1), none, .box (.tmp 0)⟩,
    ⟨(some 2), none, .mov (.con .nilF)⟩])
  (.seq (.reg [⟨(some 3), none, .mkfn 39 [(.tmp 1)]⟩,
    ⟨(some 2), none, .mov (.tmp 3)⟩])
  .ret))
def g33 : Fn := ⟨1, 4, [.tmp 2], b33⟩
/- container/heap.Push -/
def b34 : AC :=
  (.seq (.reg [⟨(some 4), none, .mov (.tmp 0)⟩,
    ⟨(some 5), none, .mov (.tmp 1)⟩,
    ⟨(some 6), none, .inv (.tmp 4) [(61, 78, none)] [(.tmp 5)]⟩])
  (.reg [⟨(some 7), none, .mov (.tmp 0)⟩,
    ⟨(some 8), none, .mov (.tmp 0)⟩,
    ⟨(some 9), none, .inv (.tmp 8) [(17, 73, none), (61, 32, some (false, 1, 0)), (62, 32, none)] []⟩,
    ⟨(some 10), none, .bin .sub (.tmp 9) (.con (.int .i64 1))⟩,
    ⟨(some 11), none, .call 40 [(.tmp 7), (.tmp 10)]⟩]))
def g34 : Fn := ⟨2, 12, [], b34⟩
/- container/heap.Pop -/
def b35 : AC :=
  (.seq (.reg [⟨(some 2), none, .mov (.con .nilI)⟩])
  (.seq (.reg [⟨(some 4), none, .mov (.tmp 0)⟩,
    ⟨(some 5), none, .inv (.tmp 4) [(17, 73, none), (61, 32, some (false, 1, 0)), (62, 32, none)] []⟩,
    ⟨(some 6), none, .bin .sub (.tmp 5) (.con (.int .i64 1))⟩,
    ⟨(some 3), none, .mov (.tmp 6)⟩])
  (.seq (.reg [⟨(some 7), none, .mov (.tmp 0)⟩,
    ⟨(some 8), none, .mov (.tmp 3)⟩,
    ⟨(some 9), none, .inv (.tmp 7) [(61, 79, some (false, 1, 0)), (62, 79, none)] [(.con (.int .i64 0)), (.tmp 8)]⟩])
  (.seq (.reg [⟨(some 10), none, .mov (.tmp 0)⟩,
    ⟨(some 11), none, .mov (.tmp 3)⟩,
    ⟨(some 12), none, .call 41 [(.tmp 10), (.con (.int .i64 0)), (.tmp 11)]⟩])
  (.seq (.reg [⟨(some 13), none, .mov (.tmp 0)⟩,
    ⟨(some 14), none, .inv (.tmp 13) [(61, 77, none)] []⟩,
    ⟨(some 2), none, .mov (.tmp 14)⟩])
  .ret)))))
def g35 : Fn := ⟨1, 15, [.tmp 2], b35⟩
/- slices.Clone[[]quiver/api.Hit,quiver/api.Hit] -/
def b36 : AC :=
  (.seq (.reg [⟨(some 2), none, .mov (.con .nilS)⟩])
  (.seq (.seq (.reg [⟨(some 3), none, .mov (.tmp 0)⟩,
    ⟨(some 4), none, .eqN false (.tmp 3)⟩])
  (.cond (.tmp 4)
   (.seq (.reg [⟨(some 2), none, .mov (.con .nilS)⟩])
   .ret)
   .skip))
  (.seq (.reg [⟨(some 5), none, .lit 2 []⟩,
    ⟨(some 6), none, .mov (.tmp 0)⟩,
    ⟨(some 7), none, .append 2 16 (.tmp 5) (.tmp 6)⟩,
    ⟨(some 2), none, .mov (.tmp 7)⟩])
  .ret)))
def g36 : Fn := ⟨1, 8, [.tmp 2], b36⟩
/- slices.SortFunc[[]quiver/api.Hit,quiver/api.Hit] -/
def b37 : AC :=
  (.seq (.reg [⟨(some 5), none, .mov (.tmp 0)⟩,
    ⟨(some 6), none, .len (.tmp 5)⟩,
    ⟨(some 4), none, .mov (.tmp 6)⟩])
  (.reg [⟨(some 7), none, .mov (.tmp 0)⟩,
    ⟨(some 8), none, .mov (.tmp 4)⟩,
    ⟨(some 9), none, .mov (.tmp 4)⟩,
    ⟨(some 10), none, .conv .u64 (.tmp 9)⟩,
    ⟨(some 11), none, .call 43 [(.tmp 10)]⟩,
    ⟨(some 12), none, .mov (.tmp 1)⟩,
    ⟨(some 13), none, .call 42 [(.tmp 7), (.con (.int .i64 0)), (.tmp 8), (.tmp 11), (.tmp 12)]⟩]))
def g37 : Fn := ⟨2, 14, [], b37⟩
/- cmp.isNaN[uint64] -/
def b38 : AC :=
  (.seq (.reg [⟨(some 2), none, .mov (.con (.bool false))⟩])
  (.seq (.reg [⟨(some 3), none, .mov (.tmp 0)⟩,
    ⟨(some 4), none, .mov (.tmp 0)⟩,
    ⟨(some 5), none, .bin .neq (.tmp 3) (.tmp 4)⟩,
    ⟨(some 2), none, .mov (.tmp 5)⟩])
  .ret))
def g38 : Fn := ⟨1, 6, [.tmp 2], b38⟩
/- quiver/topk.all$1 -/
def b39 : AC :=
  (.seq (.reg [⟨(some 7), none, .load false 1 (.tmp 1)⟩,
    ⟨(some 8), none, .len (.tmp 7)⟩,
    ⟨(some 9), none, .mov (.con (.int .i64 0))⟩])
  (.block 0 (.loop (.seq (.reg [⟨(some 10), none, .bin .lss (.tmp 9) (.tmp 8)⟩])
    (.seq (.cond (.tmp 10)
     .skip
     (.exit 0))
    (.seq (.block 1 (.seq (.reg [⟨(some 11), none, .iaddr 1 (.tmp 7) (.tmp 9)⟩,
       ⟨(some 12), none, .load false 1 (.tmp 11)⟩,
       ⟨(some 4), none, .mov (.tmp 12)⟩])
     (.seq (.reg [⟨(some 13), none, .mov (.tmp 4)⟩,
       ⟨(some 14), none, .len (.tmp 13)⟩,
       ⟨(some 15), none, .mov (.con (.int .i64 0))⟩])
     (.block 2 (.loop (.seq (.reg [⟨(some 16), none, .bin .lss (.tmp 15) (.tmp 14)⟩])
       (.seq (.cond (.tmp 16)
        .skip
        (.exit 2))
       (.seq (.block 3 (.seq (.reg [⟨(some 17), none, .iaddr 2 (.tmp 13) (.tmp 15)⟩,
          ⟨(some 18), none, .load true 2 (.tmp 17)⟩,
          ⟨(some 6), none, .alloc (.agg [(.int .u64 0), (.int .u64 0)])⟩,
          ⟨none, none, .store 2 (.tmp 6) (.tmp 18)⟩])
        (.seq (.reg [⟨(some 19), none, .mov (.tmp 0)⟩,
          ⟨(some 20), none, .load true 2 (.tmp 6)⟩,
          ⟨(some 21), none, .callv (.tmp 19) [(.tmp 20)]⟩,
          ⟨(some 22), none, .un .not (.tmp 21)⟩])
        (.cond (.tmp 22)
         .ret
         .skip))))
       (.reg [⟨(some 23), none, .bin .add (.tmp 15) (.con (.int .i64 1))⟩,
         ⟨(some 15), none, .mov (.tmp 23)⟩])))))))))
    (.reg [⟨(some 24), none, .bin .add (.tmp 9) (.con (.int .i64 1))⟩,
      ⟨(some 9), none, .mov (.tmp 24)⟩])))))))
def g39 : Fn := ⟨2, 25, [], b39⟩
/- container/heap.up -/
def b40 : AC :=
  (.block 0 (.loop (.block 1 (.seq (.reg [⟨(some 5), none, .mov (.tmp 1)⟩,
       ⟨(some 6), none, .bin .sub (.tmp 5) (.con (.int .i64 1))⟩,
       ⟨(some 7), none, .bin .quo (.tmp 6) (.con (.int .i64 2))⟩,
       ⟨(some 4), none, .mov (.tmp 7)⟩])
     (.seq (.seq (.reg [⟨(some 8), none, .mov (.tmp 4)⟩,
       ⟨(some 9), none, .mov (.tmp 1)⟩,
       ⟨(some 10), none, .bin .eql (.tmp 8) (.tmp 9)⟩,
       ⟨(some 11), none, .mov (.tmp 10)⟩,
       ⟨(some 12), (some (11, false)), .mov (.tmp 0)⟩,
       ⟨(some 13), (some (11, false)), .mov (.tmp 1)⟩,
       ⟨(some 14), (some (11, false)), .mov (.tmp 4)⟩,
       ⟨(some 15), (some (11, false)), .inv (.tmp 12) [(61, 76, none)] [(.tmp 13), (.tmp 14)]⟩,
       ⟨(some 16), (some (11, false)), .un .not (.tmp 15)⟩,
       ⟨(some 17), none, .pick (.tmp 11) (.con (.bool true)) (.tmp 16)⟩])
     (.cond (.tmp 17)
      (.exit 0)
      .skip))
     (.seq (.reg [⟨(some 18), none, .mov (.tmp 0)⟩,
       ⟨(some 19), none, .mov (.tmp 4)⟩,
       ⟨(some 20), none, .mov (.tmp 1)⟩,
       ⟨(some 21), none, .inv (.tmp 18) [(61, 79, some (false, 1, 0)), (62, 79, none)] [(.tmp 19), (.tmp 20)]⟩])
     (.reg [⟨(some 22), none, .mov (.tmp 4)⟩,
       ⟨(some 1), none, .mov (.tmp 22)⟩])))))))
def g40 : Fn := ⟨2, 23, [], b40⟩
/- container/heap.down -/
def b41 : AC :=
  (.seq (.reg [⟨(some 6), none, .mov (.con (.bool false))⟩])
  (.seq (.reg [⟨(some 11), none, .mov (.tmp 1)⟩,
    ⟨(some 7), none, .mov (.tmp 11)⟩])
  (.seq (.block 0 (.loop (.block 1 (.seq (.reg [⟨(some 12), none, .mov (.tmp 7)⟩,
       ⟨(some 13), none, .bin .mul (.con (.int .i64 2)) (.tmp 12)⟩,
       ⟨(some 14), none, .bin .add (.tmp 13) (.con (.int .i64 1))⟩,
       ⟨(some 8), none, .mov (.tmp 14)⟩])
     (.seq (.seq (.reg [⟨(some 15), none, .mov (.tmp 8)⟩,
       ⟨(some 16), none, .mov (.tmp 2)⟩,
       ⟨(some 17), none, .bin .geq (.tmp 15) (.tmp 16)⟩,
       ⟨(some 18), none, .mov (.tmp 17)⟩,
       ⟨(some 19), (some (18, false)), .mov (.tmp 8)⟩,
       ⟨(some 20), (some (18, false)), .bin .lss (.tmp 19) (.con (.int .i64 0))⟩,
       ⟨(some 21), none, .pick (.tmp 18) (.con (.bool true)) (.tmp 20)⟩])
     (.cond (.tmp 21)
      (.exit 0)
      .skip))
     (.seq (.reg [⟨(some 22), none, .mov (.tmp 8)⟩,
       ⟨(some 9), none, .mov (.tmp 22)⟩])
     (.seq (.seq (.reg [⟨(some 23), none, .mov (.tmp 8)⟩,
       ⟨(some 24), none, .bin .add (.tmp 23) (.con (.int .i64 1))⟩,
       ⟨(some 10), none, .mov (.tmp 24)⟩])
     (.seq (.reg [⟨(some 25), none, .mov (.tmp 10)⟩,
       ⟨(some 26), none, .mov (.tmp 2)⟩,
       ⟨(some 27), none, .bin .lss (.tmp 25) (.tmp 26)⟩,
       ⟨(some 28), none, .mov (.tmp 27)⟩,
       ⟨(some 29), (some (28, true)), .mov (.tmp 0)⟩,
       ⟨(some 30), (some (28, true)), .mov (.tmp 10)⟩,
       ⟨(some 31), (some (28, true)), .mov (.tmp 8)⟩,
       ⟨(some 32), (some (28, true)), .inv (.tmp 29) [(61, 76, none)] [(.tmp 30), (.tmp 31)]⟩,
       ⟨(some 33), none, .pick (.tmp 28) (.tmp 32) (.con (.bool false))⟩])
     (.cond (.tmp 33)
      (.reg [⟨(some 34), none, .mov (.tmp 10)⟩,
        ⟨(some 9), none, .mov (.tmp 34)⟩])
      .skip)))
     (.seq (.seq (.reg [⟨(some 35), none, .mov (.tmp 0)⟩,
       ⟨(some 36), none, .mov (.tmp 9)⟩,
       ⟨(some 37), none, .mov (.tmp 7)⟩,
       ⟨(some 38), none, .inv (.tmp 35) [(61, 76, none)] [(.tmp 36), (.tmp 37)]⟩,
       ⟨(some 39), none, .un .not (.tmp 38)⟩])
     (.cond (.tmp 39)
      (.exit 0)
      .skip))
     (.seq (.reg [⟨(some 40), none, .mov (.tmp 0)⟩,
       ⟨(some 41), none, .mov (.tmp 7)⟩,
       ⟨(some 42), none, .mov (.tmp 9)⟩,
       ⟨(some 43), none, .inv (.tmp 40) [(61, 79, some (false, 1, 0)), (62, 79, none)] [(.tmp 41), (.tmp 42)]⟩])
     (.reg [⟨(some 44), none, .mov (.tmp 9)⟩,
       ⟨(some 7), none, .mov (.tmp 44)⟩]))))))))))
  (.seq (.reg [⟨(some 45), none, .mov (.tmp 7)⟩,
    ⟨(some 46), none, .mov (.tmp 1)⟩,
    ⟨(some 47), none, .bin .gtr (.tmp 45) (.tmp 46)⟩,
    ⟨(some 6), none, .mov (.tmp 47)⟩])
  .ret))))
def g41 : Fn := ⟨3, 48, [.tmp 6], b41⟩
/- slices.pdqsortCmpFunc[quiver/api.Hit] -/
def b42 : AC :=
  (.seq (.reg [⟨(some 10), none, .mov (.con (.bool true))⟩])
  (.seq (.reg [⟨(some 11), none, .mov (.con (.bool true))⟩])
  (.block 0 (.loop (.block 1 (.seq (.reg [⟨(some 21), none, .mov (.tmp 2)⟩,
       ⟨(some 22), none, .mov (.tmp 1)⟩,
       ⟨(some 23), none, .bin .sub (.tmp 21) (.tmp 22)⟩,
       ⟨(some 12), none, .mov (.tmp 23)⟩])
     (.seq (.seq (.reg [⟨(some 24), none, .mov (.tmp 12)⟩,
       ⟨(some 25), none, .bin .leq (.tmp 24) (.con (.int .i64 12))⟩])
     (.cond (.tmp 25)
      (.seq (.reg [⟨(some 26), none, .mov (.tmp 0)⟩,
        ⟨(some 27), none, .mov (.tmp 1)⟩,
        ⟨(some 28), none, .mov (.tmp 2)⟩,
        ⟨(some 29), none, .mov (.tmp 4)⟩,
        ⟨(some 30), none, .call 44 [(.tmp 26), (.tmp 27), (.tmp 28), (.tmp 29)]⟩])
      .ret)
      .skip))
     (.seq (.seq (.reg [⟨(some 31), none, .mov (.tmp 3)⟩,
       ⟨(some 32), none, .bin .eql (.tmp 31) (.con (.int .i64 0))⟩])
     (.cond (.tmp 32)
      (.seq (.reg [⟨(some 33), none, .mov (.tmp 0)⟩,
        ⟨(some 34), none, .mov (.tmp 1)⟩,
        ⟨(some 35), none, .mov (.tmp 2)⟩,
        ⟨(some 36), none, .mov (.tmp 4)⟩,
        ⟨(some 37), none, .call 45 [(.tmp 33), (.tmp 34), (.tmp 35), (.tmp 36)]⟩])
      .ret)
      .skip))
     (.seq (.seq (.reg [⟨(some 38), none, .mov (.tmp 10)⟩,
       ⟨(some 39), none, .un .not (.tmp 38)⟩])
     (.cond (.tmp 39)
      (.seq (.reg [⟨(some 40), none, .mov (.tmp 0)⟩,
        ⟨(some 41), none, .mov (.tmp 1)⟩,
        ⟨(some 42), none, .mov (.tmp 2)⟩,
        ⟨(some 43), none, .mov (.tmp 4)⟩,
        ⟨(some 44), none, .call 46 [(.tmp 40), (.tmp 41), (.tmp 42), (.tmp 43)]⟩])
      (.reg [⟨(some 45), none, .mov (.tmp 3)⟩,
        ⟨(some 46), none, .bin .sub (.tmp 45) (.con (.int .i64 1))⟩,
        ⟨(some 3), none, .mov (.tmp 46)⟩]))
      .skip))
     (.seq (.reg [⟨(some 48), none, .mov (.tmp 0)⟩,
       ⟨(some 49), none, .mov (.tmp 1)⟩,
       ⟨(some 50), none, .mov (.tmp 2)⟩,
       ⟨(some 51), none, .mov (.tmp 4)⟩,
       ⟨(some 52), none, .call 47 [(.tmp 48), (.tmp 49), (.tmp 50), (.tmp 51)]⟩,
       ⟨(some 47), none, .mov (.tmp 52)⟩,
       ⟨(some 53), none, .ext (.tmp 47) 0⟩,
       ⟨(some 54), none, .ext (.tmp 47) 1⟩,
       ⟨(some 13), none, .mov (.tmp 53)⟩,
       ⟨(some 14), none, .mov (.tmp 54)⟩])
     (.seq (.seq (.reg [⟨(some 55), none, .mov (.tmp 14)⟩,
       ⟨(some 56), none, .bin .eql (.tmp 55) (.con (.int .i64 2))⟩])
     (.cond (.tmp 56)
      (.seq (.reg [⟨(some 57), none, .mov (.tmp 0)⟩,
        ⟨(some 58), none, .mov (.tmp 1)⟩,
        ⟨(some 59), none, .mov (.tmp 2)⟩,
        ⟨(some 60), none, .mov (.tmp 4)⟩,
        ⟨(some 61), none, .call 48 [(.tmp 57), (.tmp 58), (.tmp 59), (.tmp 60)]⟩])
      (.seq (.reg [⟨(some 62), none, .mov (.tmp 2)⟩,
        ⟨(some 63), none, .bin .sub (.tmp 62) (.con (.int .i64 1))⟩,
        ⟨(some 64), none, .mov (.tmp 13)⟩,
        ⟨(some 65), none, .mov (.tmp 1)⟩,
        ⟨(some 66), none, .bin .sub (.tmp 64) (.tmp 65)⟩,
        ⟨(some 67), none, .bin .sub (.tmp 63) (.tmp 66)⟩,
        ⟨(some 13), none, .mov (.tmp 67)⟩])
      (.reg [⟨(some 14), none, .mov (.con (.int .i64 1))⟩])))
      .skip))
     (.seq (.seq (.reg [⟨(some 68), none, .mov (.tmp 10)⟩,
       ⟨(some 69), none, .mov (.tmp 68)⟩,
       ⟨(some 70), (some (69, true)), .mov (.tmp 11)⟩,
       ⟨(some 71), none, .pick (.tmp 69) (.tmp 70) (.con (.bool false))⟩,
       ⟨(some 72), none, .mov (.tmp 71)⟩,
       ⟨(some 73), (some (72, true)), .mov (.tmp 14)⟩,
       ⟨(some 74), (some (72, true)), .bin .eql (.tmp 73) (.con (.int .i64 1))⟩,
       ⟨(some 75), none, .pick (.tmp 72) (.tmp 74) (.con (.bool false))⟩])
     (.cond (.tmp 75)
      (.seq (.reg [⟨(some 76), none, .mov (.tmp 0)⟩,
        ⟨(some 77), none, .mov (.tmp 1)⟩,
        ⟨(some 78), none, .mov (.tmp 2)⟩,
        ⟨(some 79), none, .mov (.tmp 4)⟩,
        ⟨(some 80), none, .call 49 [(.tmp 76), (.tmp 77), (.tmp 78), (.tmp 79)]⟩])
      (.cond (.tmp 80)
       .ret
       .skip))
      .skip))
     (.seq (.seq (.regd [⟨[], 0, [⟨(some 81), none, .mov (.tmp 1)⟩,
       ⟨(some 82), none, .bin .gtr (.tmp 81) (.con (.int .i64 0))⟩,
       ⟨(some 83), none, .mov (.tmp 82)⟩]⟩,
      ⟨[⟨⟨(some 84), (some (83, true)), .mov (.tmp 4)⟩, true, false, false, 0, [], none⟩,
       ⟨⟨(some 85), (some (83, true)), .mov (.tmp 0)⟩, true, false, false, 0, [], none⟩,
       ⟨⟨(some 86), (some (83, true)), .mov (.tmp 1)⟩, true, false, false, 0, [], none⟩,
       ⟨⟨(some 87), (some (83, true)), .bin .sub (.tmp 86) (.con (.int .i64 1))⟩, true, false, false, 0, [], none⟩,
       ⟨⟨(some 88), (some (83, true)), .iaddr 2 (.tmp 85) (.tmp 87)⟩, true, false, false, 0, [], none⟩,
       ⟨⟨(some 89), (some (83, true)), .load true 2 (.tmp 88)⟩, false, false, false, 0, [], none⟩,
       ⟨⟨(some 90), (some (83, true)), .mov (.tmp 0)⟩, true, false, false, 0, [], none⟩,
       ⟨⟨(some 91), (some (83, true)), .mov (.tmp 13)⟩, true, false, false, 0, [], none⟩,
       ⟨⟨(some 92), (some (83, true)), .iaddr 2 (.tmp 90) (.tmp 91)⟩, true, false, false, 0, [], none⟩,
       ⟨⟨(some 93), (some (83, true)), .load true 2 (.tmp 92)⟩, false, false, false, 0, [], none⟩], 0, [⟨(some 94), (some (83, true)), .callv (.tmp 84) [(.tmp 89), (.tmp 93)]⟩,
       ⟨(some 95), (some (83, true)), .bin .lss (.tmp 94) (.con (.int .i64 0))⟩,
       ⟨(some 96), (some (83, true)), .un .not (.tmp 95)⟩,
       ⟨(some 97), none, .pick (.tmp 83) (.tmp 96) (.con (.bool false))⟩]⟩])
     (.cond (.tmp 97)
      (.seq (.reg [⟨(some 98), none, .mov (.tmp 0)⟩,
        ⟨(some 99), none, .mov (.tmp 1)⟩,
        ⟨(some 100), none, .mov (.tmp 2)⟩,
        ⟨(some 101), none, .mov (.tmp 13)⟩,
        ⟨(some 102), none, .mov (.tmp 4)⟩,
        ⟨(some 103), none, .call 50 [(.tmp 98), (.tmp 99), (.tmp 100), (.tmp 101), (.tmp 102)]⟩,
        ⟨(some 15), none, .mov (.tmp 103)⟩])
      (.seq (.reg [⟨(some 104), none, .mov (.tmp 15)⟩,
        ⟨(some 1), none, .mov (.tmp 104)⟩])
      (.exit 1)))
      .skip))
     (.seq (.reg [⟨(some 106), none, .mov (.tmp 0)⟩,
       ⟨(some 107), none, .mov (.tmp 1)⟩,
       ⟨(some 108), none, .mov (.tmp 2)⟩,
       ⟨(some 109), none, .mov (.tmp 13)⟩,
       ⟨(some 110), none, .mov (.tmp 4)⟩,
       ⟨(some 111), none, .call 51 [(.tmp 106), (.tmp 107), (.tmp 108), (.tmp 109), (.tmp 110)]⟩,
       ⟨(some 105), none, .mov (.tmp 111)⟩,
       ⟨(some 112), none, .ext (.tmp 105) 0⟩,
       ⟨(some 113), none, .ext (.tmp 105) 1⟩,
       ⟨(some 16), none, .mov (.tmp 112)⟩,
       ⟨(some 17), none, .mov (.tmp 113)⟩])
     (.seq (.reg [⟨(some 114), none, .mov (.tmp 17)⟩,
       ⟨(some 11), none, .mov (.tmp 114)⟩])
     (.seq (.reg [⟨(some 115), none, .mov (.tmp 16)⟩,
       ⟨(some 116), none, .mov (.tmp 1)⟩,
       ⟨(some 117), none, .bin .sub (.tmp 115) (.tmp 116)⟩,
       ⟨(some 118), none, .mov (.tmp 2)⟩,
       ⟨(some 119), none, .mov (.tmp 16)⟩,
       ⟨(some 120), none, .bin .sub (.tmp 118) (.tmp 119)⟩,
       ⟨(some 18), none, .mov (.tmp 117)⟩,
       ⟨(some 19), none, .mov (.tmp 120)⟩])
     (.seq (.reg [⟨(some 121), none, .mov (.tmp 12)⟩,
       ⟨(some 122), none, .bin .quo (.tmp 121) (.con (.int .i64 8))⟩,
       ⟨(some 20), none, .mov (.tmp 122)⟩])
     (.seq (.reg [⟨(some 123), none, .mov (.tmp 18)⟩,
       ⟨(some 124), none, .mov (.tmp 19)⟩,
       ⟨(some 125), none, .bin .lss (.tmp 123) (.tmp 124)⟩])
     (.cond (.tmp 125)
      (.seq (.reg [⟨(some 126), none, .mov (.tmp 18)⟩,
        ⟨(some 127), none, .mov (.tmp 20)⟩,
        ⟨(some 128), none, .bin .geq (.tmp 126) (.tmp 127)⟩,
        ⟨(some 10), none, .mov (.tmp 128)⟩])
      (.seq (.reg [⟨(some 129), none, .mov (.tmp 0)⟩,
        ⟨(some 130), none, .mov (.tmp 1)⟩,
        ⟨(some 131), none, .mov (.tmp 16)⟩,
        ⟨(some 132), none, .mov (.tmp 3)⟩,
        ⟨(some 133), none, .mov (.tmp 4)⟩,
        ⟨(some 134), none, .call 42 [(.tmp 129), (.tmp 130), (.tmp 131), (.tmp 132), (.tmp 133)]⟩])
      (.reg [⟨(some 135), none, .mov (.tmp 16)⟩,
        ⟨(some 136), none, .bin .add (.tmp 135) (.con (.int .i64 1))⟩,
        ⟨(some 1), none, .mov (.tmp 136)⟩])))
      (.seq (.reg [⟨(some 137), none, .mov (.tmp 19)⟩,
        ⟨(some 138), none, .mov (.tmp 20)⟩,
        ⟨(some 139), none, .bin .geq (.tmp 137) (.tmp 138)⟩,
        ⟨(some 10), none, .mov (.tmp 139)⟩])
      (.seq (.reg [⟨(some 140), none, .mov (.tmp 0)⟩,
        ⟨(some 141), none, .mov (.tmp 16)⟩,
        ⟨(some 142), none, .bin .add (.tmp 141) (.con (.int .i64 1))⟩,
        ⟨(some 143), none, .mov (.tmp 2)⟩,
        ⟨(some 144), none, .mov (.tmp 3)⟩,
        ⟨(some 145), none, .mov (.tmp 4)⟩,
        ⟨(some 146), none, .call 42 [(.tmp 140), (.tmp 142), (.tmp 143), (.tmp 144), (.tmp 145)]⟩])
      (.reg [⟨(some 147), none, .mov (.tmp 16)⟩,
        ⟨(some 2), none, .mov (.tmp 147)⟩]))))))))))))))))))))))
def g42 : Fn := ⟨5, 148, [], b42⟩
/- math/bits.Len -/
def b43 : AC :=
  (.seq (.reg [⟨(some 2), none, .mov (.con (.int .i64 0))⟩])
  (.seq (.cond (.con (.bool false))
   (.seq (.reg [⟨(some 3), none, .mov (.tmp 0)⟩,
     ⟨(some 4), none, .conv .u32 (.tmp 3)⟩,
     ⟨(some 5), none, .call 52 [(.tmp 4)]⟩,
     ⟨(some 2), none, .mov (.tmp 5)⟩])
   .ret)
   .skip)
  (.seq (.reg [⟨(some 6), none, .mov (.tmp 0)⟩,
    ⟨(some 7), none, .call 53 [(.tmp 6)]⟩,
    ⟨(some 2), none, .mov (.tmp 7)⟩])
  .ret)))
def g43 : Fn := ⟨1, 8, [.tmp 2], b43⟩
/- slices.insertionSortCmpFunc[quiver/api.Hit] -/
def b44 : AC :=
  (.seq (.reg [⟨(some 10), none, .mov (.tmp 1)⟩,
    ⟨(some 11), none, .bin .add (.tmp 10) (.con (.int .i64 1))⟩,
    ⟨(some 8), none, .mov (.tmp 11)⟩])
  (.block 0 (.loop (.seq (.seq (.reg [⟨(some 12), none, .mov (.tmp 8)⟩,
      ⟨(some 13), none, .mov (.tmp 2)⟩,
      ⟨(some 14), none, .bin .lss (.tmp 12) (.tmp 13)⟩])
    (.cond (.tmp 14)
     .skip
     (.exit 0)))
    (.seq (.block 1 (.seq (.reg [⟨(some 17), none, .mov (.tmp 8)⟩,
       ⟨(some 9), none, .mov (.tmp 17)⟩])
     (.block 2 (.loop (.seq (.seq (.regd [⟨[⟨⟨(some 18), none, .mov (.tmp 9)⟩, true, false, false, 0, [], none⟩,
         ⟨⟨(some 19), none, .mov (.tmp 1)⟩, true, false, false, 0, [], none⟩], 0, [⟨(some 20), none, .bin .gtr (.tmp 18) (.tmp 19)⟩,
         ⟨(some 21), none, .mov (.tmp 20)⟩]⟩,
        ⟨[⟨⟨(some 22), (some (21, true)), .mov (.tmp 3)⟩, true, false, false, 0, [], none⟩,
         ⟨⟨(some 23), (some (21, true)), .mov (.tmp 0)⟩, true, false, false, 0, [], none⟩,
         ⟨⟨(some 24), (some (21, true)), .mov (.tmp 9)⟩, true, false, false, 0, [], none⟩,
         ⟨⟨(some 25), (some (21, true)), .iaddr 2 (.tmp 23) (.tmp 24)⟩, true, false, false, 0, [], none⟩,
         ⟨⟨(some 26), (some (21, true)), .load true 2 (.tmp 25)⟩, false, false, false, 0, [], none⟩,
         ⟨⟨(some 27), (some (21, true)), .mov (.tmp 0)⟩, true, false, false, 0, [], none⟩,
         ⟨⟨(some 28), (some (21, true)), .mov (.tmp 9)⟩, true, false, false, 0, [], none⟩,
         ⟨⟨(some 29), (some (21, true)), .bin .sub (.tmp 28) (.con (.int .i64 1))⟩, true, false, false, 0, [], none⟩,
         ⟨⟨(some 30), (some (21, true)), .iaddr 2 (.tmp 27) (.tmp 29)⟩, true, false, false, 0, [], none⟩,
         ⟨⟨(some 31), (some (21, true)), .load true 2 (.tmp 30)⟩, false, false, false, 0, [], none⟩], 0, [⟨(some 32), (some (21, true)), .callv (.tmp 22) [(.tmp 26), (.tmp 31)]⟩,
         ⟨(some 33), (some (21, true)), .bin .lss (.tmp 32) (.con (.int .i64 0))⟩,
         ⟨(some 34), none, .pick (.tmp 21) (.tmp 33) (.con (.bool false))⟩]⟩])
       (.cond (.tmp 34)
        .skip
        (.exit 2)))
       (.seq (.block 3 (.regd [⟨[⟨⟨(some 37), none, .mov (.tmp 0)⟩, true, false, false, 0, [], none⟩,
          ⟨⟨(some 38), none, .mov (.tmp 9)⟩, true, false, false, 0, [], none⟩,
          ⟨⟨(some 39), none, .mov (.tmp 0)⟩, true, false, false, 0, [], none⟩,
          ⟨⟨(some 40), none, .mov (.tmp 9)⟩, true, false, false, 0, [], none⟩,
          ⟨⟨(some 41), none, .bin .sub (.tmp 40) (.con (.int .i64 1))⟩, true, false, false, 0, [], none⟩,
          ⟨⟨(some 42), none, .mov (.tmp 0)⟩, true, false, false, 0, [], none⟩,
          ⟨⟨(some 43), none, .mov (.tmp 9)⟩, true, false, false, 0, [], none⟩,
          ⟨⟨(some 44), none, .bin .sub (.tmp 43) (.con (.int .i64 1))⟩, true, false, false, 0, [], none⟩,
          ⟨⟨(some 45), none, .iaddr 2 (.tmp 42) (.tmp 44)⟩, true, false, false, 0, [], none⟩,
          ⟨⟨(some 46), none, .load true 2 (.tmp 45)⟩, false, false, false, 0, [], none⟩,
          ⟨⟨(some 47), none, .mov (.tmp 0)⟩, true, false, false, 0, [], none⟩,
          ⟨⟨(some 48), none, .mov (.tmp 9)⟩, true, false, false, 0, [], none⟩,
          ⟨⟨(some 49), none, .iaddr 2 (.tmp 47) (.tmp 48)⟩, true, false, false, 0, [], none⟩,
          ⟨⟨(some 50), none, .load true 2 (.tmp 49)⟩, false, false, false, 0, [], none⟩,
          ⟨⟨(some 51), none, .iaddr 2 (.tmp 37) (.tmp 38)⟩, true, false, false, 0, [], none⟩,
          ⟨⟨none, none, .store 2 (.tmp 51) (.tmp 46)⟩, false, true, false, 0, [], none⟩], 0, [⟨(some 52), none, .iaddr 2 (.tmp 39) (.tmp 41)⟩,
          ⟨none, none, .store 2 (.tmp 52) (.tmp 50)⟩]⟩]))
       (.reg [⟨(some 35), none, .mov (.tmp 9)⟩,
         ⟨(some 36), none, .bin .sub (.tmp 35) (.con (.int .i64 1))⟩,
         ⟨(some 9), none, .mov (.tmp 36)⟩])))))))
    (.reg [⟨(some 15), none, .mov (.tmp 8)⟩,
      ⟨(some 16), none, .bin .add (.tmp 15) (.con (.int .i64 1))⟩,
      ⟨(some 8), none, .mov (.tmp 16)⟩]))))))
def g44 : Fn := ⟨4, 53, [], b44⟩
/- slices.heapSortCmpFunc[quiver/api.Hit] -/
def b45 : AC :=
  (.seq (.reg [⟨(some 13), none, .mov (.tmp 1)⟩,
    ⟨(some 8), none, .mov (.tmp 13)⟩])
  (.seq (.reg [⟨(some 9), none, .mov (.con (.int .i64 0))⟩])
  (.seq (.reg [⟨(some 14), none, .mov (.tmp 2)⟩,
    ⟨(some 15), none, .mov (.tmp 1)⟩,
    ⟨(some 16), none, .bin .sub (.tmp 14) (.tmp 15)⟩,
    ⟨(some 10), none, .mov (.tmp 16)⟩])
  (.seq (.seq (.reg [⟨(some 17), none, .mov (.tmp 10)⟩,
    ⟨(some 18), none, .bin .sub (.tmp 17) (.con (.int .i64 1))⟩,
    ⟨(some 19), none, .bin .quo (.tmp 18) (.con (.int .i64 2))⟩,
    ⟨(some 11), none, .mov (.tmp 19)⟩])
  (.block 0 (.loop (.seq (.seq (.reg [⟨(some 20), none, .mov (.tmp 11)⟩,
      ⟨(some 21), none, .bin .geq (.tmp 20) (.con (.int .i64 0))⟩])
    (.cond (.tmp 21)
     .skip
     (.exit 0)))
    (.seq (.block 1 (.reg [⟨(some 24), none, .mov (.tmp 0)⟩,
       ⟨(some 25), none, .mov (.tmp 11)⟩,
       ⟨(some 26), none, .mov (.tmp 10)⟩,
       ⟨(some 27), none, .mov (.tmp 8)⟩,
       ⟨(some 28), none, .mov (.tmp 3)⟩,
       ⟨(some 29), none, .call 54 [(.tmp 24), (.tmp 25), (.tmp 26), (.tmp 27), (.tmp 28)]⟩]))
    (.reg [⟨(some 22), none, .mov (.tmp 11)⟩,
      ⟨(some 23), none, .bin .sub (.tmp 22) (.con (.int .i64 1))⟩,
      ⟨(some 11), none, .mov (.tmp 23)⟩]))))))
  (.seq (.reg [⟨(some 30), none, .mov (.tmp 10)⟩,
    ⟨(some 31), none, .bin .sub (.tmp 30) (.con (.int .i64 1))⟩,
    ⟨(some 12), none, .mov (.tmp 31)⟩])
  (.block 2 (.loop (.seq (.seq (.reg [⟨(some 32), none, .mov (.tmp 12)⟩,
      ⟨(some 33), none, .bin .geq (.tmp 32) (.con (.int .i64 0))⟩])
    (.cond (.tmp 33)
     .skip
     (.exit 2)))
    (.seq (.block 3 (.seq (.regd [⟨[⟨⟨(some 36), none, .mov (.tmp 0)⟩, true, false, false, 0, [], none⟩,
       ⟨⟨(some 37), none, .mov (.tmp 8)⟩, true, false, false, 0, [], none⟩,
       ⟨⟨(some 38), none, .mov (.tmp 0)⟩, true, false, false, 0, [], none⟩,
       ⟨⟨(some 39), none, .mov (.tmp 8)⟩, true, false, false, 0, [], none⟩,
       ⟨⟨(some 40), none, .mov (.tmp 12)⟩, true, false, false, 0, [], none⟩,
       ⟨⟨(some 41), none, .bin .add (.tmp 39) (.tmp 40)⟩, true, false, false, 0, [], none⟩,
       ⟨⟨(some 42), none, .mov (.tmp 0)⟩, true, false, false, 0, [], none⟩,
       ⟨⟨(some 43), none, .mov (.tmp 8)⟩, true, false, false, 0, [], none⟩,
       ⟨⟨(some 44), none, .mov (.tmp 12)⟩, true, false, false, 0, [], none⟩,
       ⟨⟨(some 45), none, .bin .add (.tmp 43) (.tmp 44)⟩, true, false, false, 0, [], none⟩,
       ⟨⟨(some 46), none, .iaddr 2 (.tmp 42) (.tmp 45)⟩, true, false, false, 0, [], none⟩,
       ⟨⟨(some 47), none, .load true 2 (.tmp 46)⟩, false, false, false, 0, [], none⟩,
       ⟨⟨(some 48), none, .mov (.tmp 0)⟩, true, false, false, 0, [], none⟩,
       ⟨⟨(some 49), none, .mov (.tmp 8)⟩, true, false, false, 0, [], none⟩,
       ⟨⟨(some 50), none, .iaddr 2 (.tmp 48) (.tmp 49)⟩, true, false, false, 0, [], none⟩,
       ⟨⟨(some 51), none, .load true 2 (.tmp 50)⟩, false, false, false, 0, [], none⟩,
       ⟨⟨(some 52), none, .iaddr 2 (.tmp 36) (.tmp 37)⟩, true, false, false, 0, [], none⟩,
       ⟨⟨none, none, .store 2 (.tmp 52) (.tmp 47)⟩, false, true, false, 0, [], none⟩], 0, [⟨(some 53), none, .iaddr 2 (.tmp 38) (.tmp 41)⟩,
       ⟨none, none, .store 2 (.tmp 53) (.tmp 51)⟩]⟩])
     (.reg [⟨(some 54), none, .mov (.tmp 0)⟩,
       ⟨(some 55), none, .mov (.tmp 9)⟩,
       ⟨(some 56), none, .mov (.tmp 12)⟩,
       ⟨(some 57), none, .mov (.tmp 8)⟩,
       ⟨(some 58), none, .mov (.tmp 3)⟩,
       ⟨(some 59), none, .call 54 [(.tmp 54), (.tmp 55), (.tmp 56), (.tmp 57), (.tmp 58)]⟩])))
    (.reg [⟨(some 34), none, .mov (.tmp 12)⟩,
      ⟨(some 35), none, .bin .sub (.tmp 34) (.con (.int .i64 1))⟩,
      ⟨(some 12), none, .mov (.tmp 35)⟩]))))))))))
def g45 : Fn := ⟨4, 60, [], b45⟩
/- slices.breakPatternsCmpFunc[quiver/api.Hit] -/
def b46 : AC :=
  (.seq (.reg [⟨(some 13), none, .mov (.tmp 2)⟩,
    ⟨(some 14), none, .mov (.tmp 1)⟩,
    ⟨(some 15), none, .bin .sub (.tmp 13) (.tmp 14)⟩,
    ⟨(some 8), none, .mov (.tmp 15)⟩])
  (.seq (.reg [⟨(some 16), none, .mov (.tmp 8)⟩,
    ⟨(some 17), none, .bin .geq (.tmp 16) (.con (.int .i64 8))⟩])
  (.cond (.tmp 17)
   (.seq (.reg [⟨(some 18), none, .mov (.tmp 8)⟩,
     ⟨(some 19), none, .conv .u64 (.tmp 18)⟩,
     ⟨(some 9), none, .alloc (.int .u64 0)⟩,
     ⟨none, none, .store 1 (.tmp 9) (.tmp 19)⟩])
   (.seq (.reg [⟨(some 20), none, .mov (.tmp 8)⟩,
     ⟨(some 21), none, .call 55 [(.tmp 20)]⟩,
     ⟨(some 10), none, .mov (.tmp 21)⟩])
   (.seq (.reg [⟨(some 22), none, .mov (.tmp 1)⟩,
     ⟨(some 23), none, .mov (.tmp 8)⟩,
     ⟨(some 24), none, .bin .quo (.tmp 23) (.con (.int .i64 4))⟩,
     ⟨(some 25), none, .bin .mul (.tmp 24) (.con (.int .i64 2))⟩,
     ⟨(some 26), none, .bin .add (.tmp 22) (.tmp 25)⟩,
     ⟨(some 27), none, .bin .sub (.tmp 26) (.con (.int .i64 1))⟩,
     ⟨(some 11), none, .mov (.tmp 27)⟩])
   (.block 0 (.loop (.seq (.seq (.reg [⟨(some 28), none, .mov (.tmp 11)⟩,
       ⟨(some 29), none, .mov (.tmp 1)⟩,
       ⟨(some 30), none, .mov (.tmp 8)⟩,
       ⟨(some 31), none, .bin .quo (.tmp 30) (.con (.int .i64 4))⟩,
       ⟨(some 32), none, .bin .mul (.tmp 31) (.con (.int .i64 2))⟩,
       ⟨(some 33), none, .bin .add (.tmp 29) (.tmp 32)⟩,
       ⟨(some 34), none, .bin .add (.tmp 33) (.con (.int .i64 1))⟩,
       ⟨(some 35), none, .bin .leq (.tmp 28) (.tmp 34)⟩])
     (.cond (.tmp 35)
      .skip
      (.exit 0)))
     (.seq (.block 1 (.seq (.reg [⟨(some 38), none, .call 56 [(.tmp 9)]⟩,
        ⟨(some 39), none, .mov (.tmp 10)⟩,
        ⟨(some 40), none, .bin .sub (.tmp 39) (.con (.int .u64 1))⟩,
        ⟨(some 41), none, .bin .and (.tmp 38) (.tmp 40)⟩,
        ⟨(some 42), none, .conv .i64 (.tmp 41)⟩,
        ⟨(some 12), none, .mov (.tmp 42)⟩])
      (.seq (.seq (.reg [⟨(some 43), none, .mov (.tmp 12)⟩,
        ⟨(some 44), none, .mov (.tmp 8)⟩,
        ⟨(some 45), none, .bin .geq (.tmp 43) (.tmp 44)⟩])
      (.cond (.tmp 45)
       (.reg [⟨(some 46), none, .mov (.tmp 12)⟩,
         ⟨(some 47), none, .mov (.tmp 8)⟩,
         ⟨(some 48), none, .bin .sub (.tmp 46) (.tmp 47)⟩,
         ⟨(some 12), none, .mov (.tmp 48)⟩])
       .skip))
      (.regd [⟨[⟨⟨(some 49), none, .mov (.tmp 0)⟩, true, false, false, 0, [], none⟩,
        ⟨⟨(some 50), none, .mov (.tmp 11)⟩, true, false, false, 0, [], none⟩,
        ⟨⟨(some 51), none, .mov (.tmp 0)⟩, true, false, false, 0, [], none⟩,
        ⟨⟨(some 52), none, .mov (.tmp 1)⟩, true, false, false, 0, [], none⟩,
        ⟨⟨(some 53), none, .mov (.tmp 12)⟩, true, false, false, 0, [], none⟩,
        ⟨⟨(some 54), none, .bin .add (.tmp 52) (.tmp 53)⟩, true, false, false, 0, [], none⟩,
        ⟨⟨(some 55), none, .mov (.tmp 0)⟩, true, false, false, 0, [], none⟩,
        ⟨⟨(some 56), none, .mov (.tmp 1)⟩, true, false, false, 0, [], none⟩,
        ⟨⟨(some 57), none, .mov (.tmp 12)⟩, true, false, false, 0, [], none⟩,
        ⟨⟨(some 58), none, .bin .add (.tmp 56) (.tmp 57)⟩, true, false, false, 0, [], none⟩,
        ⟨⟨(some 59), none, .iaddr 2 (.tmp 55) (.tmp 58)⟩, true, false, false, 0, [], none⟩,
        ⟨⟨(some 60), none, .load true 2 (.tmp 59)⟩, false, false, false, 0, [], none⟩,
        ⟨⟨(some 61), none, .mov (.tmp 0)⟩, true, false, false, 0, [], none⟩,
        ⟨⟨(some 62), none, .mov (.tmp 11)⟩, true, false, false, 0, [], none⟩,
        ⟨⟨(some 63), none, .iaddr 2 (.tmp 61) (.tmp 62)⟩, true, false, false, 0, [], none⟩,
        ⟨⟨(some 64), none, .load true 2 (.tmp 63)⟩, false, false, false, 0, [], none⟩,
        ⟨⟨(some 65), none, .iaddr 2 (.tmp 49) (.tmp 50)⟩, true, false, false, 0, [], none⟩,
        ⟨⟨none, none, .store 2 (.tmp 65) (.tmp 60)⟩, false, true, false, 0, [], none⟩], 0, [⟨(some 66), none, .iaddr 2 (.tmp 51) (.tmp 54)⟩,
        ⟨none, none, .store 2 (.tmp 66) (.tmp 64)⟩]⟩]))))
     (.reg [⟨(some 36), none, .mov (.tmp 11)⟩,
       ⟨(some 37), none, .bin .add (.tmp 36) (.con (.int .i64 1))⟩,
       ⟨(some 11), none, .mov (.tmp 37)⟩]))))))))
   .skip)))
def g46 : Fn := ⟨4, 67, [], b46⟩
/- slices.choosePivotCmpFunc[quiver/api.Hit] -/
def b47 : AC :=
  (.seq (.reg [⟨(some 8), none, .mov (.con (.int .i64 0))⟩,
    ⟨(some 9), none, .mov (.con (.int .i64 0))⟩])
  (.seq (.reg [⟨(some 15), none, .mov (.tmp 2)⟩,
    ⟨(some 16), none, .mov (.tmp 1)⟩,
    ⟨(some 17), none, .bin .sub (.tmp 15) (.tmp 16)⟩,
    ⟨(some 10), none, .mov (.tmp 17)⟩])
  (.seq (.reg [⟨(some 11), none, .alloc (.int .i64 0)⟩])
  (.seq (.reg [⟨(some 18), none, .mov (.tmp 1)⟩,
    ⟨(some 19), none, .mov (.tmp 10)⟩,
    ⟨(some 20), none, .bin .quo (.tmp 19) (.con (.int .i64 4))⟩,
    ⟨(some 21), none, .bin .mul (.tmp 20) (.con (.int .i64 1))⟩,
    ⟨(some 22), none, .bin .add (.tmp 18) (.tmp 21)⟩,
    ⟨(some 12), none, .mov (.tmp 22)⟩])
  (.seq (.reg [⟨(some 23), none, .mov (.tmp 1)⟩,
    ⟨(some 24), none, .mov (.tmp 10)⟩,
    ⟨(some 25), none, .bin .quo (.tmp 24) (.con (.int .i64 4))⟩,
    ⟨(some 26), none, .bin .mul (.tmp 25) (.con (.int .i64 2))⟩,
    ⟨(some 27), none, .bin .add (.tmp 23) (.tmp 26)⟩,
    ⟨(some 13), none, .mov (.tmp 27)⟩])
  (.seq (.reg [⟨(some 28), none, .mov (.tmp 1)⟩,
    ⟨(some 29), none, .mov (.tmp 10)⟩,
    ⟨(some 30), none, .bin .quo (.tmp 29) (.con (.int .i64 4))⟩,
    ⟨(some 31), none, .bin .mul (.tmp 30) (.con (.int .i64 3))⟩,
    ⟨(some 32), none, .bin .add (.tmp 28) (.tmp 31)⟩,
    ⟨(some 14), none, .mov (.tmp 32)⟩])
  (.seq (.seq (.reg [⟨(some 33), none, .mov (.tmp 10)⟩,
    ⟨(some 34), none, .bin .geq (.tmp 33) (.con (.int .i64 8))⟩])
  (.cond (.tmp 34)
   (.seq (.seq (.reg [⟨(some 35), none, .mov (.tmp 10)⟩,
     ⟨(some 36), none, .bin .geq (.tmp 35) (.con (.int .i64 50))⟩])
   (.cond (.tmp 36)
    (.seq (.reg [⟨(some 37), none, .mov (.tmp 0)⟩,
      ⟨(some 38), none, .mov (.tmp 12)⟩,
      ⟨(some 39), none, .mov (.tmp 3)⟩,
      ⟨(some 40), none, .call 57 [(.tmp 37), (.tmp 38), (.tmp 11), (.tmp 39)]⟩,
      ⟨(some 12), none, .mov (.tmp 40)⟩])
    (.seq (.reg [⟨(some 41), none, .mov (.tmp 0)⟩,
      ⟨(some 42), none, .mov (.tmp 13)⟩,
      ⟨(some 43), none, .mov (.tmp 3)⟩,
      ⟨(some 44), none, .call 57 [(.tmp 41), (.tmp 42), (.tmp 11), (.tmp 43)]⟩,
      ⟨(some 13), none, .mov (.tmp 44)⟩])
    (.reg [⟨(some 45), none, .mov (.tmp 0)⟩,
      ⟨(some 46), none, .mov (.tmp 14)⟩,
      ⟨(some 47), none, .mov (.tmp 3)⟩,
      ⟨(some 48), none, .call 57 [(.tmp 45), (.tmp 46), (.tmp 11), (.tmp 47)]⟩,
      ⟨(some 14), none, .mov (.tmp 48)⟩])))
    .skip))
   (.reg [⟨(some 49), none, .mov (.tmp 0)⟩,
     ⟨(some 50), none, .mov (.tmp 12)⟩,
     ⟨(some 51), none, .mov (.tmp 13)⟩,
     ⟨(some 52), none, .mov (.tmp 14)⟩,
     ⟨(some 53), none, .mov (.tmp 3)⟩,
     ⟨(some 54), none, .call 58 [(.tmp 49), (.tmp 50), (.tmp 51), (.tmp 52), (.tmp 11), (.tmp 53)]⟩,
     ⟨(some 13), none, .mov (.tmp 54)⟩]))
   .skip))
  (.seq (.reg [⟨(some 55), none, .load false 1 (.tmp 11)⟩])
  (.block 0 (.seq (.reg [⟨(some 58), none, .bin .eql (.tmp 55) (.con (.int .i64 0))⟩,
     ⟨(some 57), none, .mov (.tmp 58)⟩])
   (.cond (.tmp 57)
    (.seq (.reg [⟨(some 59), none, .mov (.tmp 13)⟩,
      ⟨(some 8), none, .mov (.tmp 59)⟩,
      ⟨(some 9), none, .mov (.con (.int .i64 1))⟩])
    .ret)
    (.seq (.reg [⟨(some 61), none, .bin .eql (.tmp 55) (.con (.int .i64 12))⟩,
      ⟨(some 60), none, .mov (.tmp 61)⟩])
    (.cond (.tmp 60)
     (.seq (.reg [⟨(some 62), none, .mov (.tmp 13)⟩,
       ⟨(some 8), none, .mov (.tmp 62)⟩,
       ⟨(some 9), none, .mov (.con (.int .i64 2))⟩])
     .ret)
     (.seq (.reg [⟨(some 56), none, .mov (.tmp 13)⟩,
       ⟨(some 8), none, .mov (.tmp 56)⟩,
       ⟨(some 9), none, .mov (.con (.int .i64 0))⟩])
     .ret))))))))))))))
def g47 : Fn := ⟨4, 63, [.tmp 8, .tmp 9], b47⟩
/- slices.reverseRangeCmpFunc[quiver/api.Hit] -/
def b48 : AC :=
  (.seq (.reg [⟨(some 10), none, .mov (.tmp 1)⟩,
    ⟨(some 8), none, .mov (.tmp 10)⟩])
  (.seq (.reg [⟨(some 11), none, .mov (.tmp 2)⟩,
    ⟨(some 12), none, .bin .sub (.tmp 11) (.con (.int .i64 1))⟩,
    ⟨(some 9), none, .mov (.tmp 12)⟩])
  (.block 0 (.loop (.seq (.seq (.reg [⟨(some 13), none, .mov (.tmp 8)⟩,
      ⟨(some 14), none, .mov (.tmp 9)⟩,
      ⟨(some 15), none, .bin .lss (.tmp 13) (.tmp 14)⟩])
    (.cond (.tmp 15)
     .skip
     (.exit 0)))
    (.block 1 (.seq (.regd [⟨[⟨⟨(some 16), none, .mov (.tmp 0)⟩, true, false, false, 0, [], none⟩,
       ⟨⟨(some 17), none, .mov (.tmp 8)⟩, true, false, false, 0, [], none⟩,
       ⟨⟨(some 18), none, .mov (.tmp 0)⟩, true, false, false, 0, [], none⟩,
       ⟨⟨(some 19), none, .mov (.tmp 9)⟩, true, false, false, 0, [], none⟩,
       ⟨⟨(some 20), none, .mov (.tmp 0)⟩, true, false, false, 0, [], none⟩,
       ⟨⟨(some 21), none, .mov (.tmp 9)⟩, true, false, false, 0, [], none⟩,
       ⟨⟨(some 22), none, .iaddr 2 (.tmp 20) (.tmp 21)⟩, true, false, false, 0, [], none⟩,
       ⟨⟨(some 23), none, .load true 2 (.tmp 22)⟩, false, false, false, 0, [], none⟩,
       ⟨⟨(some 24), none, .mov (.tmp 0)⟩, true, false, false, 0, [], none⟩,
       ⟨⟨(some 25), none, .mov (.tmp 8)⟩, true, false, false, 0, [], none⟩,
       ⟨⟨(some 26), none, .iaddr 2 (.tmp 24) (.tmp 25)⟩, true, false, false, 0, [], none⟩,
       ⟨⟨(some 27), none, .load true 2 (.tmp 26)⟩, false, false, false, 0, [], none⟩,
       ⟨⟨(some 28), none, .iaddr 2 (.tmp 16) (.tmp 17)⟩, true, false, false, 0, [], none⟩,
       ⟨⟨none, none, .store 2 (.tmp 28) (.tmp 23)⟩, false, true, false, 0, [], none⟩], 0, [⟨(some 29), none, .iaddr 2 (.tmp 18) (.tmp 19)⟩,
       ⟨none, none, .store 2 (.tmp 29) (.tmp 27)⟩]⟩])
     (.seq (.reg [⟨(some 30), none, .mov (.tmp 8)⟩,
       ⟨(some 31), none, .bin .add (.tmp 30) (.con (.int .i64 1))⟩,
       ⟨(some 8), none, .mov (.tmp 31)⟩])
     (.reg [⟨(some 32), none, .mov (.tmp 9)⟩,
       ⟨(some 33), none, .bin .sub (.tmp 32) (.con (.int .i64 1))⟩,
       ⟨(some 9), none, .mov (.tmp 33)⟩])))))))))
def g48 : Fn := ⟨4, 34, [], b48⟩
/- slices.partialInsertionSortCmpFunc[quiver/api.Hit] -/
def b49 : AC :=
  (.seq (.reg [⟨(some 8), none, .mov (.con (.bool false))⟩])
  (.seq (.reg [⟨(some 13), none, .mov (.tmp 1)⟩,
    ⟨(some 14), none, .bin .add (.tmp 13) (.con (.int .i64 1))⟩,
    ⟨(some 9), none, .mov (.tmp 14)⟩])
  (.seq (.seq (.reg [⟨(some 10), none, .mov (.con (.int .i64 0))⟩])
  (.block 0 (.loop (.seq (.seq (.reg [⟨(some 15), none, .mov (.tmp 10)⟩,
      ⟨(some 16), none, .bin .lss (.tmp 15) (.con (.int .i64 5))⟩])
    (.cond (.tmp 16)
     .skip
     (.exit 0)))
    (.seq (.block 1 (.seq (.block 2 (.loop (.seq (.seq (.regd [⟨[⟨⟨(some 19), none, .mov (.tmp 9)⟩, true, false, false, 0, [], none⟩,
         ⟨⟨(some 20), none, .mov (.tmp 2)⟩, true, false, false, 0, [], none⟩], 0, [⟨(some 21), none, .bin .lss (.tmp 19) (.tmp 20)⟩,
         ⟨(some 22), none, .mov (.tmp 21)⟩]⟩,
        ⟨[⟨⟨(some 23), (some (22, true)), .mov (.tmp 3)⟩, true, false, false, 0, [], none⟩,
         ⟨⟨(some 24), (some (22, true)), .mov (.tmp 0)⟩, true, false, false, 0, [], none⟩,
         ⟨⟨(some 25), (some (22, true)), .mov (.tmp 9)⟩, true, false, false, 0, [], none⟩,
         ⟨⟨(some 26), (some (22, true)), .iaddr 2 (.tmp 24) (.tmp 25)⟩, true, false, false, 0, [], none⟩,
         ⟨⟨(some 27), (some (22, true)), .load true 2 (.tmp 26)⟩, false, false, false, 0, [], none⟩,
         ⟨⟨(some 28), (some (22, true)), .mov (.tmp 0)⟩, true, false, false, 0, [], none⟩,
         ⟨⟨(some 29), (some (22, true)), .mov (.tmp 9)⟩, true, false, false, 0, [], none⟩,
         ⟨⟨(some 30), (some (22, true)), .bin .sub (.tmp 29) (.con (.int .i64 1))⟩, true, false, false, 0, [], none⟩,
         ⟨⟨(some 31), (some (22, true)), .iaddr 2 (.tmp 28) (.tmp 30)⟩, true, false, false, 0, [], none⟩,
         ⟨⟨(some 32), (some (22, true)), .load true 2 (.tmp 31)⟩, false, false, false, 0, [], none⟩], 0, [⟨(some 33), (some (22, true)), .callv (.tmp 23) [(.tmp 27), (.tmp 32)]⟩,
         ⟨(some 34), (some (22, true)), .bin .lss (.tmp 33) (.con (.int .i64 0))⟩,
         ⟨(some 35), (some (22, true)), .un .not (.tmp 34)⟩,
         ⟨(some 36), none, .pick (.tmp 22) (.tmp 35) (.con (.bool false))⟩]⟩])
       (.cond (.tmp 36)
        .skip
        (.exit 2)))
       (.block 3 (.reg [⟨(some 37), none, .mov (.tmp 9)⟩,
          ⟨(some 38), none, .bin .add (.tmp 37) (.con (.int .i64 1))⟩,
          ⟨(some 9), none, .mov (.tmp 38)⟩])))))
     (.seq (.seq (.reg [⟨(some 39), none, .mov (.tmp 9)⟩,
       ⟨(some 40), none, .mov (.tmp 2)⟩,
       ⟨(some 41), none, .bin .eql (.tmp 39) (.tmp 40)⟩])
     (.cond (.tmp 41)
      (.seq (.reg [⟨(some 8), none, .mov (.con (.bool true))⟩])
      .ret)
      .skip))
     (.seq (.seq (.reg [⟨(some 42), none, .mov (.tmp 2)⟩,
       ⟨(some 43), none, .mov (.tmp 1)⟩,
       ⟨(some 44), none, .bin .sub (.tmp 42) (.tmp 43)⟩,
       ⟨(some 45), none, .bin .lss (.tmp 44) (.con (.int .i64 50))⟩])
     (.cond (.tmp 45)
      (.seq (.reg [⟨(some 8), none, .mov (.con (.bool false))⟩])
      .ret)
      .skip))
     (.seq (.regd [⟨[⟨⟨(some 46), none, .mov (.tmp 0)⟩, true, false, false, 0, [], none⟩,
       ⟨⟨(some 47), none, .mov (.tmp 9)⟩, true, false, false, 0, [], none⟩,
       ⟨⟨(some 48), none, .mov (.tmp 0)⟩, true, false, false, 0, [], none⟩,
       ⟨⟨(some 49), none, .mov (.tmp 9)⟩, true, false, false, 0, [], none⟩,
       ⟨⟨(some 50), none, .bin .sub (.tmp 49) (.con (.int .i64 1))⟩, true, false, false, 0, [], none⟩,
       ⟨⟨(some 51), none, .mov (.tmp 0)⟩, true, false, false, 0, [], none⟩,
       ⟨⟨(some 52), none, .mov (.tmp 9)⟩, true, false, false, 0, [], none⟩,
       ⟨⟨(some 53), none, .bin .sub (.tmp 52) (.con (.int .i64 1))⟩, true, false, false, 0, [], none⟩,
       ⟨⟨(some 54), none, .iaddr 2 (.tmp 51) (.tmp 53)⟩, true, false, false, 0, [], none⟩,
       ⟨⟨(some 55), none, .load true 2 (.tmp 54)⟩, false, false, false, 0, [], none⟩,
       ⟨⟨(some 56), none, .mov (.tmp 0)⟩, true, false, false, 0, [], none⟩,
       ⟨⟨(some 57), none, .mov (.tmp 9)⟩, true, false, false, 0, [], none⟩,
       ⟨⟨(some 58), none, .iaddr 2 (.tmp 56) (.tmp 57)⟩, true, false, false, 0, [], none⟩,
       ⟨⟨(some 59), none, .load true 2 (.tmp 58)⟩, false, false, false, 0, [], none⟩,
       ⟨⟨(some 60), none, .iaddr 2 (.tmp 46) (.tmp 47)⟩, true, false, false, 0, [], none⟩,
       ⟨⟨none, none, .store 2 (.tmp 60) (.tmp 55)⟩, false, true, false, 0, [], none⟩], 0, [⟨(some 61), none, .iaddr 2 (.tmp 48) (.tmp 50)⟩,
       ⟨none, none, .store 2 (.tmp 61) (.tmp 59)⟩]⟩])
     (.seq (.seq (.reg [⟨(some 62), none, .mov (.tmp 9)⟩,
       ⟨(some 63), none, .mov (.tmp 1)⟩,
       ⟨(some 64), none, .bin .sub (.tmp 62) (.tmp 63)⟩,
       ⟨(some 65), none, .bin .geq (.tmp 64) (.con (.int .i64 2))⟩])
     (.cond (.tmp 65)
      (.seq (.reg [⟨(some 66), none, .mov (.tmp 9)⟩,
        ⟨(some 67), none, .bin .sub (.tmp 66) (.con (.int .i64 1))⟩,
        ⟨(some 11), none, .mov (.tmp 67)⟩])
      (.block 4 (.loop (.seq (.seq (.reg [⟨(some 68), none, .mov (.tmp 11)⟩,
          ⟨(some 69), none, .bin .geq (.tmp 68) (.con (.int .i64 1))⟩])
        (.cond (.tmp 69)
         .skip
         (.exit 4)))
        (.seq (.block 5 (.seq (.seq (.regd [⟨[⟨⟨(some 72), none, .mov (.tmp 3)⟩, true, false, false, 0, [], none⟩,
           ⟨⟨(some 73), none, .mov (.tmp 0)⟩, true, false, false, 0, [], none⟩,
           ⟨⟨(some 74), none, .mov (.tmp 11)⟩, true, false, false, 0, [], none⟩,
           ⟨⟨(some 75), none, .iaddr 2 (.tmp 73) (.tmp 74)⟩, true, false, false, 0, [], none⟩,
           ⟨⟨(some 76), none, .load true 2 (.tmp 75)⟩, false, false, false, 0, [], none⟩,
           ⟨⟨(some 77), none, .mov (.tmp 0)⟩, true, false, false, 0, [], none⟩,
           ⟨⟨(some 78), none, .mov (.tmp 11)⟩, true, false, false, 0, [], none⟩,
           ⟨⟨(some 79), none, .bin .sub (.tmp 78) (.con (.int .i64 1))⟩, true, false, false, 0, [], none⟩,
           ⟨⟨(some 80), none, .iaddr 2 (.tmp 77) (.tmp 79)⟩, true, false, false, 0, [], none⟩,
           ⟨⟨(some 81), none, .load true 2 (.tmp 80)⟩, false, false, false, 0, [], none⟩], 0, [⟨(some 82), none, .callv (.tmp 72) [(.tmp 76), (.tmp 81)]⟩,
           ⟨(some 83), none, .bin .lss (.tmp 82) (.con (.int .i64 0))⟩,
           ⟨(some 84), none, .un .not (.tmp 83)⟩]⟩])
         (.cond (.tmp 84)
          (.exit 4)
          .skip))
         (.regd [⟨[⟨⟨(some 85), none, .mov (.tmp 0)⟩, true, false, false, 0, [], none⟩,
           ⟨⟨(some 86), none, .mov (.tmp 11)⟩, true, false, false, 0, [], none⟩,
           ⟨⟨(some 87), none, .mov (.tmp 0)⟩, true, false, false, 0, [], none⟩,
           ⟨⟨(some 88), none, .mov (.tmp 11)⟩, true, false, false, 0, [], none⟩,
           ⟨⟨(some 89), none, .bin .sub (.tmp 88) (.con (.int .i64 1))⟩, true, false, false, 0, [], none⟩,
           ⟨⟨(some 90), none, .mov (.tmp 0)⟩, true, false, false, 0, [], none⟩,
           ⟨⟨(some 91), none, .mov (.tmp 11)⟩, true, false, false, 0, [], none⟩,
           ⟨⟨(some 92), none, .bin .sub (.tmp 91) (.con (.int .i64 1))⟩, true, false, false, 0, [], none⟩,
           ⟨⟨(some 93), none, .iaddr 2 (.tmp 90) (.tmp 92)⟩, true, false, false, 0, [], none⟩,
           ⟨⟨(some 94), none, .load true 2 (.tmp 93)⟩, false, false, false, 0, [], none⟩,
           ⟨⟨(some 95), none, .mov (.tmp 0)⟩, true, false, false, 0, [], none⟩,
           ⟨⟨(some 96), none, .mov (.tmp 11)⟩, true, false, false, 0, [], none⟩,
           ⟨⟨(some 97), none, .iaddr 2 (.tmp 95) (.tmp 96)⟩, true, false, false, 0, [], none⟩,
           ⟨⟨(some 98), none, .load true 2 (.tmp 97)⟩, false, false, false, 0, [], none⟩,
           ⟨⟨(some 99), none, .iaddr 2 (.tmp 85) (.tmp 86)⟩, true, false, false, 0, [], none⟩,
           ⟨⟨none, none, .store 2 (.tmp 99) (.tmp 94)⟩, false, true, false, 0, [], none⟩], 0, [⟨(some 100), none, .iaddr 2 (.tmp 87) (.tmp 89)⟩,
           ⟨none, none, .store 2 (.tmp 100) (.tmp 98)⟩]⟩])))
        (.reg [⟨(some 70), none, .mov (.tmp 11)⟩,
          ⟨(some 71), none, .bin .sub (.tmp 70) (.con (.int .i64 1))⟩,
          ⟨(some 11), none, .mov (.tmp 71)⟩]))))))
      .skip))
     (.seq (.reg [⟨(some 101), none, .mov (.tmp 2)⟩,
       ⟨(some 102), none, .mov (.tmp 9)⟩,
       ⟨(some 103), none, .bin .sub (.tmp 101) (.tmp 102)⟩,
       ⟨(some 104), none, .bin .geq (.tmp 103) (.con (.int .i64 2))⟩])
     (.cond (.tmp 104)
      (.seq (.reg [⟨(some 105), none, .mov (.tmp 9)⟩,
        ⟨(some 106), none, .bin .add (.tmp 105) (.con (.int .i64 1))⟩,
        ⟨(some 12), none, .mov (.tmp 106)⟩])
      (.block 6 (.loop (.seq (.seq (.reg [⟨(some 107), none, .mov (.tmp 12)⟩,
          ⟨(some 108), none, .mov (.tmp 2)⟩,
          ⟨(some 109), none, .bin .lss (.tmp 107) (.tmp 108)⟩])
        (.cond (.tmp 109)
         .skip
         (.exit 6)))
        (.seq (.block 7 (.seq (.seq (.regd [⟨[⟨⟨(some 112), none, .mov (.tmp 3)⟩, true, false, false, 0, [], none⟩,
           ⟨⟨(some 113), none, .mov (.tmp 0)⟩, true, false, false, 0, [], none⟩,
           ⟨⟨(some 114), none, .mov (.tmp 12)⟩, true, false, false, 0, [], none⟩,
           ⟨⟨(some 115), none, .iaddr 2 (.tmp 113) (.tmp 114)⟩, true, false, false, 0, [], none⟩,
           ⟨⟨(some 116), none, .load true 2 (.tmp 115)⟩, false, false, false, 0, [], none⟩,
           ⟨⟨(some 117), none, .mov (.tmp 0)⟩, true, false, false, 0, [], none⟩,
           ⟨⟨(some 118), none, .mov (.tmp 12)⟩, true, false, false, 0, [], none⟩,
           ⟨⟨(some 119), none, .bin .sub (.tmp 118) (.con (.int .i64 1))⟩, true, false, false, 0, [], none⟩,
           ⟨⟨(some 120), none, .iaddr 2 (.tmp 117) (.tmp 119)⟩, true, false, false, 0, [], none⟩,
           ⟨⟨(some 121), none, .load true 2 (.tmp 120)⟩, false, false, false, 0, [], none⟩], 0, [⟨(some 122), none, .callv (.tmp 112) [(.tmp 116), (.tmp 121)]⟩,
           ⟨(some 123), none, .bin .lss (.tmp 122) (.con (.int .i64 0))⟩,
           ⟨(some 124), none, .un .not (.tmp 123)⟩]⟩])
         (.cond (.tmp 124)
          (.exit 6)
          .skip))
         (.regd [⟨[⟨⟨(some 125), none, .mov (.tmp 0)⟩, true, false, false, 0, [], none⟩,
           ⟨⟨(some 126), none, .mov (.tmp 12)⟩, true, false, false, 0, [], none⟩,
           ⟨⟨(some 127), none, .mov (.tmp 0)⟩, true, false, false, 0, [], none⟩,
           ⟨⟨(some 128), none, .mov (.tmp 12)⟩, true, false, false, 0, [], none⟩,
           ⟨⟨(some 129), none, .bin .sub (.tmp 128) (.con (.int .i64 1))⟩, true, false, false, 0, [], none⟩,
           ⟨⟨(some 130), none, .mov (.tmp 0)⟩, true, false, false, 0, [], none⟩,
           ⟨⟨(some 131), none, .mov (.tmp 12)⟩, true, false, false, 0, [], none⟩,
           ⟨⟨(some 132), none, .bin .sub (.tmp 131) (.con (.int .i64 1))⟩, true, false, false, 0, [], none⟩,
           ⟨⟨(some 133), none, .iaddr 2 (.tmp 130) (.tmp 132)⟩, true, false, false, 0, [], none⟩,
           ⟨⟨(some 134), none, .load true 2 (.tmp 133)⟩, false, false, false, 0, [], none⟩,
           ⟨⟨(some 135), none, .mov (.tmp 0)⟩, true, false, false, 0, [], none⟩,
           ⟨⟨(some 136), none, .mov (.tmp 12)⟩, true, false, false, 0, [], none⟩,
           ⟨⟨(some 137), none, .iaddr 2 (.tmp 135) (.tmp 136)⟩, true, false, false, 0, [], none⟩,
           ⟨⟨(some 138), none, .load true 2 (.tmp 137)⟩, false, false, false, 0, [], none⟩,
           ⟨⟨(some 139), none, .iaddr 2 (.tmp 125) (.tmp 126)⟩, true, false, false, 0, [], none⟩,
           ⟨⟨none, none, .store 2 (.tmp 139) (.tmp 134)⟩, false, true, false, 0, [], none⟩], 0, [⟨(some 140), none, .iaddr 2 (.tmp 127) (.tmp 129)⟩,
           ⟨none, none, .store 2 (.tmp 140) (.tmp 138)⟩]⟩])))
        (.reg [⟨(some 110), none, .mov (.tmp 12)⟩,
          ⟨(some 111), none, .bin .add (.tmp 110) (.con (.int .i64 1))⟩,
          ⟨(some 12), none, .mov (.tmp 111)⟩]))))))
      .skip))))))))
    (.reg [⟨(some 17), none, .mov (.tmp 10)⟩,
      ⟨(some 18), none, .bin .add (.tmp 17) (.con (.int .i64 1))⟩,
      ⟨(some 10), none, .mov (.tmp 18)⟩]))))))
  (.seq (.reg [⟨(some 8), none, .mov (.con (.bool false))⟩])
  .ret))))
def g49 : Fn := ⟨4, 141, [.tmp 8], b49⟩
/- slices.partitionEqualCmpFunc[quiver/api.Hit] -/
def b50 : AC :=
  (.seq (.reg [⟨(some 10), none, .mov (.con (.int .i64 0))⟩])
  (.seq (.regd [⟨[⟨⟨(some 13), none, .mov (.tmp 0)⟩, true, false, false, 0, [], none⟩,
    ⟨⟨(some 14), none, .mov (.tmp 1)⟩, true, false, false, 0, [], none⟩,
    ⟨⟨(some 15), none, .mov (.tmp 0)⟩, true, false, false, 0, [], none⟩,
    ⟨⟨(some 16), none, .mov (.tmp 3)⟩, true, false, false, 0, [], none⟩,
    ⟨⟨(some 17), none, .mov (.tmp 0)⟩, true, false, false, 0, [], none⟩,
    ⟨⟨(some 18), none, .mov (.tmp 3)⟩, true, false, false, 0, [], none⟩,
    ⟨⟨(some 19), none, .iaddr 2 (.tmp 17) (.tmp 18)⟩, true, false, false, 0, [], none⟩,
    ⟨⟨(some 20), none, .load true 2 (.tmp 19)⟩, false, false, false, 0, [], none⟩,
    ⟨⟨(some 21), none, .mov (.tmp 0)⟩, true, false, false, 0, [], none⟩,
    ⟨⟨(some 22), none, .mov (.tmp 1)⟩, true, false, false, 0, [], none⟩,
    ⟨⟨(some 23), none, .iaddr 2 (.tmp 21) (.tmp 22)⟩, true, false, false, 0, [], none⟩,
    ⟨⟨(some 24), none, .load true 2 (.tmp 23)⟩, false, false, false, 0, [], none⟩,
    ⟨⟨(some 25), none, .iaddr 2 (.tmp 13) (.tmp 14)⟩, true, false, false, 0, [], none⟩,
    ⟨⟨none, none, .store 2 (.tmp 25) (.tmp 20)⟩, false, true, false, 0, [], none⟩], 0, [⟨(some 26), none, .iaddr 2 (.tmp 15) (.tmp 16)⟩,
    ⟨none, none, .store 2 (.tmp 26) (.tmp 24)⟩]⟩])
  (.seq (.reg [⟨(some 27), none, .mov (.tmp 1)⟩,
    ⟨(some 28), none, .bin .add (.tmp 27) (.con (.int .i64 1))⟩,
    ⟨(some 29), none, .mov (.tmp 2)⟩,
    ⟨(some 30), none, .bin .sub (.tmp 29) (.con (.int .i64 1))⟩,
    ⟨(some 11), none, .mov (.tmp 28)⟩,
    ⟨(some 12), none, .mov (.tmp 30)⟩])
  (.seq (.block 0 (.loop (.block 1 (.seq (.block 2 (.loop (.seq (.seq (.regd [⟨[⟨⟨(some 31), none, .mov (.tmp 11)⟩, true, false, false, 0, [], none⟩,
         ⟨⟨(some 32), none, .mov (.tmp 12)⟩, true, false, false, 0, [], none⟩], 0, [⟨(some 33), none, .bin .leq (.tmp 31) (.tmp 32)⟩,
         ⟨(some 34), none, .mov (.tmp 33)⟩]⟩,
        ⟨[⟨⟨(some 35), (some (34, true)), .mov (.tmp 4)⟩, true, false, false, 0, [], none⟩,
         ⟨⟨(some 36), (some (34, true)), .mov (.tmp 0)⟩, true, false, false, 0, [], none⟩,
         ⟨⟨(some 37), (some (34, true)), .mov (.tmp 1)⟩, true, false, false, 0, [], none⟩,
         ⟨⟨(some 38), (some (34, true)), .iaddr 2 (.tmp 36) (.tmp 37)⟩, true, false, false, 0, [], none⟩,
         ⟨⟨(some 39), (some (34, true)), .load true 2 (.tmp 38)⟩, false, false, false, 0, [], none⟩,
         ⟨⟨(some 40), (some (34, true)), .mov (.tmp 0)⟩, true, false, false, 0, [], none⟩,
         ⟨⟨(some 41), (some (34, true)), .mov (.tmp 11)⟩, true, false, false, 0, [], none⟩,
         ⟨⟨(some 42), (some (34, true)), .iaddr 2 (.tmp 40) (.tmp 41)⟩, true, false, false, 0, [], none⟩,
         ⟨⟨(some 43), (some (34, true)), .load true 2 (.tmp 42)⟩, false, false, false, 0, [], none⟩], 0, [⟨(some 44), (some (34, true)), .callv (.tmp 35) [(.tmp 39), (.tmp 43)]⟩,
         ⟨(some 45), (some (34, true)), .bin .lss (.tmp 44) (.con (.int .i64 0))⟩,
         ⟨(some 46), (some (34, true)), .un .not (.tmp 45)⟩,
         ⟨(some 47), none, .pick (.tmp 34) (.tmp 46) (.con (.bool false))⟩]⟩])
       (.cond (.tmp 47)
        .skip
        (.exit 2)))
       (.block 3 (.reg [⟨(some 48), none, .mov (.tmp 11)⟩,
          ⟨(some 49), none, .bin .add (.tmp 48) (.con (.int .i64 1))⟩,
          ⟨(some 11), none, .mov (.tmp 49)⟩])))))
     (.seq (.block 4 (.loop (.seq (.seq (.regd [⟨[⟨⟨(some 50), none, .mov (.tmp 11)⟩, true, false, false, 0, [], none⟩,
         ⟨⟨(some 51), none, .mov (.tmp 12)⟩, true, false, false, 0, [], none⟩], 0, [⟨(some 52), none, .bin .leq (.tmp 50) (.tmp 51)⟩,
         ⟨(some 53), none, .mov (.tmp 52)⟩]⟩,
        ⟨[⟨⟨(some 54), (some (53, true)), .mov (.tmp 4)⟩, true, false, false, 0, [], none⟩,
         ⟨⟨(some 55), (some (53, true)), .mov (.tmp 0)⟩, true, false, false, 0, [], none⟩,
         ⟨⟨(some 56), (some (53, true)), .mov (.tmp 1)⟩, true, false, false, 0, [], none⟩,
         ⟨⟨(some 57), (some (53, true)), .iaddr 2 (.tmp 55) (.tmp 56)⟩, true, false, false, 0, [], none⟩,
         ⟨⟨(some 58), (some (53, true)), .load true 2 (.tmp 57)⟩, false, false, false, 0, [], none⟩,
         ⟨⟨(some 59), (some (53, true)), .mov (.tmp 0)⟩, true, false, false, 0, [], none⟩,
         ⟨⟨(some 60), (some (53, true)), .mov (.tmp 12)⟩, true, false, false, 0, [], none⟩,
         ⟨⟨(some 61), (some (53, true)), .iaddr 2 (.tmp 59) (.tmp 60)⟩, true, false, false, 0, [], none⟩,
         ⟨⟨(some 62), (some (53, true)), .load true 2 (.tmp 61)⟩, false, false, false, 0, [], none⟩], 0, [⟨(some 63), (some (53, true)), .callv (.tmp 54) [(.tmp 58), (.tmp 62)]⟩,
         ⟨(some 64), (some (53, true)), .bin .lss (.tmp 63) (.con (.int .i64 0))⟩,
         ⟨(some 65), none, .pick (.tmp 53) (.tmp 64) (.con (.bool false))⟩]⟩])
       (.cond (.tmp 65)
        .skip
        (.exit 4)))
       (.block 5 (.reg [⟨(some 66), none, .mov (.tmp 12)⟩,
          ⟨(some 67), none, .bin .sub (.tmp 66) (.con (.int .i64 1))⟩,
          ⟨(some 12), none, .mov (.tmp 67)⟩])))))
     (.seq (.seq (.reg [⟨(some 68), none, .mov (.tmp 11)⟩,
       ⟨(some 69), none, .mov (.tmp 12)⟩,
       ⟨(some 70), none, .bin .gtr (.tmp 68) (.tmp 69)⟩])
     (.cond (.tmp 70)
      (.exit 0)
      .skip))
     (.seq (.regd [⟨[⟨⟨(some 71), none, .mov (.tmp 0)⟩, true, false, false, 0, [], none⟩,
       ⟨⟨(some 72), none, .mov (.tmp 11)⟩, true, false, false, 0, [], none⟩,
       ⟨⟨(some 73), none, .mov (.tmp 0)⟩, true, false, false, 0, [], none⟩,
       ⟨⟨(some 74), none, .mov (.tmp 12)⟩, true, false, false, 0, [], none⟩,
       ⟨⟨(some 75), none, .mov (.tmp 0)⟩, true, false, false, 0, [], none⟩,
       ⟨⟨(some 76), none, .mov (.tmp 12)⟩, true, false, false, 0, [], none⟩,
       ⟨⟨(some 77), none, .iaddr 2 (.tmp 75) (.tmp 76)⟩, true, false, false, 0, [], none⟩,
       ⟨⟨(some 78), none, .load true 2 (.tmp 77)⟩, false, false, false, 0, [], none⟩,
       ⟨⟨(some 79), none, .mov (.tmp 0)⟩, true, false, false, 0, [], none⟩,
       ⟨⟨(some 80), none, .mov (.tmp 11)⟩, true, false, false, 0, [], none⟩,
       ⟨⟨(some 81), none, .iaddr 2 (.tmp 79) (.tmp 80)⟩, true, false, false, 0, [], none⟩,
       ⟨⟨(some 82), none, .load true 2 (.tmp 81)⟩, false, false, false, 0, [], none⟩,
       ⟨⟨(some 83), none, .iaddr 2 (.tmp 71) (.tmp 72)⟩, true, false, false, 0, [], none⟩,
       ⟨⟨none, none, .store 2 (.tmp 83) (.tmp 78)⟩, false, true, false, 0, [], none⟩], 0, [⟨(some 84), none, .iaddr 2 (.tmp 73) (.tmp 74)⟩,
       ⟨none, none, .store 2 (.tmp 84) (.tmp 82)⟩]⟩])
     (.seq (.reg [⟨(some 85), none, .mov (.tmp 11)⟩,
       ⟨(some 86), none, .bin .add (.tmp 85) (.con (.int .i64 1))⟩,
       ⟨(some 11), none, .mov (.tmp 86)⟩])
     (.reg [⟨(some 87), none, .mov (.tmp 12)⟩,
       ⟨(some 88), none, .bin .sub (.tmp 87) (.con (.int .i64 1))⟩,
       ⟨(some 12), none, .mov (.tmp 88)⟩])))))))))
  (.seq (.reg [⟨(some 89), none, .mov (.tmp 11)⟩,
    ⟨(some 10), none, .mov (.tmp 89)⟩])
  .ret)))))
def g50 : Fn := ⟨5, 90, [.tmp 10], b50⟩
/- slices.partitionCmpFunc[quiver/api.Hit] -/
def b51 : AC :=
  (.seq (.reg [⟨(some 10), none, .mov (.con (.int .i64 0))⟩,
    ⟨(some 11), none, .mov (.con (.bool false))⟩])
  (.seq (.regd [⟨[⟨⟨(some 14), none, .mov (.tmp 0)⟩, true, false, false, 0, [], none⟩,
    ⟨⟨(some 15), none, .mov (.tmp 1)⟩, true, false, false, 0, [], none⟩,
    ⟨⟨(some 16), none, .mov (.tmp 0)⟩, true, false, false, 0, [], none⟩,
    ⟨⟨(some 17), none, .mov (.tmp 3)⟩, true, false, false, 0, [], none⟩,
    ⟨⟨(some 18), none, .mov (.tmp 0)⟩, true, false, false, 0, [], none⟩,
    ⟨⟨(some 19), none, .mov (.tmp 3)⟩, true, false, false, 0, [], none⟩,
    ⟨⟨(some 20), none, .iaddr 2 (.tmp 18) (.tmp 19)⟩, true, false, false, 0, [], none⟩,
    ⟨⟨(some 21), none, .load true 2 (.tmp 20)⟩, false, false, false, 0, [], none⟩,
    ⟨⟨(some 22), none, .mov (.tmp 0)⟩, true, false, false, 0, [], none⟩,
    ⟨⟨(some 23), none, .mov (.tmp 1)⟩, true, false, false, 0, [], none⟩,
    ⟨⟨(some 24), none, .iaddr 2 (.tmp 22) (.tmp 23)⟩, true, false, false, 0, [], none⟩,
    ⟨⟨(some 25), none, .load true 2 (.tmp 24)⟩, false, false, false, 0, [], none⟩,
    ⟨⟨(some 26), none, .iaddr 2 (.tmp 14) (.tmp 15)⟩, true, false, false, 0, [], none⟩,
    ⟨⟨none, none, .store 2 (.tmp 26) (.tmp 21)⟩, false, true, false, 0, [], none⟩], 0, [⟨(some 27), none, .iaddr 2 (.tmp 16) (.tmp 17)⟩,
    ⟨none, none, .store 2 (.tmp 27) (.tmp 25)⟩]⟩])
  (.seq (.reg [⟨(some 28), none, .mov (.tmp 1)⟩,
    ⟨(some 29), none, .bin .add (.tmp 28) (.con (.int .i64 1))⟩,
    ⟨(some 30), none, .mov (.tmp 2)⟩,
    ⟨(some 31), none, .bin .sub (.tmp 30) (.con (.int .i64 1))⟩,
    ⟨(some 12), none, .mov (.tmp 29)⟩,
    ⟨(some 13), none, .mov (.tmp 31)⟩])
  (.seq (.block 0 (.loop (.seq (.seq (.regd [⟨[⟨⟨(some 32), none, .mov (.tmp 12)⟩, true, false, false, 0, [], none⟩,
      ⟨⟨(some 33), none, .mov (.tmp 13)⟩, true, false, false, 0, [], none⟩], 0, [⟨(some 34), none, .bin .leq (.tmp 32) (.tmp 33)⟩,
      ⟨(some 35), none, .mov (.tmp 34)⟩]⟩,
     ⟨[⟨⟨(some 36), (some (35, true)), .mov (.tmp 4)⟩, true, false, false, 0, [], none⟩,
      ⟨⟨(some 37), (some (35, true)), .mov (.tmp 0)⟩, true, false, false, 0, [], none⟩,
      ⟨⟨(some 38), (some (35, true)), .mov (.tmp 12)⟩, true, false, false, 0, [], none⟩,
      ⟨⟨(some 39), (some (35, true)), .iaddr 2 (.tmp 37) (.tmp 38)⟩, true, false, false, 0, [], none⟩,
      ⟨⟨(some 40), (some (35, true)), .load true 2 (.tmp 39)⟩, false, false, false, 0, [], none⟩,
      ⟨⟨(some 41), (some (35, true)), .mov (.tmp 0)⟩, true, false, false, 0, [], none⟩,
      ⟨⟨(some 42), (some (35, true)), .mov (.tmp 1)⟩, true, false, false, 0, [], none⟩,
      ⟨⟨(some 43), (some (35, true)), .iaddr 2 (.tmp 41) (.tmp 42)⟩, true, false, false, 0, [], none⟩,
      ⟨⟨(some 44), (some (35, true)), .load true 2 (.tmp 43)⟩, false, false, false, 0, [], none⟩], 0, [⟨(some 45), (some (35, true)), .callv (.tmp 36) [(.tmp 40), (.tmp 44)]⟩,
      ⟨(some 46), (some (35, true)), .bin .lss (.tmp 45) (.con (.int .i64 0))⟩,
      ⟨(some 47), none, .pick (.tmp 35) (.tmp 46) (.con (.bool false))⟩]⟩])
    (.cond (.tmp 47)
     .skip
     (.exit 0)))
    (.block 1 (.reg [⟨(some 48), none, .mov (.tmp 12)⟩,
       ⟨(some 49), none, .bin .add (.tmp 48) (.con (.int .i64 1))⟩,
       ⟨(some 12), none, .mov (.tmp 49)⟩])))))
  (.seq (.block 2 (.loop (.seq (.seq (.regd [⟨[⟨⟨(some 50), none, .mov (.tmp 12)⟩, true, false, false, 0, [], none⟩,
      ⟨⟨(some 51), none, .mov (.tmp 13)⟩, true, false, false, 0, [], none⟩], 0, [⟨(some 52), none, .bin .leq (.tmp 50) (.tmp 51)⟩,
      ⟨(some 53), none, .mov (.tmp 52)⟩]⟩,
     ⟨[⟨⟨(some 54), (some (53, true)), .mov (.tmp 4)⟩, true, false, false, 0, [], none⟩,
      ⟨⟨(some 55), (some (53, true)), .mov (.tmp 0)⟩, true, false, false, 0, [], none⟩,
      ⟨⟨(some 56), (some (53, true)), .mov (.tmp 13)⟩, true, false, false, 0, [], none⟩,
      ⟨⟨(some 57), (some (53, true)), .iaddr 2 (.tmp 55) (.tmp 56)⟩, true, false, false, 0, [], none⟩,
      ⟨⟨(some 58), (some (53, true)), .load true 2 (.tmp 57)⟩, false, false, false, 0, [], none⟩,
      ⟨⟨(some 59), (some (53, true)), .mov (.tmp 0)⟩, true, false, false, 0, [], none⟩,
      ⟨⟨(some 60), (some (53, true)), .mov (.tmp 1)⟩, true, false, false, 0, [], none⟩,
      ⟨⟨(some 61), (some (53, true)), .iaddr 2 (.tmp 59) (.tmp 60)⟩, true, false, false, 0, [], none⟩,
      ⟨⟨(some 62), (some (53, true)), .load true 2 (.tmp 61)⟩, false, false, false, 0, [], none⟩], 0, [⟨(some 63), (some (53, true)), .callv (.tmp 54) [(.tmp 58), (.tmp 62)]⟩,
      ⟨(some 64), (some (53, true)), .bin .lss (.tmp 63) (.con (.int .i64 0))⟩,
      ⟨(some 65), (some (53, true)), .un .not (.tmp 64)⟩,
      ⟨(some 66), none, .pick (.tmp 53) (.tmp 65) (.con (.bool false))⟩]⟩])
    (.cond (.tmp 66)
     .skip
     (.exit 2)))
    (.block 3 (.reg [⟨(some 67), none, .mov (.tmp 13)⟩,
       ⟨(some 68), none, .bin .sub (.tmp 67) (.con (.int .i64 1))⟩,
       ⟨(some 13), none, .mov (.tmp 68)⟩])))))
  (.seq (.seq (.reg [⟨(some 69), none, .mov (.tmp 12)⟩,
    ⟨(some 70), none, .mov (.tmp 13)⟩,
    ⟨(some 71), none, .bin .gtr (.tmp 69) (.tmp 70)⟩])
  (.cond (.tmp 71)
   (.seq (.regd [⟨[⟨⟨(some 72), none, .mov (.tmp 0)⟩, true, false, false, 0, [], none⟩,
     ⟨⟨(some 73), none, .mov (.tmp 13)⟩, true, false, false, 0, [], none⟩,
     ⟨⟨(some 74), none, .mov (.tmp 0)⟩, true, false, false, 0, [], none⟩,
     ⟨⟨(some 75), none, .mov (.tmp 1)⟩, true, false, false, 0, [], none⟩,
     ⟨⟨(some 76), none, .mov (.tmp 0)⟩, true, false, false, 0, [], none⟩,
     ⟨⟨(some 77), none, .mov (.tmp 1)⟩, true, false, false, 0, [], none⟩,
     ⟨⟨(some 78), none, .iaddr 2 (.tmp 76) (.tmp 77)⟩, true, false, false, 0, [], none⟩,
     ⟨⟨(some 79), none, .load true 2 (.tmp 78)⟩, false, false, false, 0, [], none⟩,
     ⟨⟨(some 80), none, .mov (.tmp 0)⟩, true, false, false, 0, [], none⟩,
     ⟨⟨(some 81), none, .mov (.tmp 13)⟩, true, false, false, 0, [], none⟩,
     ⟨⟨(some 82), none, .iaddr 2 (.tmp 80) (.tmp 81)⟩, true, false, false, 0, [], none⟩,
     ⟨⟨(some 83), none, .load true 2 (.tmp 82)⟩, false, false, false, 0, [], none⟩,
     ⟨⟨(some 84), none, .iaddr 2 (.tmp 72) (.tmp 73)⟩, true, false, false, 0, [], none⟩,
     ⟨⟨none, none, .store 2 (.tmp 84) (.tmp 79)⟩, false, true, false, 0, [], none⟩], 0, [⟨(some 85), none, .iaddr 2 (.tmp 74) (.tmp 75)⟩,
     ⟨none, none, .store 2 (.tmp 85) (.tmp 83)⟩]⟩])
   (.seq (.reg [⟨(some 86), none, .mov (.tmp 13)⟩,
     ⟨(some 10), none, .mov (.tmp 86)⟩,
     ⟨(some 11), none, .mov (.con (.bool true))⟩])
   .ret))
   .skip))
  (.seq (.regd [⟨[⟨⟨(some 87), none, .mov (.tmp 0)⟩, true, false, false, 0, [], none⟩,
    ⟨⟨(some 88), none, .mov (.tmp 12)⟩, true, false, false, 0, [], none⟩,
    ⟨⟨(some 89), none, .mov (.tmp 0)⟩, true, false, false, 0, [], none⟩,
    ⟨⟨(some 90), none, .mov (.tmp 13)⟩, true, false, false, 0, [], none⟩,
    ⟨⟨(some 91), none, .mov (.tmp 0)⟩, true, false, false, 0, [], none⟩,
    ⟨⟨(some 92), none, .mov (.tmp 13)⟩, true, false, false, 0, [], none⟩,
    ⟨⟨(some 93), none, .iaddr 2 (.tmp 91) (.tmp 92)⟩, true, false, false, 0, [], none⟩,
    ⟨⟨(some 94), none, .load true 2 (.tmp 93)⟩, false, false, false, 0, [], none⟩,
    ⟨⟨(some 95), none, .mov (.tmp 0)⟩, true, false, false, 0, [], none⟩,
    ⟨⟨(some 96), none, .mov (.tmp 12)⟩, true, false, false, 0, [], none⟩,
    ⟨⟨(some 97), none, .iaddr 2 (.tmp 95) (.tmp 96)⟩, true, false, false, 0, [], none⟩,
    ⟨⟨(some 98), none, .load true 2 (.tmp 97)⟩, false, false, false, 0, [], none⟩,
    ⟨⟨(some 99), none, .iaddr 2 (.tmp 87) (.tmp 88)⟩, true, false, false, 0, [], none⟩,
    ⟨⟨none, none, .store 2 (.tmp 99) (.tmp 94)⟩, false, true, false, 0, [], none⟩], 0, [⟨(some 100), none, .iaddr 2 (.tmp 89) (.tmp 90)⟩,
    ⟨none, none, .store 2 (.tmp 100) (.tmp 98)⟩]⟩])
  (.seq (.reg [⟨(some 101), none, .mov (.tmp 12)⟩,
    ⟨(some 102), none, .bin .add (.tmp 101) (.con (.int .i64 1))⟩,
    ⟨(some 12), none, .mov (.tmp 102)⟩])
  (.seq (.reg [⟨(some 103), none, .mov (.tmp 13)⟩,
    ⟨(some 104), none, .bin .sub (.tmp 103) (.con (.int .i64 1))⟩,
    ⟨(some 13), none, .mov (.tmp 104)⟩])
  (.seq (.block 4 (.loop (.block 5 (.seq (.block 6 (.loop (.seq (.seq (.regd [⟨[⟨⟨(some 105), none, .mov (.tmp 12)⟩, true, false, false, 0, [], none⟩,
         ⟨⟨(some 106), none, .mov (.tmp 13)⟩, true, false, false, 0, [], none⟩], 0, [⟨(some 107), none, .bin .leq (.tmp 105) (.tmp 106)⟩,
         ⟨(some 108), none, .mov (.tmp 107)⟩]⟩,
        ⟨[⟨⟨(some 109), (some (108, true)), .mov (.tmp 4)⟩, true, false, false, 0, [], none⟩,
         ⟨⟨(some 110), (some (108, true)), .mov (.tmp 0)⟩, true, false, false, 0, [], none⟩,
         ⟨⟨(some 111), (some (108, true)), .mov (.tmp 12)⟩, true, false, false, 0, [], none⟩,
         ⟨⟨(some 112), (some (108, true)), .iaddr 2 (.tmp 110) (.tmp 111)⟩, true, false, false, 0, [], none⟩,
         ⟨⟨(some 113), (some (108, true)), .load true 2 (.tmp 112)⟩, false, false, false, 0, [], none⟩,
         ⟨⟨(some 114), (some (108, true)), .mov (.tmp 0)⟩, true, false, false, 0, [], none⟩,
         ⟨⟨(some 115), (some (108, true)), .mov (.tmp 1)⟩, true, false, false, 0, [], none⟩,
         ⟨⟨(some 116), (some (108, true)), .iaddr 2 (.tmp 114) (.tmp 115)⟩, true, false, false, 0, [], none⟩,
         ⟨⟨(some 117), (some (108, true)), .load true 2 (.tmp 116)⟩, false, false, false, 0, [], none⟩], 0, [⟨(some 118), (some (108, true)), .callv (.tmp 109) [(.tmp 113), (.tmp 117)]⟩,
         ⟨(some 119), (some (108, true)), .bin .lss (.tmp 118) (.con (.int .i64 0))⟩,
         ⟨(some 120), none, .pick (.tmp 108) (.tmp 119) (.con (.bool false))⟩]⟩])
       (.cond (.tmp 120)
        .skip
        (.exit 6)))
       (.block 7 (.reg [⟨(some 121), none, .mov (.tmp 12)⟩,
          ⟨(some 122), none, .bin .add (.tmp 121) (.con (.int .i64 1))⟩,
          ⟨(some 12), none, .mov (.tmp 122)⟩])))))
     (.seq (.block 8 (.loop (.seq (.seq (.regd [⟨[⟨⟨(some 123), none, .mov (.tmp 12)⟩, true, false, false, 0, [], none⟩,
         ⟨⟨(some 124), none, .mov (.tmp 13)⟩, true, false, false, 0, [], none⟩], 0, [⟨(some 125), none, .bin .leq (.tmp 123) (.tmp 124)⟩,
         ⟨(some 126), none, .mov (.tmp 125)⟩]⟩,
        ⟨[⟨⟨(some 127), (some (126, true)), .mov (.tmp 4)⟩, true, false, false, 0, [], none⟩,
         ⟨⟨(some 128), (some (126, true)), .mov (.tmp 0)⟩, true, false, false, 0, [], none⟩,
         ⟨⟨(some 129), (some (126, true)), .mov (.tmp 13)⟩, true, false, false, 0, [], none⟩,
         ⟨⟨(some 130), (some (126, true)), .iaddr 2 (.tmp 128) (.tmp 129)⟩, true, false, false, 0, [], none⟩,
         ⟨⟨(some 131), (some (126, true)), .load true 2 (.tmp 130)⟩, false, false, false, 0, [], none⟩,
         ⟨⟨(some 132), (some (126, true)), .mov (.tmp 0)⟩, true, false, false, 0, [], none⟩,
         ⟨⟨(some 133), (some (126, true)), .mov (.tmp 1)⟩, true, false, false, 0, [], none⟩,
         ⟨⟨(some 134), (some (126, true)), .iaddr 2 (.tmp 132) (.tmp 133)⟩, true, false, false, 0, [], none⟩,
         ⟨⟨(some 135), (some (126, true)), .load true 2 (.tmp 134)⟩, false, false, false, 0, [], none⟩], 0, [⟨(some 136), (some (126, true)), .callv (.tmp 127) [(.tmp 131), (.tmp 135)]⟩,
         ⟨(some 137), (some (126, true)), .bin .lss (.tmp 136) (.con (.int .i64 0))⟩,
         ⟨(some 138), (some (126, true)), .un .not (.tmp 137)⟩,
         ⟨(some 139), none, .pick (.tmp 126) (.tmp 138) (.con (.bool false))⟩]⟩])
       (.cond (.tmp 139)
        .skip
        (.exit 8)))
       (.block 9 (.reg [⟨(some 140), none, .mov (.tmp 13)⟩,
          ⟨(some 141), none, .bin .sub (.tmp 140) (.con (.int .i64 1))⟩,
          ⟨(some 13), none, .mov (.tmp 141)⟩])))))
     (.seq (.seq (.reg [⟨(some 142), none, .mov (.tmp 12)⟩,
       ⟨(some 143), none, .mov (.tmp 13)⟩,
       ⟨(some 144), none, .bin .gtr (.tmp 142) (.tmp 143)⟩])
     (.cond (.tmp 144)
      (.exit 4)
      .skip))
     (.seq (.regd [⟨[⟨⟨(some 145), none, .mov (.tmp 0)⟩, true, false, false, 0, [], none⟩,
       ⟨⟨(some 146), none, .mov (.tmp 12)⟩, true, false, false, 0, [], none⟩,
       ⟨⟨(some 147), none, .mov (.tmp 0)⟩, true, false, false, 0, [], none⟩,
       ⟨⟨(some 148), none, .mov (.tmp 13)⟩, true, false, false, 0, [], none⟩,
       ⟨⟨(some 149), none, .mov (.tmp 0)⟩, true, false, false, 0, [], none⟩,
       ⟨⟨(some 150), none, .mov (.tmp 13)⟩, true, false, false, 0, [], none⟩,
       ⟨⟨(some 151), none, .iaddr 2 (.tmp 149) (.tmp 150)⟩, true, false, false, 0, [], none⟩,
       ⟨⟨(some 152), none, .load true 2 (.tmp 151)⟩, false, false, false, 0, [], none⟩,
       ⟨⟨(some 153), none, .mov (.tmp 0)⟩, true, false, false, 0, [], none⟩,
       ⟨⟨(some 154), none, .mov (.tmp 12)⟩, true, false, false, 0, [], none⟩,
       ⟨⟨(some 155), none, .iaddr 2 (.tmp 153) (.tmp 154)⟩, true, false, false, 0, [], none⟩,
       ⟨⟨(some 156), none, .load true 2 (.tmp 155)⟩, false, false, false, 0, [], none⟩,
       ⟨⟨(some 157), none, .iaddr 2 (.tmp 145) (.tmp 146)⟩, true, false, false, 0, [], none⟩,
       ⟨⟨none, none, .store 2 (.tmp 157) (.tmp 152)⟩, false, true, false, 0, [], none⟩], 0, [⟨(some 158), none, .iaddr 2 (.tmp 147) (.tmp 148)⟩,
       ⟨none, none, .store 2 (.tmp 158) (.tmp 156)⟩]⟩])
     (.seq (.reg [⟨(some 159), none, .mov (.tmp 12)⟩,
       ⟨(some 160), none, .bin .add (.tmp 159) (.con (.int .i64 1))⟩,
       ⟨(some 12), none, .mov (.tmp 160)⟩])
     (.reg [⟨(some 161), none, .mov (.tmp 13)⟩,
       ⟨(some 162), none, .bin .sub (.tmp 161) (.con (.int .i64 1))⟩,
       ⟨(some 13), none, .mov (.tmp 162)⟩])))))))))
  (.seq (.regd [⟨[⟨⟨(some 163), none, .mov (.tmp 0)⟩, true, false, false, 0, [], none⟩,
    ⟨⟨(some 164), none, .mov (.tmp 13)⟩, true, false, false, 0, [], none⟩,
    ⟨⟨(some 165), none, .mov (.tmp 0)⟩, true, false, false, 0, [], none⟩,
    ⟨⟨(some 166), none, .mov (.tmp 1)⟩, true, false, false, 0, [], none⟩,
    ⟨⟨(some 167), none, .mov (.tmp 0)⟩, true, false, false, 0, [], none⟩,
    ⟨⟨(some 168), none, .mov (.tmp 1)⟩, true, false, false, 0, [], none⟩,
    ⟨⟨(some 169), none, .iaddr 2 (.tmp 167) (.tmp 168)⟩, true, false, false, 0, [], none⟩,
    ⟨⟨(some 170), none, .load true 2 (.tmp 169)⟩, false, false, false, 0, [], none⟩,
    ⟨⟨(some 171), none, .mov (.tmp 0)⟩, true, false, false, 0, [], none⟩,
    ⟨⟨(some 172), none, .mov (.tmp 13)⟩, true, false, false, 0, [], none⟩,
    ⟨⟨(some 173), none, .iaddr 2 (.tmp 171) (.tmp 172)⟩, true, false, false, 0, [], none⟩,
    ⟨⟨(some 174), none, .load true 2 (.tmp 173)⟩, false, false, false, 0, [], none⟩,
    ⟨⟨(some 175), none, .iaddr 2 (.tmp 163) (.tmp 164)⟩, true, false, false, 0, [], none⟩,
    ⟨⟨none, none, .store 2 (.tmp 175) (.tmp 170)⟩, false, true, false, 0, [], none⟩], 0, [⟨(some 176), none, .iaddr 2 (.tmp 165) (.tmp 166)⟩,
    ⟨none, none, .store 2 (.tmp 176) (.tmp 174)⟩]⟩])
  (.seq (.reg [⟨(some 177), none, .mov (.tmp 13)⟩,
    ⟨(some 10), none, .mov (.tmp 177)⟩,
    ⟨(some 11), none, .mov (.con (.bool false))⟩])
  .ret))))))))))))
def g51 : Fn := ⟨5, 178, [.tmp 10, .tmp 11], b51⟩
/- math/bits.Len32 -/
def b52 : AC :=
  (.seq (.reg [⟨(some 2), none, .mov (.con (.int .i64 0))⟩])
  (.seq (.seq (.reg [⟨(some 3), none, .mov (.tmp 0)⟩,
    ⟨(some 4), none, .bin .geq (.tmp 3) (.con (.int .u32 65536))⟩])
  (.cond (.tmp 4)
   (.seq (.reg [⟨(some 5), none, .mov (.tmp 0)⟩,
     ⟨(some 6), none, .bin .shr (.tmp 5) (.con (.int .u64 16))⟩,
     ⟨(some 0), none, .mov (.tmp 6)⟩])
   (.reg [⟨(some 2), none, .mov (.con (.int .i64 16))⟩]))
   .skip))
  (.seq (.seq (.reg [⟨(some 7), none, .mov (.tmp 0)⟩,
    ⟨(some 8), none, .bin .geq (.tmp 7) (.con (.int .u32 256))⟩])
  (.cond (.tmp 8)
   (.seq (.reg [⟨(some 9), none, .mov (.tmp 0)⟩,
     ⟨(some 10), none, .bin .shr (.tmp 9) (.con (.int .u64 8))⟩,
     ⟨(some 0), none, .mov (.tmp 10)⟩])
   (.reg [⟨(some 11), none, .mov (.tmp 2)⟩,
     ⟨(some 12), none, .bin .add (.tmp 11) (.con (.int .i64 8))⟩,
     ⟨(some 2), none, .mov (.tmp 12)⟩]))
   .skip))
  (.seq (.reg [⟨(some 13), none, .mov (.tmp 2)⟩,
    ⟨(some 14), none, .mov (.tmp 0)⟩,
    ⟨(some 15), none, .conv .u8 (.tmp 14)⟩,
    ⟨(some 16), none, .idxS (.con (.str ⟨#[0, 1, 2, 2, 3, 3, 3, 3, 4, 4, 4, 4, 4, 4, 4, 4, 5, 5, 5, 5, 5, 5, 5, 5, 5, 5, 5, 5, 5, 5, 5, 5, 6, 6, 6, 6, 6, 6, 6, 6, 6, 6, 6, 6, 6, 6, 6, 6, 6, 6, 6, 6, 6, 6, 6, 6, 6, 6, 6, 6, 6, 6, 6, 6, 7, 7, 7, 7, 7, 7, 7, 7, 7, 7, 7, 7, 7, 7, 7, 7, 7, 7, 7, 7, 7, 7, 7, 7, 7, 7, 7, 7, 7, 7, 7, 7, 7, 7, 7, 7, 7, 7, 7, 7, 7, 7, 7, 7, 7, 7, 7, 7, 7, 7, 7, 7, 7, 7, 7, 7, 7, 7, 7, 7, 7, 7, 7, 7, 8, 8, 8, 8, 8, 8, 8, 8, 8, 8, 8, 8, 8, 8, 8, 8, 8, 8, 8, 8, 8, 8, 8, 8, 8, 8, 8, 8, 8, 8, 8, 8, 8, 8, 8, 8, 8, 8, 8, 8, 8, 8, 8, 8, 8, 8, 8, 8, 8, 8, 8, 8, 8, 8, 8, 8, 8, 8, 8, 8, 8, 8, 8, 8, 8, 8, 8, 8, 8, 8, 8, 8, 8, 8, 8, 8, 8, 8, 8, 8, 8, 8, 8, 8, 8, 8, 8, 8, 8, 8, 8, 8, 8, 8, 8, 8, 8, 8, 8, 8, 8, 8, 8, 8, 8, 8, 8, 8, 8, 8, 8, 8, 8, 8, 8, 8, 8, 8, 8, 8, 8, 8, 8, 8, 8, 8, 8, 8]⟩)) (.tmp 15)⟩,
    ⟨(some 17), none, .conv .i64 (.tmp 16)⟩,
    ⟨(some 18), none, .bin .add (.tmp 13) (.tmp 17)⟩,
    ⟨(some 2), none, .mov (.tmp 18)⟩])
  .ret))))
def g52 : Fn := ⟨1, 19, [.tmp 2], b52⟩
/- math/bits.Len64 -/
def b53 : AC :=
  (.seq (.reg [⟨(some 2), none, .mov (.con (.int .i64 0))⟩])
  (.seq (.seq (.reg [⟨(some 3), none, .mov (.tmp 0)⟩,
    ⟨(some 4), none, .bin .geq (.tmp 3) (.con (.int .u64 4294967296))⟩])
  (.cond (.tmp 4)
   (.seq (.reg [⟨(some 5), none, .mov (.tmp 0)⟩,
     ⟨(some 6), none, .bin .shr (.tmp 5) (.con (.int .u64 32))⟩,
     ⟨(some 0), none, .mov (.tmp 6)⟩])
   (.reg [⟨(some 2), none, .mov (.con (.int .i64 32))⟩]))
   .skip))
  (.seq (.seq (.reg [⟨(some 7), none, .mov (.tmp 0)⟩,
    ⟨(some 8), none, .bin .geq (.tmp 7) (.con (.int .u64 65536))⟩])
  (.cond (.tmp 8)
   (.seq (.reg [⟨(some 9), none, .mov (.tmp 0)⟩,
     ⟨(some 10), none, .bin .shr (.tmp 9) (.con (.int .u64 16))⟩,
     ⟨(some 0), none, .mov (.tmp 10)⟩])
   (.reg [⟨(some 11), none, .mov (.tmp 2)⟩,
     ⟨(some 12), none, .bin .add (.tmp 11) (.con (.int .i64 16))⟩,
     ⟨(some 2), none, .mov (.tmp 12)⟩]))
   .skip))
  (.seq (.seq (.reg [⟨(some 13), none, .mov (.tmp 0)⟩,
    ⟨(some 14), none, .bin .geq (.tmp 13) (.con (.int .u64 256))⟩])
  (.cond (.tmp 14)
   (.seq (.reg [⟨(some 15), none, .mov (.tmp 0)⟩,
     ⟨(some 16), none, .bin .shr (.tmp 15) (.con (.int .u64 8))⟩,
     ⟨(some 0), none, .mov (.tmp 16)⟩])
   (.reg [⟨(some 17), none, .mov (.tmp 2)⟩,
     ⟨(some 18), none, .bin .add (.tmp 17) (.con (.int .i64 8))⟩,
     ⟨(some 2), none, .mov (.tmp 18)⟩]))
   .skip))
  (.seq (.reg [⟨(some 19), none, .mov (.tmp 2)⟩,
    ⟨(some 20), none, .mov (.tmp 0)⟩,
    ⟨(some 21), none, .conv .u8 (.tmp 20)⟩,
    ⟨(some 22), none, .idxS (.con (.str ⟨#[0, 1, 2, 2, 3, 3, 3, 3, 4, 4, 4, 4, 4, 4, 4, 4, 5, 5, 5, 5, 5, 5, 5, 5, 5, 5, 5, 5, 5, 5, 5, 5, 6, 6, 6, 6, 6, 6, 6, 6, 6, 6, 6, 6, 6, 6, 6, 6, 6, 6, 6, 6, 6, 6, 6, 6, 6, 6, 6, 6, 6, 6, 6, 6, 7, 7, 7, 7, 7, 7, 7, 7, 7, 7, 7, 7, 7, 7, 7, 7, 7, 7, 7, 7, 7, 7, 7, 7, 7, 7, 7, 7, 7, 7, 7, 7, 7, 7, 7, 7, 7, 7, 7, 7, 7, 7, 7, 7, 7, 7, 7, 7, 7, 7, 7, 7, 7, 7, 7, 7, 7, 7, 7, 7, 7, 7, 7, 7, 8, 8, 8, 8, 8, 8, 8, 8, 8, 8, 8, 8, 8, 8, 8, 8, 8, 8, 8, 8, 8, 8, 8, 8, 8, 8, 8, 8, 8, 8, 8, 8, 8, 8, 8, 8, 8, 8, 8, 8, 8, 8, 8, 8, 8, 8, 8, 8, 8, 8, 8, 8, 8, 8, 8, 8, 8, 8, 8, 8, 8, 8, 8, 8, 8, 8, 8, 8, 8, 8, 8, 8, 8, 8, 8, 8, 8, 8, 8, 8, 8, 8, 8, 8, 8, 8, 8, 8, 8, 8, 8, 8, 8, 8, 8, 8, 8, 8, 8, 8, 8, 8, 8, 8, 8, 8, 8, 8, 8, 8, 8, 8, 8, 8, 8, 8, 8, 8, 8, 8, 8, 8, 8, 8, 8, 8, 8, 8]⟩)) (.tmp 21)⟩,
    ⟨(some 23), none, .conv .i64 (.tmp 22)⟩,
    ⟨(some 24), none, .bin .add (.tmp 19) (.tmp 23)⟩,
    ⟨(some 2), none, .mov (.tmp 24)⟩])
  .ret)))))
def g53 : Fn := ⟨1, 25, [.tmp 2], b53⟩
/- slices.siftDownCmpFunc[quiver/api.Hit] -/
def b54 : AC :=
  (.seq (.reg [⟨(some 12), none, .mov (.tmp 1)⟩,
    ⟨(some 10), none, .mov (.tmp 12)⟩])
  (.block 0 (.loop (.block 1 (.seq (.reg [⟨(some 13), none, .mov (.tmp 10)⟩,
       ⟨(some 14), none, .bin .mul (.con (.int .i64 2)) (.tmp 13)⟩,
       ⟨(some 15), none, .bin .add (.tmp 14) (.con (.int .i64 1))⟩,
       ⟨(some 11), none, .mov (.tmp 15)⟩])
     (.seq (.seq (.reg [⟨(some 16), none, .mov (.tmp 11)⟩,
       ⟨(some 17), none, .mov (.tmp 2)⟩,
       ⟨(some 18), none, .bin .geq (.tmp 16) (.tmp 17)⟩])
     (.cond (.tmp 18)
      (.exit 0)
      .skip))
     (.seq (.seq (.regd [⟨[⟨⟨(some 19), none, .mov (.tmp 11)⟩, true, false, false, 0, [], none⟩,
       ⟨⟨(some 20), none, .bin .add (.tmp 19) (.con (.int .i64 1))⟩, true, false, false, 0, [], none⟩,
       ⟨⟨(some 21), none, .mov (.tmp 2)⟩, true, false, false, 0, [], none⟩], 0, [⟨(some 22), none, .bin .lss (.tmp 20) (.tmp 21)⟩,
       ⟨(some 23), none, .mov (.tmp 22)⟩]⟩,
      ⟨[⟨⟨(some 24), (some (23, true)), .mov (.tmp 4)⟩, true, false, false, 0, [], none⟩,
       ⟨⟨(some 25), (some (23, true)), .mov (.tmp 0)⟩, true, false, false, 0, [], none⟩,
       ⟨⟨(some 26), (some (23, true)), .mov (.tmp 3)⟩, true, false, false, 0, [], none⟩,
       ⟨⟨(some 27), (some (23, true)), .mov (.tmp 11)⟩, true, false, false, 0, [], none⟩,
       ⟨⟨(some 28), (some (23, true)), .bin .add (.tmp 26) (.tmp 27)⟩, true, false, false, 0, [], none⟩,
       ⟨⟨(some 29), (some (23, true)), .iaddr 2 (.tmp 25) (.tmp 28)⟩, true, false, false, 0, [], none⟩,
       ⟨⟨(some 30), (some (23, true)), .load true 2 (.tmp 29)⟩, false, false, false, 0, [], none⟩,
       ⟨⟨(some 31), (some (23, true)), .mov (.tmp 0)⟩, true, false, false, 0, [], none⟩,
       ⟨⟨(some 32), (some (23, true)), .mov (.tmp 3)⟩, true, false, false, 0, [], none⟩,
       ⟨⟨(some 33), (some (23, true)), .mov (.tmp 11)⟩, true, false, false, 0, [], none⟩,
       ⟨⟨(some 34), (some (23, true)), .bin .add (.tmp 32) (.tmp 33)⟩, true, false, false, 0, [], none⟩,
       ⟨⟨(some 35), (some (23, true)), .bin .add (.tmp 34) (.con (.int .i64 1))⟩, true, false, false, 0, [], none⟩,
       ⟨⟨(some 36), (some (23, true)), .iaddr 2 (.tmp 31) (.tmp 35)⟩, true, false, false, 0, [], none⟩,
       ⟨⟨(some 37), (some (23, true)), .load true 2 (.tmp 36)⟩, false, false, false, 0, [], none⟩], 0, [⟨(some 38), (some (23, true)), .callv (.tmp 24) [(.tmp 30), (.tmp 37)]⟩,
       ⟨(some 39), (some (23, true)), .bin .lss (.tmp 38) (.con (.int .i64 0))⟩,
       ⟨(some 40), none, .pick (.tmp 23) (.tmp 39) (.con (.bool false))⟩]⟩])
     (.cond (.tmp 40)
      (.reg [⟨(some 41), none, .mov (.tmp 11)⟩,
        ⟨(some 42), none, .bin .add (.tmp 41) (.con (.int .i64 1))⟩,
        ⟨(some 11), none, .mov (.tmp 42)⟩])
      .skip))
     (.seq (.seq (.regd [⟨[⟨⟨(some 43), none, .mov (.tmp 4)⟩, true, false, false, 0, [], none⟩,
       ⟨⟨(some 44), none, .mov (.tmp 0)⟩, true, false, false, 0, [], none⟩,
       ⟨⟨(some 45), none, .mov (.tmp 3)⟩, true, false, false, 0, [], none⟩,
       ⟨⟨(some 46), none, .mov (.tmp 10)⟩, true, false, false, 0, [], none⟩,
       ⟨⟨(some 47), none, .bin .add (.tmp 45) (.tmp 46)⟩, true, false, false, 0, [], none⟩,
       ⟨⟨(some 48), none, .iaddr 2 (.tmp 44) (.tmp 47)⟩, true, false, false, 0, [], none⟩,
       ⟨⟨(some 49), none, .load true 2 (.tmp 48)⟩, false, false, false, 0, [], none⟩,
       ⟨⟨(some 50), none, .mov (.tmp 0)⟩, true, false, false, 0, [], none⟩,
       ⟨⟨(some 51), none, .mov (.tmp 3)⟩, true, false, false, 0, [], none⟩,
       ⟨⟨(some 52), none, .mov (.tmp 11)⟩, true, false, false, 0, [], none⟩,
       ⟨⟨(some 53), none, .bin .add (.tmp 51) (.tmp 52)⟩, true, false, false, 0, [], none⟩,
       ⟨⟨(some 54), none, .iaddr 2 (.tmp 50) (.tmp 53)⟩, true, false, false, 0, [], none⟩,
       ⟨⟨(some 55), none, .load true 2 (.tmp 54)⟩, false, false, false, 0, [], none⟩], 0, [⟨(some 56), none, .callv (.tmp 43) [(.tmp 49), (.tmp 55)]⟩,
       ⟨(some 57), none, .bin .lss (.tmp 56) (.con (.int .i64 0))⟩,
       ⟨(some 58), none, .un .not (.tmp 57)⟩]⟩])
     (.cond (.tmp 58)
      .ret
      .skip))
     (.seq (.regd [⟨[⟨⟨(some 59), none, .mov (.tmp 0)⟩, true, false, false, 0, [], none⟩,
       ⟨⟨(some 60), none, .mov (.tmp 3)⟩, true, false, false, 0, [], none⟩,
       ⟨⟨(some 61), none, .mov (.tmp 10)⟩, true, false, false, 0, [], none⟩,
       ⟨⟨(some 62), none, .bin .add (.tmp 60) (.tmp 61)⟩, true, false, false, 0, [], none⟩,
       ⟨⟨(some 63), none, .mov (.tmp 0)⟩, true, false, false, 0, [], none⟩,
       ⟨⟨(some 64), none, .mov (.tmp 3)⟩, true, false, false, 0, [], none⟩,
       ⟨⟨(some 65), none, .mov (.tmp 11)⟩, true, false, false, 0, [], none⟩,
       ⟨⟨(some 66), none, .bin .add (.tmp 64) (.tmp 65)⟩, true, false, false, 0, [], none⟩,
       ⟨⟨(some 67), none, .mov (.tmp 0)⟩, true, false, false, 0, [], none⟩,
       ⟨⟨(some 68), none, .mov (.tmp 3)⟩, true, false, false, 0, [], none⟩,
       ⟨⟨(some 69), none, .mov (.tmp 11)⟩, true, false, false, 0, [], none⟩,
       ⟨⟨(some 70), none, .bin .add (.tmp 68) (.tmp 69)⟩, true, false, false, 0, [], none⟩,
       ⟨⟨(some 71), none, .iaddr 2 (.tmp 67) (.tmp 70)⟩, true, false, false, 0, [], none⟩,
       ⟨⟨(some 72), none, .load true 2 (.tmp 71)⟩, false, false, false, 0, [], none⟩,
       ⟨⟨(some 73), none, .mov (.tmp 0)⟩, true, false, false, 0, [], none⟩,
       ⟨⟨(some 74), none, .mov (.tmp 3)⟩, true, false, false, 0, [], none⟩,
       ⟨⟨(some 75), none, .mov (.tmp 10)⟩, true, false, false, 0, [], none⟩,
       ⟨⟨(some 76), none, .bin .add (.tmp 74) (.tmp 75)⟩, true, false, false, 0, [], none⟩,
       ⟨⟨(some 77), none, .iaddr 2 (.tmp 73) (.tmp 76)⟩, true, false, false, 0, [], none⟩,
       ⟨⟨(some 78), none, .load true 2 (.tmp 77)⟩, false, false, false, 0, [], none⟩,
       ⟨⟨(some 79), none, .iaddr 2 (.tmp 59) (.tmp 62)⟩, true, false, false, 0, [], none⟩,
       ⟨⟨none, none, .store 2 (.tmp 79) (.tmp 72)⟩, false, true, false, 0, [], none⟩], 0, [⟨(some 80), none, .iaddr 2 (.tmp 63) (.tmp 66)⟩,
       ⟨none, none, .store 2 (.tmp 80) (.tmp 78)⟩]⟩])
     (.reg [⟨(some 81), none, .mov (.tmp 11)⟩,
       ⟨(some 10), none, .mov (.tmp 81)⟩]))))))))))
def g54 : Fn := ⟨5, 82, [], b54⟩
/- slices.nextPowerOfTwo -/
def b55 : AC :=
  (.seq (.reg [⟨(some 2), none, .mov (.con (.int .u64 0))⟩])
  (.seq (.reg [⟨(some 3), none, .mov (.tmp 0)⟩,
    ⟨(some 4), none, .conv .u64 (.tmp 3)⟩,
    ⟨(some 5), none, .call 43 [(.tmp 4)]⟩,
    ⟨(some 6), none, .bin .shl (.con (.int .u64 1)) (.tmp 5)⟩,
    ⟨(some 2), none, .mov (.tmp 6)⟩])
  .ret))
def g55 : Fn := ⟨1, 7, [.tmp 2], b55⟩
/- (*slices.xorshift).Next -/
def b56 : AC :=
  (.seq (.reg [⟨(some 2), none, .mov (.con (.int .u64 0))⟩])
  (.seq (.regd [⟨[⟨⟨(some 3), none, .mov (.tmp 0)⟩, true, false, false, 0, [], none⟩,
    ⟨⟨(some 4), none, .nilck (.tmp 3)⟩, true, false, false, 0, [], none⟩,
    ⟨⟨(some 5), none, .load false 1 (.tmp 4)⟩, false, false, false, 0, [], none⟩,
    ⟨⟨(some 6), none, .mov (.tmp 0)⟩, true, false, false, 0, [], none⟩,
    ⟨⟨(some 7), none, .nilck (.tmp 6)⟩, true, false, false, 0, [], none⟩,
    ⟨⟨(some 8), none, .load false 1 (.tmp 7)⟩, false, false, false, 0, [], none⟩,
    ⟨⟨(some 9), none, .bin .shl (.tmp 8) (.con (.int .u64 13))⟩, true, false, false, 0, [], none⟩], 0, [⟨(some 10), none, .bin .xor (.tmp 5) (.tmp 9)⟩,
    ⟨(some 11), none, .nilck (.tmp 3)⟩,
    ⟨none, none, .store 1 (.tmp 11) (.tmp 10)⟩]⟩])
  (.seq (.regd [⟨[⟨⟨(some 12), none, .mov (.tmp 0)⟩, true, false, false, 0, [], none⟩,
    ⟨⟨(some 13), none, .nilck (.tmp 12)⟩, true, false, false, 0, [], none⟩,
    ⟨⟨(some 14), none, .load false 1 (.tmp 13)⟩, false, false, false, 0, [], none⟩,
    ⟨⟨(some 15), none, .mov (.tmp 0)⟩, true, false, false, 0, [], none⟩,
    ⟨⟨(some 16), none, .nilck (.tmp 15)⟩, true, false, false, 0, [], none⟩,
    ⟨⟨(some 17), none, .load false 1 (.tmp 16)⟩, false, false, false, 0, [], none⟩,
    ⟨⟨(some 18), none, .bin .shr (.tmp 17) (.con (.int .u64 7))⟩, true, false, false, 0, [], none⟩], 0, [⟨(some 19), none, .bin .xor (.tmp 14) (.tmp 18)⟩,
    ⟨(some 20), none, .nilck (.tmp 12)⟩,
    ⟨none, none, .store 1 (.tmp 20) (.tmp 19)⟩]⟩])
  (.seq (.regd [⟨[⟨⟨(some 21), none, .mov (.tmp 0)⟩, true, false, false, 0, [], none⟩,
    ⟨⟨(some 22), none, .nilck (.tmp 21)⟩, true, false, false, 0, [], none⟩,
    ⟨⟨(some 23), none, .load false 1 (.tmp 22)⟩, false, false, false, 0, [], none⟩,
    ⟨⟨(some 24), none, .mov (.tmp 0)⟩, true, false, false, 0, [], none⟩,
    ⟨⟨(some 25), none, .nilck (.tmp 24)⟩, true, false, false, 0, [], none⟩,
    ⟨⟨(some 26), none, .load false 1 (.tmp 25)⟩, false, false, false, 0, [], none⟩,
    ⟨⟨(some 27), none, .bin .shl (.tmp 26) (.con (.int .u64 17))⟩, true, false, false, 0, [], none⟩], 0, [⟨(some 28), none, .bin .xor (.tmp 23) (.tmp 27)⟩,
    ⟨(some 29), none, .nilck (.tmp 21)⟩,
    ⟨none, none, .store 1 (.tmp 29) (.tmp 28)⟩]⟩])
  (.seq (.reg [⟨(some 30), none, .mov (.tmp 0)⟩,
    ⟨(some 31), none, .nilck (.tmp 30)⟩,
    ⟨(some 32), none, .load false 1 (.tmp 31)⟩,
    ⟨(some 2), none, .mov (.tmp 32)⟩])
  .ret)))))
def g56 : Fn := ⟨1, 33, [.tmp 2], b56⟩
/- slices.medianAdjacentCmpFunc[quiver/api.Hit] -/
def b57 : AC :=
  (.seq (.reg [⟨(some 8), none, .mov (.con (.int .i64 0))⟩])
  (.seq (.reg [⟨(some 9), none, .mov (.tmp 0)⟩,
    ⟨(some 10), none, .mov (.tmp 1)⟩,
    ⟨(some 11), none, .bin .sub (.tmp 10) (.con (.int .i64 1))⟩,
    ⟨(some 12), none, .mov (.tmp 1)⟩,
    ⟨(some 13), none, .mov (.tmp 1)⟩,
    ⟨(some 14), none, .bin .add (.tmp 13) (.con (.int .i64 1))⟩,
    ⟨(some 15), none, .mov (.tmp 2)⟩,
    ⟨(some 16), none, .mov (.tmp 3)⟩,
    ⟨(some 17), none, .call 58 [(.tmp 9), (.tmp 11), (.tmp 12), (.tmp 14), (.tmp 15), (.tmp 16)]⟩,
    ⟨(some 8), none, .mov (.tmp 17)⟩])
  .ret))
def g57 : Fn := ⟨4, 18, [.tmp 8], b57⟩
/- slices.medianCmpFunc[quiver/api.Hit] -/
def b58 : AC :=
  (.seq (.reg [⟨(some 12), none, .mov (.con (.int .i64 0))⟩])
  (.seq (.reg [⟨(some 14), none, .mov (.tmp 0)⟩,
    ⟨(some 15), none, .mov (.tmp 1)⟩,
    ⟨(some 16), none, .mov (.tmp 2)⟩,
    ⟨(some 17), none, .mov (.tmp 4)⟩,
    ⟨(some 18), none, .mov (.tmp 5)⟩,
    ⟨(some 19), none, .call 59 [(.tmp 14), (.tmp 15), (.tmp 16), (.tmp 17), (.tmp 18)]⟩,
    ⟨(some 13), none, .mov (.tmp 19)⟩,
    ⟨(some 20), none, .ext (.tmp 13) 0⟩,
    ⟨(some 21), none, .ext (.tmp 13) 1⟩,
    ⟨(some 1), none, .mov (.tmp 20)⟩,
    ⟨(some 2), none, .mov (.tmp 21)⟩])
  (.seq (.reg [⟨(some 23), none, .mov (.tmp 0)⟩,
    ⟨(some 24), none, .mov (.tmp 2)⟩,
    ⟨(some 25), none, .mov (.tmp 3)⟩,
    ⟨(some 26), none, .mov (.tmp 4)⟩,
    ⟨(some 27), none, .mov (.tmp 5)⟩,
    ⟨(some 28), none, .call 59 [(.tmp 23), (.tmp 24), (.tmp 25), (.tmp 26), (.tmp 27)]⟩,
    ⟨(some 22), none, .mov (.tmp 28)⟩,
    ⟨(some 29), none, .ext (.tmp 22) 0⟩,
    ⟨(some 30), none, .ext (.tmp 22) 1⟩,
    ⟨(some 2), none, .mov (.tmp 29)⟩,
    ⟨(some 3), none, .mov (.tmp 30)⟩])
  (.seq (.reg [⟨(some 32), none, .mov (.tmp 0)⟩,
    ⟨(some 33), none, .mov (.tmp 1)⟩,
    ⟨(some 34), none, .mov (.tmp 2)⟩,
    ⟨(some 35), none, .mov (.tmp 4)⟩,
    ⟨(some 36), none, .mov (.tmp 5)⟩,
    ⟨(some 37), none, .call 59 [(.tmp 32), (.tmp 33), (.tmp 34), (.tmp 35), (.tmp 36)]⟩,
    ⟨(some 31), none, .mov (.tmp 37)⟩,
    ⟨(some 38), none, .ext (.tmp 31) 0⟩,
    ⟨(some 39), none, .ext (.tmp 31) 1⟩,
    ⟨(some 1), none, .mov (.tmp 38)⟩,
    ⟨(some 2), none, .mov (.tmp 39)⟩])
  (.seq (.reg [⟨(some 40), none, .mov (.tmp 2)⟩,
    ⟨(some 12), none, .mov (.tmp 40)⟩])
  .ret)))))
def g58 : Fn := ⟨6, 41, [.tmp 12], b58⟩
/- slices.order2CmpFunc[quiver/api.Hit] -/
def b59 : AC :=
  (.seq (.reg [⟨(some 10), none, .mov (.con (.int .i64 0))⟩,
    ⟨(some 11), none, .mov (.con (.int .i64 0))⟩])
  (.seq (.seq (.regd [⟨[⟨⟨(some 12), none, .mov (.tmp 4)⟩, true, false, false, 0, [], none⟩,
    ⟨⟨(some 13), none, .mov (.tmp 0)⟩, true, false, false, 0, [], none⟩,
    ⟨⟨(some 14), none, .mov (.tmp 2)⟩, true, false, false, 0, [], none⟩,
    ⟨⟨(some 15), none, .iaddr 2 (.tmp 13) (.tmp 14)⟩, true, false, false, 0, [], none⟩,
    ⟨⟨(some 16), none, .load true 2 (.tmp 15)⟩, false, false, false, 0, [], none⟩,
    ⟨⟨(some 17), none, .mov (.tmp 0)⟩, true, false, false, 0, [], none⟩,
    ⟨⟨(some 18), none, .mov (.tmp 1)⟩, true, false, false, 0, [], none⟩,
    ⟨⟨(some 19), none, .iaddr 2 (.tmp 17) (.tmp 18)⟩, true, false, false, 0, [], none⟩,
    ⟨⟨(some 20), none, .load true 2 (.tmp 19)⟩, false, false, false, 0, [], none⟩], 0, [⟨(some 21), none, .callv (.tmp 12) [(.tmp 16), (.tmp 20)]⟩,
    ⟨(some 22), none, .bin .lss (.tmp 21) (.con (.int .i64 0))⟩]⟩])
  (.cond (.tmp 22)
   (.seq (.reg [⟨(some 23), none, .mov (.tmp 3)⟩,
     ⟨(some 24), none, .nilck (.tmp 23)⟩,
     ⟨(some 25), none, .load false 1 (.tmp 24)⟩,
     ⟨(some 26), none, .bin .add (.tmp 25) (.con (.int .i64 1))⟩,
     ⟨(some 27), none, .nilck (.tmp 23)⟩,
     ⟨none, none, .store 1 (.tmp 27) (.tmp 26)⟩])
   (.seq (.reg [⟨(some 28), none, .mov (.tmp 2)⟩,
     ⟨(some 29), none, .mov (.tmp 1)⟩,
     ⟨(some 10), none, .mov (.tmp 28)⟩,
     ⟨(some 11), none, .mov (.tmp 29)⟩])
   .ret))
   .skip))
  (.seq (.reg [⟨(some 30), none, .mov (.tmp 1)⟩,
    ⟨(some 31), none, .mov (.tmp 2)⟩,
    ⟨(some 10), none, .mov (.tmp 30)⟩,
    ⟨(some 11), none, .mov (.tmp 31)⟩])
  .ret)))
def g59 : Fn := ⟨5, 32, [.tmp 10, .tmp 11], b59⟩
/- (*quiver/topk.worst).Less -/
def b76 : AC :=
  (.seq (.reg [⟨(some 6), none, .mov (.con (.bool false))⟩])
  (.seq (.regd [⟨[⟨⟨(some 7), none, .mov (.tmp 0)⟩, true, false, false, 0, [], none⟩,
    ⟨⟨(some 8), none, .nilck (.tmp 7)⟩, true, false, false, 0, [], none⟩,
    ⟨⟨(some 9), none, .faddr (.tmp 8) 0⟩, true, false, false, 0, [], none⟩,
    ⟨⟨(some 10), none, .load false 1 (.tmp 9)⟩, false, false, false, 0, [], none⟩,
    ⟨⟨(some 11), none, .mov (.tmp 1)⟩, true, false, false, 0, [], none⟩,
    ⟨⟨(some 12), none, .iaddr 2 (.tmp 10) (.tmp 11)⟩, true, false, false, 0, [], none⟩,
    ⟨⟨(some 13), none, .load true 2 (.tmp 12)⟩, false, false, false, 0, [], none⟩,
    ⟨⟨(some 14), none, .mov (.tmp 0)⟩, true, false, false, 0, [], none⟩,
    ⟨⟨(some 15), none, .nilck (.tmp 14)⟩, true, false, false, 0, [], none⟩,
    ⟨⟨(some 16), none, .faddr (.tmp 15) 0⟩, true, false, false, 0, [], none⟩,
    ⟨⟨(some 17), none, .load false 1 (.tmp 16)⟩, false, false, false, 0, [], none⟩,
    ⟨⟨(some 18), none, .mov (.tmp 2)⟩, true, false, false, 0, [], none⟩,
    ⟨⟨(some 19), none, .iaddr 2 (.tmp 17) (.tmp 18)⟩, true, false, false, 0, [], none⟩,
    ⟨⟨(some 20), none, .load true 2 (.tmp 19)⟩, false, false, false, 0, [], none⟩], 0, [⟨(some 21), none, .call 17 [(.tmp 13), (.tmp 20)]⟩,
    ⟨(some 22), none, .bin .gtr (.tmp 21) (.con (.int .i64 0))⟩,
    ⟨(some 6), none, .mov (.tmp 22)⟩]⟩])
  .ret))
def g76 : Fn := ⟨3, 23, [.tmp 6], b76⟩
/- (*quiver/topk.worst).Pop -/
def b77 : AC :=
  (.seq (.reg [⟨(some 2), none, .mov (.con .nilI)⟩])
  (.seq (.reg [⟨(some 5), none, .mov (.tmp 0)⟩,
    ⟨(some 6), none, .nilck (.tmp 5)⟩,
    ⟨(some 7), none, .faddr (.tmp 6) 0⟩,
    ⟨(some 8), none, .load false 1 (.tmp 7)⟩,
    ⟨(some 9), none, .len (.tmp 8)⟩,
    ⟨(some 10), none, .bin .sub (.tmp 9) (.con (.int .i64 1))⟩,
    ⟨(some 3), none, .mov (.tmp 10)⟩])
  (.seq (.reg [⟨(some 11), none, .mov (.tmp 0)⟩,
    ⟨(some 12), none, .nilck (.tmp 11)⟩,
    ⟨(some 13), none, .faddr (.tmp 12) 0⟩,
    ⟨(some 14), none, .load false 1 (.tmp 13)⟩,
    ⟨(some 15), none, .mov (.tmp 3)⟩,
    ⟨(some 16), none, .iaddr 2 (.tmp 14) (.tmp 15)⟩,
    ⟨(some 17), none, .load true 2 (.tmp 16)⟩,
    ⟨(some 4), none, .alloc (.agg [(.int .u64 0), (.int .u64 0)])⟩,
    ⟨none, none, .store 2 (.tmp 4) (.tmp 17)⟩])
  (.seq (.reg [⟨(some 18), none, .mov (.tmp 0)⟩,
    ⟨(some 19), none, .mov (.tmp 0)⟩,
    ⟨(some 20), none, .nilck (.tmp 19)⟩,
    ⟨(some 21), none, .faddr (.tmp 20) 0⟩,
    ⟨(some 22), none, .load false 1 (.tmp 21)⟩,
    ⟨(some 23), none, .mov (.tmp 3)⟩,
    ⟨(some 24), none, .slice 2 (.tmp 22) none (some (.tmp 23))⟩,
    ⟨(some 25), none, .nilck (.tmp 18)⟩,
    ⟨(some 26), none, .faddr (.tmp 25) 0⟩,
    ⟨none, none, .store 1 (.tmp 26) (.tmp 24)⟩])
  (.seq (.reg [⟨(some 27), none, .load true 2 (.tmp 4)⟩,
    ⟨(some 28), none, .mkif 32 (.tmp 27)⟩,
    ⟨(some 2), none, .mov (.tmp 28)⟩])
  .ret)))))
def g77 : Fn := ⟨1, 29, [.tmp 2], b77⟩
/- (*quiver/topk.worst).Push -/
def b78 : AC :=
  (.seq (.reg [⟨(some 7), none, .mov (.tmp 1)⟩,
    ⟨(some 8), none, .tas true 32 (.agg [(.int .u64 0), (.int .u64 0)]) (.tmp 7)⟩,
    ⟨(some 6), none, .mov (.tmp 8)⟩,
    ⟨(some 9), none, .ext (.tmp 6) 0⟩,
    ⟨(some 10), none, .ext (.tmp 6) 1⟩,
    ⟨(some 4), none, .alloc (.agg [(.int .u64 0), (.int .u64 0)])⟩,
    ⟨none, none, .store 2 (.tmp 4) (.tmp 9)⟩,
    ⟨(some 5), none, .mov (.tmp 10)⟩])
  (.seq (.reg [⟨(some 11), none, .mov (.tmp 5)⟩])
  (.cond (.tmp 11)
   (.regd [⟨[⟨⟨(some 12), none, .mov (.tmp 0)⟩, true, false, false, 0, [], none⟩,
     ⟨⟨(some 13), none, .mov (.tmp 0)⟩, true, false, false, 0, [], none⟩,
     ⟨⟨(some 14), none, .nilck (.tmp 13)⟩, true, false, false, 0, [], none⟩,
     ⟨⟨(some 15), none, .faddr (.tmp 14) 0⟩, true, false, false, 0, [], none⟩,
     ⟨⟨(some 16), none, .load false 1 (.tmp 15)⟩, false, false, false, 0, [0], none⟩,
     ⟨⟨(some 17), none, .load true 2 (.tmp 4)⟩, false, false, false, 0, [], none⟩,
     ⟨⟨(some 18), none, .lit 2 [(.tmp 17)]⟩, false, false, true, 0, [], none⟩,
     ⟨⟨(some 19), none, .append 2 16 (.tmp 16) (.tmp 18)⟩, false, true, true, 1, [], none⟩], 2, [⟨(some 20), none, .nilck (.tmp 12)⟩,
     ⟨(some 21), none, .faddr (.tmp 20) 0⟩,
     ⟨none, none, .store 1 (.tmp 21) (.tmp 19)⟩]⟩])
   .skip)))
def g78 : Fn := ⟨2, 22, [], b78⟩
/- (quiver/topk.hits).Swap -/
def b79 : AC :=
  (.regd [⟨[⟨⟨(some 6), none, .mov (.tmp 0)⟩, true, false, false, 0, [], none⟩,
    ⟨⟨(some 7), none, .mov (.tmp 1)⟩, true, false, false, 0, [], none⟩,
    ⟨⟨(some 8), none, .mov (.tmp 0)⟩, true, false, false, 0, [], none⟩,
    ⟨⟨(some 9), none, .mov (.tmp 2)⟩, true, false, false, 0, [], none⟩,
    ⟨⟨(some 10), none, .mov (.tmp 0)⟩, true, false, false, 0, [], none⟩,
    ⟨⟨(some 11), none, .mov (.tmp 2)⟩, true, false, false, 0, [], none⟩,
    ⟨⟨(some 12), none, .iaddr 2 (.tmp 10) (.tmp 11)⟩, true, false, false, 0, [], none⟩,
    ⟨⟨(some 13), none, .load true 2 (.tmp 12)⟩, false, false, false, 0, [], none⟩,
    ⟨⟨(some 14), none, .mov (.tmp 0)⟩, true, false, false, 0, [], none⟩,
    ⟨⟨(some 15), none, .mov (.tmp 1)⟩, true, false, false, 0, [], none⟩,
    ⟨⟨(some 16), none, .iaddr 2 (.tmp 14) (.tmp 15)⟩, true, false, false, 0, [], none⟩,
    ⟨⟨(some 17), none, .load true 2 (.tmp 16)⟩, false, false, false, 0, [], none⟩,
    ⟨⟨(some 18), none, .iaddr 2 (.tmp 6) (.tmp 7)⟩, true, false, false, 0, [], none⟩,
    ⟨⟨none, none, .store 2 (.tmp 18) (.tmp 13)⟩, false, true, false, 0, [], none⟩], 0, [⟨(some 19), none, .iaddr 2 (.tmp 8) (.tmp 9)⟩,
    ⟨none, none, .store 2 (.tmp 19) (.tmp 17)⟩]⟩])
def g79 : Fn := ⟨3, 20, [], b79⟩

def fnOf : Nat → Option Fn
  | 3 => some g3
  | 4 => some g4
  | 5 => some g5
  | 6 => some g6
  | 7 => some g7
  | 8 => some g8
  | 9 => some g9
  | 10 => some g10
  | 11 => some g11
  | 12 => some g12
  | 13 => some g13
  | 14 => some g14
  | 15 => some g15
  | 16 => some g16
  | 17 => some g17
  | 18 => some g18
  | 19 => some g19
  | 20 => some g20
  | 21 => some g21
  | 22 => some g22
  | 23 => some g23
  | 24 => some g24
  | 25 => some g25
  | 26 => some g26
  | 27 => some g27
  | 28 => some g28
  | 29 => some g29
  | 30 => some g30
  | 31 => some g31
  | 32 => some g32
  | 33 => some g33
  | 34 => some g34
  | 35 => some g35
  | 36 => some g36
  | 37 => some g37
  | 38 => some g38
  | 39 => some g39
  | 40 => some g40
  | 41 => some g41
  | 42 => some g42
  | 43 => some g43
  | 44 => some g44
  | 45 => some g45
  | 46 => some g46
  | 47 => some g47
  | 48 => some g48
  | 49 => some g49
  | 50 => some g50
  | 51 => some g51
  | 52 => some g52
  | 53 => some g53
  | 54 => some g54
  | 55 => some g55
  | 56 => some g56
  | 57 => some g57
  | 58 => some g58
  | 59 => some g59
  | 76 => some g76
  | 77 => some g77
  | 78 => some g78
  | 79 => some g79
  | _ => none
def modeOf (f : Nat) : Mode := if f ∈ [12, 25, 36, 13, 16, 20] then .own else if f ∈ [34, 35, 40, 41, 78, 77, 79, 37, 42, 44, 45, 46, 48, 49, 50, 51, 54, 56, 57, 58, 59] then .raw else .pure
def T : Tab := ⟨fnOf, modeOf⟩
end Go.Q.S6
end

section
/- Hits, and which stands ahead. -/
set_option linter.unusedSimpArgs false
set_option linter.unusedVariables false
namespace Go.Q.S6
open Go.Q

structure Hit where
  id : Int
  d : Int
  deriving Inhabited, DecidableEq

def hitV (x : Hit) : V := .agg [.int .u64 x.id, .int .u64 x.d]

def cmpU (x y : Int) : Int := if x < y then -1 else if y < x then 1 else 0
def cmpH (a b : Hit) : Int := if cmpU a.d b.d = 0 then cmpU a.id b.id else cmpU a.d b.d
/-- Does a hit stand ahead of another one? -/
def ahead (a b : Hit) : Bool := decide (a.d < b.d) || (a.d == b.d && decide (a.id < b.id))

theorem cmp_lt (a b : Hit) : decide (cmpH a b < 0) = ahead a b := by
  unfold cmpH cmpU ahead
  by_cases h1 : a.d < b.d
  · simp [h1]
  · by_cases h2 : b.d < a.d
    · have : a.d ≠ b.d := by omega
      simp [h1, h2, this]
    · have e : a.d = b.d := by omega
      by_cases h3 : a.id < b.id
      · simp [e, h3]
      · by_cases h4 : b.id < a.id <;> simp [e, h3, h4]
theorem cmp_gt (a b : Hit) : decide (0 < cmpH a b) = ahead b a := by
  unfold cmpH cmpU ahead
  by_cases h1 : b.d < a.d
  · have : ¬ a.d < b.d := by omega
    simp [h1, this]
  · by_cases h2 : a.d < b.d
    · have : b.d ≠ a.d := by omega
      simp [h1, h2, this]
    · have e : b.d = a.d := by omega
      by_cases h3 : b.id < a.id
      · have : ¬ a.id < b.id := by omega
        simp [e, h3, this]
      · by_cases h4 : a.id < b.id <;> simp [e, h3, h4]

theorem r38 (x : Int) : res T 38 [.int .u64 x] = some (.bool false) := by
  refine run_res (run_pure (fn := g38) rfl rfl (by decide) ?_)
  simp only [g38, b38]
  simp +contextual -implicitDefEqProofs (maxSteps := 2000000) only [↓wP, wQ, wQ1, wQ2, wQ3, wR, boxE, partsOf, ↓reduceIte, Nat.reduceEqDiff, Nat.reduceAdd, Nat.reduceSub, Nat.reduceLeDiff, Nat.reduceLT, Nat.reduceMul, reduceCtorEq, Int.reduceBNe, Int.reduceBEq, Int.reduceLT, Int.reduceLE, Int.reduceGT]

theorem f38 (x : Int) (fs : Bool) (σ : Sto) (n lk : Nat) : callE T fs 38 [.int .u64 x] σ n lk = some (.bool false, σ, n) :=
  callE_tr (by decide) (r38 x) (by simp [Tr, Tr_slV]) rfl fs σ n lk

theorem r27 (x y : Int) : res T 27 [.int .u64 x, .int .u64 y] = some (.int .i64 (cmpU x y)) := by
  refine run_res (run_pure (fn := g27) rfl rfl (by decide) ?_)
  simp only [g27, b27]
  simp +contextual -implicitDefEqProofs (maxSteps := 2000000) only [↓wP, wQ, wQ1, wQ2, wQ3, wR, boxE, partsOf, ↓reduceIte, Nat.reduceEqDiff, Nat.reduceAdd, Nat.reduceSub, Nat.reduceLeDiff, Nat.reduceLT, Nat.reduceMul, reduceCtorEq, Int.reduceBNe, Int.reduceBEq, Int.reduceLT, Int.reduceLE, Int.reduceGT, f38]
  unfold cmpU
  by_cases h1 : x < y
  · simp +contextual -implicitDefEqProofs (maxSteps := 2000000) only [↓wP, wQ, wQ1, wQ2, wQ3, wR, boxE, partsOf, ↓reduceIte, Nat.reduceEqDiff, Nat.reduceAdd, Nat.reduceSub, Nat.reduceLeDiff, Nat.reduceLT, Nat.reduceMul, reduceCtorEq, Int.reduceBNe, Int.reduceBEq, Int.reduceLT, Int.reduceLE, Int.reduceGT, h1]
  · by_cases h2 : y < x
    · simp +contextual -implicitDefEqProofs (maxSteps := 2000000) only [↓wP, wQ, wQ1, wQ2, wQ3, wR, boxE, partsOf, ↓reduceIte, Nat.reduceEqDiff, Nat.reduceAdd, Nat.reduceSub, Nat.reduceLeDiff, Nat.reduceLT, Nat.reduceMul, reduceCtorEq, Int.reduceBNe, Int.reduceBEq, Int.reduceLT, Int.reduceLE, Int.reduceGT, h1, h2]
    · simp +contextual -implicitDefEqProofs (maxSteps := 2000000) only [↓wP, wQ, wQ1, wQ2, wQ3, wR, boxE, partsOf, ↓reduceIte, Nat.reduceEqDiff, Nat.reduceAdd, Nat.reduceSub, Nat.reduceLeDiff, Nat.reduceLT, Nat.reduceMul, reduceCtorEq, Int.reduceBNe, Int.reduceBEq, Int.reduceLT, Int.reduceLE, Int.reduceGT, h1, h2]

theorem f27 (x y : Int) (fs : Bool) (σ : Sto) (n lk : Nat) : callE T fs 27 [.int .u64 x, .int .u64 y] σ n lk = some (.int .i64 (cmpU x y), σ, n) :=
  callE_tr (by decide) (r27 x y) (by simp [Tr, Tr_slV]) rfl fs σ n lk

theorem r26 (a b : Int) : res T 26 [.sl 1 [.int .i64 a, .int .i64 b]] = some (.int .i64 (if a = 0 then b else a)) := by
  refine run_res (run_pure (fn := g26) rfl rfl (by decide) ?_)
  simp only [g26, b26]
  simp +contextual -implicitDefEqProofs (maxSteps := 2000000) only [↓wP, wQ, wQ1, wQ2, wQ3, wR, boxE, partsOf, ↓reduceIte, Nat.reduceEqDiff, Nat.reduceAdd, Nat.reduceSub, Nat.reduceLeDiff, Nat.reduceLT, Nat.reduceMul, reduceCtorEq, Int.reduceBNe, Int.reduceBEq, Int.reduceLT, Int.reduceLE, Int.reduceGT]
  refine WC_for 2 0 (fun (j : Nat) env σ n => env 3 = .int .i64 0 ∧ env 6 = .sl 1 [.int .i64 a, .int .i64 b] ∧ (0 < j → a = 0) ∧ (1 < j → b = 0)) (by omega) (by decide) (by decide) (fun _ _ => rfl) (fun _ _ _ => rfl) ?_ ?_ _ _ _ rfl rfl ?_
  · intro j env σ n hj h1 h2 ⟨h3, h4, h5, h6⟩
    simp only [vl_tmp] at h2
    match j, hj with
    | 0, _ =>
      by_cases ha : a = 0
      · have hd : (a != 0) = false := by simp [ha]
        simp +contextual -implicitDefEqProofs (maxSteps := 2000000) only [↓wP, wQ, wQ1, wQ2, wQ3, wR, boxE, partsOf, ↓reduceIte, Nat.reduceEqDiff, Nat.reduceAdd, Nat.reduceSub, Nat.reduceLeDiff, Nat.reduceLT, Nat.reduceMul, reduceCtorEq, Int.reduceBNe, Int.reduceBEq, Int.reduceLT, Int.reduceLE, Int.reduceGT, h1, h2, h3, h4, hd]
        exact ⟨fun _ => ha, fun h => h.elim⟩
      · have hd : (a != 0) = true := by simp [ha]
        simp +contextual -implicitDefEqProofs (maxSteps := 2000000) only [↓wP, wQ, wQ1, wQ2, wQ3, wR, boxE, partsOf, ↓reduceIte, Nat.reduceEqDiff, Nat.reduceAdd, Nat.reduceSub, Nat.reduceLeDiff, Nat.reduceLT, Nat.reduceMul, reduceCtorEq, Int.reduceBNe, Int.reduceBEq, Int.reduceLT, Int.reduceLE, Int.reduceGT, h1, h2, h3, h4, hd, ha]
    | 1, _ =>
      have ha := h5 (by omega)
      by_cases hb : b = 0
      · have hd : (b != 0) = false := by simp [hb]
        simp +contextual -implicitDefEqProofs (maxSteps := 2000000) only [↓wP, wQ, wQ1, wQ2, wQ3, wR, boxE, partsOf, ↓reduceIte, Nat.reduceEqDiff, Nat.reduceAdd, Nat.reduceSub, Nat.reduceLeDiff, Nat.reduceLT, Nat.reduceMul, reduceCtorEq, Int.reduceBNe, Int.reduceBEq, Int.reduceLT, Int.reduceLE, Int.reduceGT, h1, h2, h3, h4, hd]
        exact ⟨fun _ => ha, fun _ => hb⟩
      · have hd : (b != 0) = true := by simp [hb]
        simp +contextual -implicitDefEqProofs (maxSteps := 2000000) only [↓wP, wQ, wQ1, wQ2, wQ3, wR, boxE, partsOf, ↓reduceIte, Nat.reduceEqDiff, Nat.reduceAdd, Nat.reduceSub, Nat.reduceLeDiff, Nat.reduceLT, Nat.reduceMul, reduceCtorEq, Int.reduceBNe, Int.reduceBEq, Int.reduceLT, Int.reduceLE, Int.reduceGT, h1, h2, h3, h4, hd, ha]
  · intro env σ n ⟨h3, h4, h5, h6⟩ h1 h2
    have ha : a = 0 := h5 (by decide)
    have hb : b = 0 := h6 (by decide)
    simp +contextual -implicitDefEqProofs (maxSteps := 2000000) only [↓wP, wQ, wQ1, wQ2, wQ3, wR, boxE, partsOf, ↓reduceIte, Nat.reduceEqDiff, Nat.reduceAdd, Nat.reduceSub, Nat.reduceLeDiff, Nat.reduceLT, Nat.reduceMul, reduceCtorEq, Int.reduceBNe, Int.reduceBEq, Int.reduceLT, Int.reduceLE, Int.reduceGT, h3, ha, hb]
  · simp +contextual -implicitDefEqProofs (maxSteps := 2000000) only [↓wP, wQ, wQ1, wQ2, wQ3, wR, boxE, partsOf, ↓reduceIte, Nat.reduceEqDiff, Nat.reduceAdd, Nat.reduceSub, Nat.reduceLeDiff, Nat.reduceLT, Nat.reduceMul, reduceCtorEq, Int.reduceBNe, Int.reduceBEq, Int.reduceLT, Int.reduceLE, Int.reduceGT]
    exact ⟨fun h => absurd h (by decide), fun h => absurd h (by decide)⟩

theorem f26 (a b : Int) (fs : Bool) (σ : Sto) (n lk : Nat) : callE T fs 26 [.sl 1 [.int .i64 a, .int .i64 b]] σ n lk = some (.int .i64 (if a = 0 then b else a), σ, n) :=
  callE_tr (by decide) (r26 a b) (by simp [Tr, Tr_slV]) rfl fs σ n lk

theorem r17 (i d i' d' : Int) : res T 17 [.agg [.int .u64 i, .int .u64 d], .agg [.int .u64 i', .int .u64 d']] = some (.int .i64 (cmpH ⟨i, d⟩ ⟨i', d'⟩)) := by
  refine run_res (run_pure (fn := g17) rfl rfl (by decide) ?_)
  simp only [g17, b17]
  have h26 := r26 (cmpU d d') (cmpU i i')
  have hm26 : T.mode 26 ≠ .raw := by decide
  simp +contextual -implicitDefEqProofs (maxSteps := 2000000) only [↓wP, wQ, wQ1, wQ2, wQ3, wR, boxE, partsOf, ↓reduceIte, Nat.reduceEqDiff, Nat.reduceAdd, Nat.reduceSub, Nat.reduceLeDiff, Nat.reduceLT, Nat.reduceMul, reduceCtorEq, Int.reduceBNe, Int.reduceBEq, Int.reduceLT, Int.reduceLE, Int.reduceGT, f27, callE_eq hm26, frz_rf, h26]
  rfl

theorem f17 (i d i' d' : Int) (fs : Bool) (σ : Sto) (n lk : Nat) : callE T fs 17 [.agg [.int .u64 i, .int .u64 d], .agg [.int .u64 i', .int .u64 d']] σ n lk = some (.int .i64 (cmpH ⟨i, d⟩ ⟨i', d'⟩), σ, n) :=
  callE_tr (by decide) (r17 i d i' d') (by simp [Tr, Tr_slV]) rfl fs σ n lk

end Go.Q.S6
end

section
/- The pivot of a sort. -/
set_option linter.unusedSimpArgs false
set_option linter.unusedVariables false
namespace Go.Q.S6
open Go.Q

/-- A row of hits, as it stands. -/
def rw' (d : Array Hit) : List V := d.toList.map hitV
theorem rw_len (d : Array Hit) : (rw' d).length = d.size := by simp [rw']
theorem rw_at {d : Array Hit} {i : Nat} (h : i < d.size) : (rw' d)[i]? = some (.agg [.int .u64 (d[i]!).id, .int .u64 (d[i]!).d]) := by
  unfold rw'
  rw [List.getElem?_map, List.getElem?_eq_getElem (by simpa using h), Option.map_some]
  simp [hitV, h]

theorem wrap_nat {m : Nat} (h : m < 9223372036854775808) : IntKind.i64.wrap (m : Int) = (m : Int) := by rw [wrap_i64] <;> omega

theorem bin_quo4 (m : Nat) (h : m < 9223372036854775808) : binV .quo (.int .i64 (m : Int)) (.int .i64 4) = some (.int .i64 ((m / 4 : Nat) : Int)) := by
  rw [bin_quo .i64 (m : Int) 4 (by decide)]
  have e : (m : Int).tdiv 4 = ((m / 4 : Nat) : Int) := rfl
  rw [e, wrap_nat (by omega)]
theorem raw59 (d : Array Hit) (a b : Nat) (s : Int) (sid n : Nat) (σ : Sto) (ha : a < d.size) (hb : b < d.size) (hs : σ sid = some (.row 1 [.int .i64 s])) {Q : V → Sto → Nat → Prop}
    (hQ : ∀ (x y : Nat) (s' : Int) (σ' : Sto), (x = a ∨ x = b) → (y = a ∨ y = b) → σ' sid = some (.row 1 [.int .i64 s']) → (∀ i, i ≠ sid → σ' i = σ i) → Q (.tup [.int .i64 (x : Int), .int .i64 (y : Int)]) σ' n) :
    run T (.raw 59 [.sl 2 (rw' d), .int .i64 (a : Int), .int .i64 (b : Int), .ptr sid 1 0 0, .fn 17 []] σ n 0) (memQ Q) := by
  refine run_rawE (fn := g59) rfl rfl ?_
  simp only [g59, b59]
  have hxa := rw_at ha
  have hxb := rw_at hb
  by_cases hc : cmpH d[b]! d[a]! < 0
  · simp +contextual -implicitDefEqProofs (maxSteps := 2000000) only [↓wP, wQ, wQ1, wQ2, wQ3, wR, boxE, partsOf, ↓reduceIte, Nat.reduceEqDiff, Nat.reduceAdd, Nat.reduceSub, Nat.reduceLeDiff, Nat.reduceLT, Nat.reduceMul, reduceCtorEq, Int.reduceBNe, Int.reduceBEq, Int.reduceLT, Int.reduceLE, Int.reduceGT, hxa, hxb, f17, hc, hs]
    exact hQ b a _ _ (.inr rfl) (.inl rfl) (by simp [upd]; rfl) (fun i hi => by simp [upd, hi])
  · simp +contextual -implicitDefEqProofs (maxSteps := 2000000) only [↓wP, wQ, wQ1, wQ2, wQ3, wR, boxE, partsOf, ↓reduceIte, Nat.reduceEqDiff, Nat.reduceAdd, Nat.reduceSub, Nat.reduceLeDiff, Nat.reduceLT, Nat.reduceMul, reduceCtorEq, Int.reduceBNe, Int.reduceBEq, Int.reduceLT, Int.reduceLE, Int.reduceGT, hxa, hxb, f17, hc, hs]
    exact hQ a b _ _ (.inl rfl) (.inr rfl) hs (fun i hi => rfl)

theorem raw58 (d : Array Hit) (a b c : Nat) (s : Int) (sid n : Nat) (σ : Sto) (ha : a < d.size) (hb : b < d.size) (hc : c < d.size) (hs : σ sid = some (.row 1 [.int .i64 s])) {Q : V → Sto → Nat → Prop}
    (hQ : ∀ (x : Nat) (s' : Int) (σ' : Sto), (x = a ∨ x = b ∨ x = c) → σ' sid = some (.row 1 [.int .i64 s']) → (∀ i, i ≠ sid → σ' i = σ i) → Q (.int .i64 (x : Int)) σ' n) :
    run T (.raw 58 [.sl 2 (rw' d), .int .i64 (a : Int), .int .i64 (b : Int), .int .i64 (c : Int), .ptr sid 1 0 0, .fn 17 []] σ n 0) (memQ Q) := by
  refine run_rawE (fn := g58) rfl rfl ?_
  simp only [g58, b58]
  simp +contextual -implicitDefEqProofs (maxSteps := 2000000) only [↓wP, wQ, wQ1, wQ2, wQ3, wR, boxE, partsOf, ↓reduceIte, Nat.reduceEqDiff, Nat.reduceAdd, Nat.reduceSub, Nat.reduceLeDiff, Nat.reduceLT, Nat.reduceMul, reduceCtorEq, Int.reduceBNe, Int.reduceBEq, Int.reduceLT, Int.reduceLE, Int.reduceGT]
  refine stepW_raw (by decide) (raw59 d a b s sid n σ ha hb hs fun x y s1 σ1 hx hy h1 h2 => ?_)
  simp +contextual -implicitDefEqProofs (maxSteps := 2000000) only [↓wP, wQ, wQ1, wQ2, wQ3, wR, boxE, partsOf, ↓reduceIte, Nat.reduceEqDiff, Nat.reduceAdd, Nat.reduceSub, Nat.reduceLeDiff, Nat.reduceLT, Nat.reduceMul, reduceCtorEq, Int.reduceBNe, Int.reduceBEq, Int.reduceLT, Int.reduceLE, Int.reduceGT]
  have hy' : y < d.size := by rcases hy with rfl | rfl <;> assumption
  have hx' : x < d.size := by rcases hx with rfl | rfl <;> assumption
  refine stepW_raw (by decide) (raw59 d y c s1 sid n σ1 hy' hc h1 fun x2 y2 s2 σ2 hx2 hy2 h3 h4 => ?_)
  simp +contextual -implicitDefEqProofs (maxSteps := 2000000) only [↓wP, wQ, wQ1, wQ2, wQ3, wR, boxE, partsOf, ↓reduceIte, Nat.reduceEqDiff, Nat.reduceAdd, Nat.reduceSub, Nat.reduceLeDiff, Nat.reduceLT, Nat.reduceMul, reduceCtorEq, Int.reduceBNe, Int.reduceBEq, Int.reduceLT, Int.reduceLE, Int.reduceGT]
  have hx2' : x2 < d.size := by rcases hx2 with rfl | rfl <;> assumption
  refine stepW_raw (by decide) (raw59 d x x2 s2 sid n σ2 hx' hx2' h3 fun x3 y3 s3 σ3 hx3 hy3 h5 h6 => ?_)
  simp +contextual -implicitDefEqProofs (maxSteps := 2000000) only [↓wP, wQ, wQ1, wQ2, wQ3, wR, boxE, partsOf, ↓reduceIte, Nat.reduceEqDiff, Nat.reduceAdd, Nat.reduceSub, Nat.reduceLeDiff, Nat.reduceLT, Nat.reduceMul, reduceCtorEq, Int.reduceBNe, Int.reduceBEq, Int.reduceLT, Int.reduceLE, Int.reduceGT]
  refine hQ y3 s3 σ3 ?_ h5 (fun i hi => by rw [h6 i hi, h4 i hi, h2 i hi])
  rcases hy3 with rfl | rfl
  · rcases hx with rfl | rfl <;> simp
  · rcases hx2 with rfl | rfl
    · rcases hy with rfl | rfl <;> simp
    · simp

/-- The pivot, of fewer than fifty: somewhere in the part; a hint. -/
theorem r47 (d : Array Hit) (a b : Nat) (hab : a < b) (hb : b ≤ d.size) (h50 : b - a < 50) (hn : d.size < 1000000) :
    ∃ (p : Nat) (h : Int), a ≤ p ∧ p < b ∧ (h = 0 ∨ h = 1 ∨ h = 2) ∧ res T 47 [.sl 2 (rw' d), .int .i64 (a : Int), .int .i64 (b : Int), .fn 17 []] = some (.tup [.int .i64 (p : Int), .int .i64 h]) := by
  obtain ⟨r, hr, p, h, h1, h2, h3, rfl⟩ := res_pure (T := T) (f := 47) (args := [.sl 2 (rw' d), .int .i64 (a : Int), .int .i64 (b : Int), .fn 17 []])
      (R := fun r => ∃ (p : Nat) (h : Int), a ≤ p ∧ p < b ∧ (h = 0 ∨ h = 1 ∨ h = 2) ∧ r = .tup [.int .i64 (p : Int), .int .i64 h]) (fn := g47) rfl rfl (by decide) (by
    simp only [g47, b47]
    have w1 : IntKind.i64.wrap ((b : Int) - (a : Int)) = ((b - a : Nat) : Int) := by rw [wrap_i64] <;> omega
    have q4 := bin_quo4 (b - a) (by omega)
    have w2 : IntKind.i64.wrap ((((b - a) / 4 : Nat) : Int) * 1) = (((b - a) / 4 : Nat) : Int) := by rw [wrap_i64] <;> omega
    have w3 : IntKind.i64.wrap ((((b - a) / 4 : Nat) : Int) * 2) = (((b - a) / 4 * 2 : Nat) : Int) := by rw [wrap_i64] <;> omega
    have w4 : IntKind.i64.wrap ((((b - a) / 4 : Nat) : Int) * 3) = (((b - a) / 4 * 3 : Nat) : Int) := by rw [wrap_i64] <;> omega
    have w5 : IntKind.i64.wrap ((a : Int) + (((b - a) / 4 : Nat) : Int)) = ((a + (b - a) / 4 : Nat) : Int) := by rw [wrap_i64] <;> omega
    have w6 : IntKind.i64.wrap ((a : Int) + (((b - a) / 4 * 2 : Nat) : Int)) = ((a + (b - a) / 4 * 2 : Nat) : Int) := by rw [wrap_i64] <;> omega
    have w7 : IntKind.i64.wrap ((a : Int) + (((b - a) / 4 * 3 : Nat) : Int)) = ((a + (b - a) / 4 * 3 : Nat) : Int) := by rw [wrap_i64] <;> omega
    have c50 : ¬ (50 : Int) ≤ ((b - a : Nat) : Int) := by omega
    have fin : ∀ (p : Nat) (s' : Int), a ≤ p → p < b → True := fun _ _ _ _ => trivial
    by_cases c8 : (8 : Int) ≤ ((b - a : Nat) : Int)
    · simp +contextual -implicitDefEqProofs (maxSteps := 2000000) only [↓wP, wQ, wQ1, wQ2, wQ3, wR, boxE, partsOf, ↓reduceIte, Nat.reduceEqDiff, Nat.reduceAdd, Nat.reduceSub, Nat.reduceLeDiff, Nat.reduceLT, Nat.reduceMul, reduceCtorEq, Int.reduceBNe, Int.reduceBEq, Int.reduceLT, Int.reduceLE, Int.reduceGT, w1, q4, w2, w3, w4, w5, w6, w7, c8, c50]
      refine stepW_raw (by decide) (raw58 d _ _ _ 0 0 1 _ (by omega) (by omega) (by omega) (by simp [upd]) fun x s' σ' hx h1 h2 => ?_)
      have hx' : a ≤ x ∧ x < b := by omega
      by_cases e0 : s' = 0
      · simp +contextual -implicitDefEqProofs (maxSteps := 2000000) only [↓wP, wQ, wQ1, wQ2, wQ3, wR, boxE, partsOf, ↓reduceIte, Nat.reduceEqDiff, Nat.reduceAdd, Nat.reduceSub, Nat.reduceLeDiff, Nat.reduceLT, Nat.reduceMul, reduceCtorEq, Int.reduceBNe, Int.reduceBEq, Int.reduceLT, Int.reduceLE, Int.reduceGT, h1, e0]
        exact ⟨x, 1, hx'.1, hx'.2, by simp, rfl⟩
      · have d0 : (s' == 0) = false := by simpa using e0
        by_cases e12 : s' = 12
        · simp +contextual -implicitDefEqProofs (maxSteps := 2000000) only [↓wP, wQ, wQ1, wQ2, wQ3, wR, boxE, partsOf, ↓reduceIte, Nat.reduceEqDiff, Nat.reduceAdd, Nat.reduceSub, Nat.reduceLeDiff, Nat.reduceLT, Nat.reduceMul, reduceCtorEq, Int.reduceBNe, Int.reduceBEq, Int.reduceLT, Int.reduceLE, Int.reduceGT, h1, e12]
          exact ⟨x, 2, hx'.1, hx'.2, by simp, rfl⟩
        · have d12 : (s' == 12) = false := by simpa using e12
          simp +contextual -implicitDefEqProofs (maxSteps := 2000000) only [↓wP, wQ, wQ1, wQ2, wQ3, wR, boxE, partsOf, ↓reduceIte, Nat.reduceEqDiff, Nat.reduceAdd, Nat.reduceSub, Nat.reduceLeDiff, Nat.reduceLT, Nat.reduceMul, reduceCtorEq, Int.reduceBNe, Int.reduceBEq, Int.reduceLT, Int.reduceLE, Int.reduceGT, h1, d0, d12]
          exact ⟨x, 0, hx'.1, hx'.2, by simp, rfl⟩
    · simp +contextual -implicitDefEqProofs (maxSteps := 2000000) only [↓wP, wQ, wQ1, wQ2, wQ3, wR, boxE, partsOf, ↓reduceIte, Nat.reduceEqDiff, Nat.reduceAdd, Nat.reduceSub, Nat.reduceLeDiff, Nat.reduceLT, Nat.reduceMul, reduceCtorEq, Int.reduceBNe, Int.reduceBEq, Int.reduceLT, Int.reduceLE, Int.reduceGT, w1, q4, w2, w3, w4, w5, w6, w7, c8, c50]
      exact ⟨a + (b - a) / 4 * 2, 1, by omega, by omega, by simp, rfl⟩)
  exact ⟨p, h, h1, h2, h3, hr⟩

end Go.Q.S6
end

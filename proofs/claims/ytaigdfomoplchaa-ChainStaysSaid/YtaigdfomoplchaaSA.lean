/- The compact code of this seat's functions, printed by a program. -/
import Derived.Test.YtaigdfomoplchaaQC
import Derived.Test.YtaigdfomoplchaaProg
import Derived.KernelRfl
section
namespace Go.Q.S4
/- quiver/quiverlaw08.ChainOne -/
def b3 : AC :=
  (.seq (.reg [⟨(some 4), none, .mov (.con (.bool false))⟩])
  (.seq (.seq (.reg [⟨(some 13), none, .call 9 []⟩,
    ⟨(some 14), none, .un .not (.tmp 13)⟩])
  (.cond (.tmp 14)
   (.seq (.reg [⟨(some 4), none, .mov (.con (.bool false))⟩])
   .ret)
   .skip))
  (.seq (.reg [⟨(some 15), none, .mov (.tmp 0)⟩,
    ⟨(some 16), none, .call 10 [(.tmp 15)]⟩,
    ⟨(some 5), none, .mov (.tmp 16)⟩])
  (.seq (.seq (.reg [⟨(some 17), none, .mov (.tmp 5)⟩,
    ⟨(some 18), none, .call 11 [(.tmp 17)]⟩,
    ⟨(some 19), none, .bin .neq (.tmp 18) (.con (.int .i64 0))⟩])
  (.cond (.tmp 19)
   (.seq (.reg [⟨(some 4), none, .mov (.con (.bool true))⟩])
   .ret)
   .skip))
  (.seq (.seq (.reg [⟨(some 20), none, .mov (.tmp 5)⟩,
    ⟨(some 21), none, .call 12 [(.tmp 20)]⟩,
    ⟨(some 22), none, .mov (.tmp 1)⟩,
    ⟨(some 23), none, .append 1 8 (.tmp 21) (.tmp 22)⟩,
    ⟨(some 24), none, .len (.tmp 23)⟩,
    ⟨(some 25), none, .mov (.con (.int .i64 0))⟩])
  (.block 0 (.loop (.seq (.reg [⟨(some 26), none, .bin .lss (.tmp 25) (.tmp 24)⟩])
    (.seq (.cond (.tmp 26)
     .skip
     (.exit 0))
    (.seq (.block 1 (.seq (.reg [⟨(some 27), none, .mov (.tmp 25)⟩,
       ⟨(some 28), none, .iaddr 1 (.tmp 23) (.tmp 25)⟩,
       ⟨(some 29), none, .load false 1 (.tmp 28)⟩,
       ⟨(some 6), none, .mov (.tmp 27)⟩,
       ⟨(some 7), none, .mov (.tmp 29)⟩])
     (.seq (.seq (.reg [⟨(some 30), none, .mov (.tmp 6)⟩,
       ⟨(some 31), none, .bin .eql (.tmp 30) (.con (.int .i64 400))⟩])
     (.cond (.tmp 31)
      (.exit 0)
      .skip))
     (.seq (.reg [⟨(some 8), none, .mov (.con (.int .i64 0))⟩])
     (.seq (.reg [⟨(some 33), none, .mov (.tmp 5)⟩,
       ⟨(some 34), none, .mov (.tmp 7)⟩,
       ⟨(some 35), none, .call 13 [(.tmp 33), (.tmp 34)]⟩,
       ⟨(some 32), none, .mov (.tmp 35)⟩,
       ⟨(some 36), none, .ext (.tmp 32) 0⟩,
       ⟨(some 37), none, .ext (.tmp 32) 1⟩,
       ⟨(some 9), none, .mov (.tmp 36)⟩,
       ⟨(some 10), none, .mov (.tmp 37)⟩])
     (.seq (.seq (.reg [⟨(some 38), none, .mov (.tmp 5)⟩,
       ⟨(some 39), none, .len (.tmp 38)⟩,
       ⟨(some 40), none, .mov (.con (.int .i64 0))⟩])
     (.block 2 (.loop (.seq (.reg [⟨(some 41), none, .bin .lss (.tmp 40) (.tmp 39)⟩])
       (.seq (.cond (.tmp 41)
        .skip
        (.exit 2))
       (.seq (.block 3 (.seq (.reg [⟨(some 42), none, .mov (.tmp 40)⟩,
          ⟨(some 43), none, .iaddr 3 (.tmp 38) (.tmp 40)⟩,
          ⟨(some 44), none, .load true 3 (.tmp 43)⟩,
          ⟨(some 12), none, .alloc (.agg [(.int .u64 0), (.int .u64 0), .nilS])⟩,
          ⟨(some 11), none, .mov (.tmp 42)⟩,
          ⟨none, none, .store 3 (.tmp 12) (.tmp 44)⟩])
        (.seq (.reg [⟨(some 45), none, .faddr (.tmp 12) 0⟩,
          ⟨(some 46), none, .load false 1 (.tmp 45)⟩,
          ⟨(some 47), none, .mov (.tmp 7)⟩,
          ⟨(some 48), none, .bin .leq (.tmp 46) (.tmp 47)⟩,
          ⟨(some 49), none, .mov (.tmp 48)⟩,
          ⟨(some 50), (some (49, true)), .faddr (.tmp 12) 1⟩,
          ⟨(some 51), (some (49, true)), .load false 1 (.tmp 50)⟩,
          ⟨(some 52), (some (49, true)), .bin .eql (.tmp 51) (.con (.int .u64 0))⟩,
          ⟨(some 53), (some (49, true)), .mov (.tmp 52)⟩,
          ⟨(some 54), (some (53, false)), .mov (.tmp 7)⟩,
          ⟨(some 55), (some (53, false)), .faddr (.tmp 12) 1⟩,
          ⟨(some 56), (some (53, false)), .load false 1 (.tmp 55)⟩,
          ⟨(some 57), (some (53, false)), .bin .lss (.tmp 54) (.tmp 56)⟩,
          ⟨(some 58), (some (49, true)), .pick (.tmp 53) (.con (.bool true)) (.tmp 57)⟩,
          ⟨(some 59), none, .pick (.tmp 49) (.tmp 58) (.con (.bool false))⟩])
        (.cond (.tmp 59)
         (.seq (.reg [⟨(some 60), none, .mov (.tmp 8)⟩,
           ⟨(some 61), none, .bin .add (.tmp 60) (.con (.int .i64 1))⟩,
           ⟨(some 8), none, .mov (.tmp 61)⟩])
         (.seq (.reg [⟨(some 62), none, .mov (.tmp 11)⟩,
           ⟨(some 63), none, .mov (.tmp 9)⟩,
           ⟨(some 64), none, .bin .neq (.tmp 62) (.tmp 63)⟩])
         (.cond (.tmp 64)
          (.seq (.reg [⟨(some 4), none, .mov (.con (.bool false))⟩])
          .ret)
          .skip)))
         .skip))))
       (.reg [⟨(some 65), none, .bin .add (.tmp 40) (.con (.int .i64 1))⟩,
         ⟨(some 40), none, .mov (.tmp 65)⟩])))))))
     (.seq (.reg [⟨(some 66), none, .mov (.tmp 8)⟩,
       ⟨(some 67), none, .bin .gtr (.tmp 66) (.con (.int .i64 1))⟩,
       ⟨(some 68), none, .mov (.tmp 67)⟩,
       ⟨(some 69), (some (68, false)), .mov (.tmp 8)⟩,
       ⟨(some 70), (some (68, false)), .bin .eql (.tmp 69) (.con (.int .i64 1))⟩,
       ⟨(some 71), (some (68, false)), .mov (.tmp 10)⟩,
       ⟨(some 72), (some (68, false)), .eqB true (.tmp 70) (.tmp 71)⟩,
       ⟨(some 73), none, .pick (.tmp 68) (.con (.bool true)) (.tmp 72)⟩])
     (.cond (.tmp 73)
      (.seq (.reg [⟨(some 4), none, .mov (.con (.bool false))⟩])
      .ret)
      .skip))))))))
    (.reg [⟨(some 74), none, .bin .add (.tmp 25) (.con (.int .i64 1))⟩,
      ⟨(some 25), none, .mov (.tmp 74)⟩])))))))
  (.seq (.reg [⟨(some 4), none, .mov (.con (.bool true))⟩])
  .ret))))))
def g3 : Fn := ⟨2, 75, [.tmp 4], b3⟩
/- quiver/quiverlaw08.ChainDoes -/
def b4 : AC :=
  (.seq (.reg [⟨(some 4), none, .mov (.con (.bool false))⟩])
  (.seq (.seq (.reg [⟨(some 17), none, .call 9 []⟩,
    ⟨(some 18), none, .un .not (.tmp 17)⟩])
  (.cond (.tmp 18)
   (.seq (.reg [⟨(some 4), none, .mov (.con (.bool false))⟩])
   .ret)
   .skip))
  (.seq (.reg [⟨(some 19), none, .mov (.tmp 0)⟩,
    ⟨(some 20), none, .call 10 [(.tmp 19)]⟩,
    ⟨(some 5), none, .mov (.tmp 20)⟩])
  (.seq (.seq (.reg [⟨(some 21), none, .mov (.tmp 1)⟩,
    ⟨(some 22), none, .len (.tmp 21)⟩,
    ⟨(some 23), none, .mov (.con (.int .i64 0))⟩])
  (.block 0 (.loop (.seq (.reg [⟨(some 24), none, .bin .lss (.tmp 23) (.tmp 22)⟩])
    (.seq (.cond (.tmp 24)
     .skip
     (.exit 0))
    (.seq (.block 1 (.seq (.reg [⟨(some 25), none, .mov (.tmp 23)⟩,
       ⟨(some 26), none, .iaddr 4 (.tmp 21) (.tmp 23)⟩,
       ⟨(some 27), none, .load true 4 (.tmp 26)⟩,
       ⟨(some 7), none, .alloc (.agg [(.int .i64 0), (.int .u64 0), (.bool false), .nilS])⟩,
       ⟨(some 6), none, .mov (.tmp 25)⟩,
       ⟨none, none, .store 4 (.tmp 7) (.tmp 27)⟩])
     (.seq (.seq (.reg [⟨(some 28), none, .mov (.tmp 6)⟩,
       ⟨(some 29), none, .bin .eql (.tmp 28) (.con (.int .i64 40))⟩])
     (.cond (.tmp 29)
      (.exit 0)
      .skip))
     (.seq (.reg [⟨(some 30), none, .mov (.tmp 5)⟩,
       ⟨(some 31), none, .call 14 [(.tmp 30)]⟩,
       ⟨(some 8), none, .mov (.tmp 31)⟩])
     (.seq (.reg [⟨(some 33), none, .load true 4 (.tmp 7)⟩,
       ⟨(some 34), none, .mov (.tmp 5)⟩,
       ⟨(some 35), none, .call 15 [(.tmp 33), (.tmp 34)]⟩,
       ⟨(some 32), none, .mov (.tmp 35)⟩,
       ⟨(some 36), none, .ext (.tmp 32) 0⟩,
       ⟨(some 37), none, .ext (.tmp 32) 1⟩,
       ⟨(some 38), none, .ext (.tmp 32) 2⟩,
       ⟨(some 9), none, .mov (.tmp 36)⟩,
       ⟨(some 10), none, .mov (.tmp 37)⟩,
       ⟨(some 11), none, .mov (.tmp 38)⟩])
     (.seq (.regd [⟨[⟨⟨(some 40), none, .load true 4 (.tmp 7)⟩, false, false, false, 0, [0]⟩,
       ⟨⟨(some 41), none, .mov (.tmp 8)⟩, true, false, false, 0, []⟩,
       ⟨⟨(some 42), none, .call 14 [(.tmp 41)]⟩, false, false, true, 0, []⟩], 1, [⟨(some 43), none, .call 16 [(.tmp 40), (.tmp 42)]⟩,
       ⟨(some 39), none, .mov (.tmp 43)⟩]⟩,
      ⟨[⟨⟨(some 44), none, .ext (.tmp 39) 0⟩, true, false, false, 0, []⟩,
       ⟨⟨(some 45), none, .ext (.tmp 39) 1⟩, true, false, false, 0, []⟩,
       ⟨⟨(some 46), none, .ext (.tmp 39) 2⟩, true, false, false, 0, []⟩,
       ⟨⟨(some 12), none, .mov (.tmp 44)⟩, true, false, false, 0, []⟩,
       ⟨⟨(some 13), none, .mov (.tmp 45)⟩, true, false, false, 0, []⟩], 0, [⟨(some 14), none, .mov (.tmp 46)⟩]⟩])
     (.seq (.seq (.reg [⟨(some 47), none, .mov (.tmp 11)⟩,
       ⟨(some 48), none, .mov (.tmp 14)⟩,
       ⟨(some 49), none, .bin .neq (.tmp 47) (.tmp 48)⟩,
       ⟨(some 50), none, .mov (.tmp 49)⟩,
       ⟨(some 51), (some (50, false)), .mov (.tmp 9)⟩,
       ⟨(some 52), (some (50, false)), .mov (.tmp 12)⟩,
       ⟨(some 53), (some (50, false)), .call 17 [(.tmp 51), (.tmp 52)]⟩,
       ⟨(some 54), (some (50, false)), .un .not (.tmp 53)⟩,
       ⟨(some 55), none, .pick (.tmp 50) (.con (.bool true)) (.tmp 54)⟩,
       ⟨(some 56), none, .mov (.tmp 55)⟩,
       ⟨(some 57), (some (56, false)), .mov (.tmp 10)⟩,
       ⟨(some 58), (some (56, false)), .mov (.tmp 13)⟩,
       ⟨(some 59), (some (56, false)), .call 17 [(.tmp 57), (.tmp 58)]⟩,
       ⟨(some 60), (some (56, false)), .un .not (.tmp 59)⟩,
       ⟨(some 61), none, .pick (.tmp 56) (.con (.bool true)) (.tmp 60)⟩,
       ⟨(some 62), none, .mov (.tmp 61)⟩,
       ⟨(some 63), (some (62, false)), .mov (.tmp 5)⟩,
       ⟨(some 64), (some (62, false)), .mov (.tmp 8)⟩,
       ⟨(some 65), (some (62, false)), .call 17 [(.tmp 63), (.tmp 64)]⟩,
       ⟨(some 66), (some (62, false)), .un .not (.tmp 65)⟩,
       ⟨(some 67), none, .pick (.tmp 62) (.con (.bool true)) (.tmp 66)⟩])
     (.cond (.tmp 67)
      (.seq (.reg [⟨(some 4), none, .mov (.con (.bool false))⟩])
      .ret)
      .skip))
     (.seq (.reg [⟨(some 68), none, .mov (.tmp 12)⟩,
       ⟨(some 69), none, .call 14 [(.tmp 68)]⟩,
       ⟨(some 12), none, .mov (.tmp 69)⟩])
     (.seq (.seq (.reg [⟨(some 70), none, .mov (.tmp 9)⟩,
       ⟨(some 71), none, .len (.tmp 70)⟩,
       ⟨(some 72), none, .mov (.con (.int .i64 0))⟩])
     (.block 2 (.loop (.seq (.reg [⟨(some 73), none, .bin .lss (.tmp 72) (.tmp 71)⟩])
       (.seq (.cond (.tmp 73)
        .skip
        (.exit 2))
       (.seq (.block 3 (.seq (.reg [⟨(some 74), none, .mov (.tmp 72)⟩,
          ⟨(some 15), none, .mov (.tmp 74)⟩])
        (.seq (.reg [⟨(some 75), none, .mov (.tmp 9)⟩,
          ⟨(some 76), none, .mov (.tmp 15)⟩,
          ⟨(some 77), none, .iaddr 3 (.tmp 75) (.tmp 76)⟩,
          ⟨(some 78), none, .faddr (.tmp 77) 1⟩,
          ⟨none, none, .store 1 (.tmp 78) (.con (.int .u64 77))⟩])
        (.seq (.reg [⟨(some 79), none, .mov (.tmp 9)⟩,
          ⟨(some 80), none, .mov (.tmp 15)⟩,
          ⟨(some 81), none, .iaddr 3 (.tmp 79) (.tmp 80)⟩,
          ⟨(some 82), none, .faddr (.tmp 81) 2⟩,
          ⟨(some 83), none, .load false 1 (.tmp 82)⟩,
          ⟨(some 84), none, .len (.tmp 83)⟩,
          ⟨(some 85), none, .mov (.con (.int .i64 0))⟩])
        (.block 4 (.loop (.seq (.reg [⟨(some 86), none, .bin .lss (.tmp 85) (.tmp 84)⟩])
          (.seq (.cond (.tmp 86)
           .skip
           (.exit 4))
          (.seq (.block 5 (.seq (.reg [⟨(some 87), none, .mov (.tmp 85)⟩,
             ⟨(some 16), none, .mov (.tmp 87)⟩])
           (.reg [⟨(some 88), none, .mov (.tmp 9)⟩,
             ⟨(some 89), none, .mov (.tmp 15)⟩,
             ⟨(some 90), none, .iaddr 3 (.tmp 88) (.tmp 89)⟩,
             ⟨(some 91), none, .faddr (.tmp 90) 2⟩,
             ⟨(some 92), none, .load false 1 (.tmp 91)⟩,
             ⟨(some 93), none, .mov (.tmp 16)⟩,
             ⟨(some 94), none, .iaddr 1 (.tmp 92) (.tmp 93)⟩,
             ⟨(some 95), none, .load false 1 (.tmp 94)⟩,
             ⟨(some 96), none, .bin .xor (.tmp 95) (.con (.int .i32 238))⟩,
             ⟨(some 97), none, .iaddr 1 (.tmp 92) (.tmp 93)⟩,
             ⟨none, none, .store 1 (.tmp 97) (.tmp 96)⟩])))
          (.reg [⟨(some 98), none, .bin .add (.tmp 85) (.con (.int .i64 1))⟩,
            ⟨(some 85), none, .mov (.tmp 98)⟩]))))))))))
       (.reg [⟨(some 99), none, .bin .add (.tmp 72) (.con (.int .i64 1))⟩,
         ⟨(some 72), none, .mov (.tmp 99)⟩])))))))
     (.seq (.seq (.reg [⟨(some 100), none, .mov (.tmp 5)⟩,
       ⟨(some 101), none, .mov (.tmp 8)⟩,
       ⟨(some 102), none, .call 17 [(.tmp 100), (.tmp 101)]⟩,
       ⟨(some 103), none, .un .not (.tmp 102)⟩])
     (.cond (.tmp 103)
      (.seq (.reg [⟨(some 4), none, .mov (.con (.bool false))⟩])
      .ret)
      .skip))
     (.seq (.reg [⟨(some 104), none, .mov (.tmp 11)⟩,
       ⟨(some 105), none, .bin .eql (.tmp 104) (.con (.int .i64 0))⟩])
     (.cond (.tmp 105)
      (.reg [⟨(some 106), none, .mov (.tmp 12)⟩,
        ⟨(some 5), none, .mov (.tmp 106)⟩])
      .skip))))))))))))
    (.reg [⟨(some 107), none, .bin .add (.tmp 23) (.con (.int .i64 1))⟩,
      ⟨(some 23), none, .mov (.tmp 107)⟩])))))))
  (.seq (.reg [⟨(some 4), none, .mov (.con (.bool true))⟩])
  .ret)))))
def g4 : Fn := ⟨2, 108, [.tmp 4], b4⟩
/- quiver/quiverlaw08.ChainMost -/
def b5 : AC :=
  (.seq (.reg [⟨(some 4), none, .mov (.con (.bool false))⟩])
  (.seq (.seq (.reg [⟨(some 15), none, .call 9 []⟩,
    ⟨(some 16), none, .un .not (.tmp 15)⟩])
  (.cond (.tmp 16)
   (.seq (.reg [⟨(some 4), none, .mov (.con (.bool false))⟩])
   .ret)
   .skip))
  (.seq (.reg [⟨(some 17), none, .mov (.tmp 0)⟩,
    ⟨(some 18), none, .bin .rem (.tmp 17) (.con (.int .i64 3))⟩,
    ⟨(some 19), none, .bin .add (.tmp 18) (.con (.int .i64 3))⟩,
    ⟨(some 20), none, .bin .rem (.tmp 19) (.con (.int .i64 3))⟩,
    ⟨(some 21), none, .bin .add (.con (.int .i64 95)) (.tmp 20)⟩,
    ⟨(some 5), none, .mov (.tmp 21)⟩])
  (.seq (.reg [⟨(some 6), none, .mov (.con .nilS)⟩])
  (.seq (.seq (.reg [⟨(some 22), none, .mov (.tmp 5)⟩,
    ⟨(some 23), none, .mov (.con (.int .i64 0))⟩])
  (.block 0 (.loop (.seq (.reg [⟨(some 24), none, .bin .lss (.tmp 23) (.tmp 22)⟩])
    (.seq (.cond (.tmp 24)
     .skip
     (.exit 0))
    (.seq (.block 1 (.seq (.reg [⟨(some 25), none, .mov (.tmp 23)⟩,
       ⟨(some 7), none, .mov (.tmp 25)⟩])
     (.reg [⟨(some 26), none, .mov (.tmp 6)⟩,
       ⟨(some 27), none, .mov (.tmp 7)⟩,
       ⟨(some 28), none, .conv .u64 (.tmp 27)⟩,
       ⟨(some 29), none, .bin .add (.tmp 28) (.con (.int .u64 1))⟩,
       ⟨(some 30), none, .mov (.tmp 7)⟩,
       ⟨(some 31), none, .conv .u64 (.tmp 30)⟩,
       ⟨(some 32), none, .bin .add (.tmp 31) (.con (.int .u64 2))⟩,
       ⟨(some 33), none, .lit 1 [(.con (.int .i32 1))]⟩,
       ⟨(some 34), none, .build [(.int .u64 0), (.int .u64 0), .nilS] [(0, 1, (.tmp 29)), (1, 1, (.tmp 32)), (2, 1, (.tmp 33))]⟩,
       ⟨(some 35), none, .lit 3 [(.tmp 34)]⟩,
       ⟨(some 36), none, .append 3 40 (.tmp 26) (.tmp 35)⟩,
       ⟨(some 6), none, .mov (.tmp 36)⟩])))
    (.reg [⟨(some 37), none, .bin .add (.tmp 23) (.con (.int .i64 1))⟩,
      ⟨(some 23), none, .mov (.tmp 37)⟩])))))))
  (.seq (.reg [⟨(some 38), none, .mov (.tmp 1)⟩,
    ⟨(some 39), none, .lit 1 [(.con (.int .i32 2))]⟩,
    ⟨(some 40), none, .build [(.int .i64 0), (.int .u64 0), (.bool false), .nilS] [(2, 1, (.con (.bool true))), (1, 1, (.tmp 38)), (3, 1, (.tmp 39))]⟩,
    ⟨(some 8), none, .alloc (.agg [(.int .i64 0), (.int .u64 0), (.bool false), .nilS])⟩,
    ⟨none, none, .store 4 (.tmp 8) (.tmp 40)⟩])
  (.seq (.reg [⟨(some 42), none, .load true 4 (.tmp 8)⟩,
    ⟨(some 43), none, .mov (.tmp 6)⟩,
    ⟨(some 44), none, .call 15 [(.tmp 42), (.tmp 43)]⟩,
    ⟨(some 41), none, .mov (.tmp 44)⟩,
    ⟨(some 45), none, .ext (.tmp 41) 0⟩,
    ⟨(some 46), none, .ext (.tmp 41) 1⟩,
    ⟨(some 47), none, .ext (.tmp 41) 2⟩,
    ⟨(some 9), none, .mov (.tmp 45)⟩,
    ⟨(some 10), none, .mov (.tmp 46)⟩,
    ⟨(some 11), none, .mov (.tmp 47)⟩])
  (.seq (.reg [⟨(some 49), none, .load true 4 (.tmp 8)⟩,
    ⟨(some 50), none, .mov (.tmp 6)⟩,
    ⟨(some 51), none, .call 16 [(.tmp 49), (.tmp 50)]⟩,
    ⟨(some 48), none, .mov (.tmp 51)⟩,
    ⟨(some 52), none, .ext (.tmp 48) 0⟩,
    ⟨(some 53), none, .ext (.tmp 48) 1⟩,
    ⟨(some 54), none, .ext (.tmp 48) 2⟩,
    ⟨(some 12), none, .mov (.tmp 52)⟩,
    ⟨(some 13), none, .mov (.tmp 53)⟩,
    ⟨(some 14), none, .mov (.tmp 54)⟩])
  (.seq (.reg [⟨(some 55), none, .mov (.tmp 11)⟩,
    ⟨(some 56), none, .mov (.tmp 14)⟩,
    ⟨(some 57), none, .bin .eql (.tmp 55) (.tmp 56)⟩,
    ⟨(some 58), none, .mov (.tmp 57)⟩,
    ⟨(some 59), (some (58, true)), .mov (.tmp 9)⟩,
    ⟨(some 60), (some (58, true)), .mov (.tmp 12)⟩,
    ⟨(some 61), (some (58, true)), .call 17 [(.tmp 59), (.tmp 60)]⟩,
    ⟨(some 62), none, .pick (.tmp 58) (.tmp 61) (.con (.bool false))⟩,
    ⟨(some 4), none, .mov (.tmp 62)⟩])
  .ret)))))))))
def g5 : Fn := ⟨2, 63, [.tmp 4], b5⟩
/- quiver/quiverlaw08.ChainStays -/
def b6 : AC :=
  (.seq (.reg [⟨(some 3), none, .box (.tmp 1)⟩,
    ⟨(some 4), none, .mov (.con (.bool false))⟩])
  (.seq (.seq (.reg [⟨(some 18), none, .call 9 []⟩,
    ⟨(some 19), none, .un .not (.tmp 18)⟩])
  (.cond (.tmp 19)
   (.seq (.reg [⟨(some 4), none, .mov (.con (.bool false))⟩])
   .ret)
   .skip))
  (.seq (.reg [⟨(some 20), none, .mov (.tmp 0)⟩,
    ⟨(some 21), none, .call 10 [(.tmp 20)]⟩,
    ⟨(some 5), none, .mov (.tmp 21)⟩])
  (.seq (.reg [⟨(some 23), none, .load true 4 (.tmp 3)⟩,
    ⟨(some 24), none, .mov (.tmp 5)⟩,
    ⟨(some 25), none, .call 15 [(.tmp 23), (.tmp 24)]⟩,
    ⟨(some 22), none, .mov (.tmp 25)⟩,
    ⟨(some 26), none, .ext (.tmp 22) 0⟩,
    ⟨(some 27), none, .ext (.tmp 22) 1⟩,
    ⟨(some 28), none, .ext (.tmp 22) 2⟩,
    ⟨(some 6), none, .mov (.tmp 26)⟩,
    ⟨(some 7), none, .mov (.tmp 27)⟩,
    ⟨(some 8), none, .mov (.tmp 28)⟩])
  (.seq (.seq (.reg [⟨(some 29), none, .mov (.tmp 8)⟩,
    ⟨(some 30), none, .bin .neq (.tmp 29) (.con (.int .i64 0))⟩])
  (.cond (.tmp 30)
   (.seq (.reg [⟨(some 31), none, .mov (.tmp 6)⟩,
     ⟨(some 32), none, .len (.tmp 31)⟩,
     ⟨(some 33), none, .mov (.tmp 7)⟩,
     ⟨(some 34), none, .len (.tmp 33)⟩,
     ⟨(some 35), none, .bin .add (.tmp 32) (.tmp 34)⟩,
     ⟨(some 36), none, .bin .eql (.tmp 35) (.con (.int .i64 0))⟩,
     ⟨(some 4), none, .mov (.tmp 36)⟩])
   .ret)
   .skip))
  (.seq (.reg [⟨(some 37), none, .load true 4 (.tmp 3)⟩,
    ⟨(some 38), none, .mov (.tmp 5)⟩,
    ⟨(some 39), none, .call 18 [(.tmp 37), (.tmp 38)]⟩,
    ⟨(some 9), none, .mov (.tmp 39)⟩])
  (.seq (.reg [⟨(some 40), none, .faddr (.tmp 3) 0⟩,
    ⟨(some 41), none, .load false 1 (.tmp 40)⟩,
    ⟨(some 42), none, .conv .u64 (.tmp 41)⟩,
    ⟨(some 43), none, .bin .rem (.tmp 42) (.con (.int .u64 5))⟩,
    ⟨(some 44), none, .bin .eql (.tmp 43) (.con (.int .u64 4))⟩,
    ⟨(some 10), none, .mov (.tmp 44)⟩])
  (.seq (.seq (.reg [⟨(some 45), none, .mov (.tmp 6)⟩,
    ⟨(some 46), none, .call 11 [(.tmp 45)]⟩,
    ⟨(some 47), none, .bin .neq (.tmp 46) (.con (.int .i64 0))⟩,
    ⟨(some 48), none, .mov (.tmp 47)⟩,
    ⟨(some 49), (some (48, false)), .mov (.tmp 7)⟩,
    ⟨(some 50), (some (48, false)), .call 11 [(.tmp 49)]⟩,
    ⟨(some 51), (some (48, false)), .bin .neq (.tmp 50) (.con (.int .i64 0))⟩,
    ⟨(some 52), none, .pick (.tmp 48) (.con (.bool true)) (.tmp 51)⟩])
  (.cond (.tmp 52)
   (.seq (.reg [⟨(some 4), none, .mov (.con (.bool false))⟩])
   .ret)
   .skip))
  (.seq (.seq (.reg [⟨(some 53), none, .mov (.tmp 5)⟩,
    ⟨(some 54), none, .call 12 [(.tmp 53)]⟩,
    ⟨(some 55), none, .mov (.tmp 9)⟩,
    ⟨(some 56), none, .mov (.tmp 9)⟩,
    ⟨(some 57), none, .bin .add (.tmp 56) (.con (.int .u64 1))⟩,
    ⟨(some 58), none, .lit 1 [(.tmp 55), (.tmp 57)]⟩,
    ⟨(some 59), none, .append 1 8 (.tmp 54) (.tmp 58)⟩,
    ⟨(some 60), none, .len (.tmp 59)⟩,
    ⟨(some 61), none, .mov (.con (.int .i64 0))⟩])
  (.block 0 (.loop (.seq (.reg [⟨(some 62), none, .bin .lss (.tmp 61) (.tmp 60)⟩])
    (.seq (.cond (.tmp 62)
     .skip
     (.exit 0))
    (.seq (.block 1 (.seq (.reg [⟨(some 63), none, .iaddr 1 (.tmp 59) (.tmp 61)⟩,
       ⟨(some 64), none, .load false 1 (.tmp 63)⟩,
       ⟨(some 12), none, .mov (.tmp 64)⟩])
     (.seq (.reg [⟨(some 65), none, .mov (.tmp 10)⟩,
       ⟨(some 66), none, .mov (.tmp 65)⟩,
       ⟨(some 67), (some (66, true)), .mov (.tmp 12)⟩,
       ⟨(some 68), (some (66, true)), .mov (.tmp 9)⟩,
       ⟨(some 69), (some (66, true)), .bin .geq (.tmp 67) (.tmp 68)⟩,
       ⟨(some 70), none, .pick (.tmp 66) (.tmp 69) (.con (.bool false))⟩,
       ⟨(some 71), none, .mov (.tmp 70)⟩,
       ⟨(some 72), (some (71, false)), .mov (.tmp 10)⟩,
       ⟨(some 73), (some (71, false)), .un .not (.tmp 72)⟩,
       ⟨(some 74), (some (71, false)), .mov (.tmp 73)⟩,
       ⟨(some 75), (some (74, true)), .mov (.tmp 12)⟩,
       ⟨(some 76), (some (74, true)), .mov (.tmp 9)⟩,
       ⟨(some 77), (some (74, true)), .bin .lss (.tmp 75) (.tmp 76)⟩,
       ⟨(some 78), (some (71, false)), .pick (.tmp 74) (.tmp 77) (.con (.bool false))⟩,
       ⟨(some 79), none, .pick (.tmp 71) (.con (.bool true)) (.tmp 78)⟩,
       ⟨(some 80), none, .mov (.tmp 79)⟩,
       ⟨(some 81), (some (80, true)), .mov (.tmp 5)⟩,
       ⟨(some 82), (some (80, true)), .mov (.tmp 12)⟩,
       ⟨(some 83), (some (80, true)), .call 20 [(.tmp 81), (.tmp 82)]⟩,
       ⟨(some 84), (some (80, true)), .mov (.tmp 6)⟩,
       ⟨(some 85), (some (80, true)), .mov (.tmp 12)⟩,
       ⟨(some 86), (some (80, true)), .call 20 [(.tmp 84), (.tmp 85)]⟩,
       ⟨(some 87), (some (80, true)), .call 19 [(.tmp 83), (.tmp 86)]⟩,
       ⟨(some 88), (some (80, true)), .un .not (.tmp 87)⟩,
       ⟨(some 89), none, .pick (.tmp 80) (.tmp 88) (.con (.bool false))⟩])
     (.cond (.tmp 89)
      (.seq (.reg [⟨(some 4), none, .mov (.con (.bool false))⟩])
      .ret)
      .skip))))
    (.reg [⟨(some 90), none, .bin .add (.tmp 61) (.con (.int .i64 1))⟩,
      ⟨(some 61), none, .mov (.tmp 90)⟩])))))))
  (.seq (.block 2 (.seq (.reg [⟨(some 92), none, .mov (.tmp 10)⟩,
     ⟨(some 91), none, .mov (.tmp 92)⟩])
   (.cond (.tmp 91)
    (.seq (.seq (.reg [⟨(some 93), none, .mov (.tmp 6)⟩,
      ⟨(some 94), none, .len (.tmp 93)⟩,
      ⟨(some 95), none, .mov (.con (.int .i64 0))⟩])
    (.block 3 (.loop (.seq (.reg [⟨(some 96), none, .bin .lss (.tmp 95) (.tmp 94)⟩])
      (.seq (.cond (.tmp 96)
       .skip
       (.exit 3))
      (.seq (.block 4 (.seq (.reg [⟨(some 97), none, .iaddr 3 (.tmp 93) (.tmp 95)⟩,
         ⟨(some 98), none, .load true 3 (.tmp 97)⟩,
         ⟨(some 14), none, .alloc (.agg [(.int .u64 0), (.int .u64 0), .nilS])⟩,
         ⟨none, none, .store 3 (.tmp 14) (.tmp 98)⟩])
       (.seq (.reg [⟨(some 99), none, .faddr (.tmp 14) 1⟩,
         ⟨(some 100), none, .load false 1 (.tmp 99)⟩,
         ⟨(some 101), none, .bin .neq (.tmp 100) (.con (.int .u64 0))⟩,
         ⟨(some 102), none, .mov (.tmp 101)⟩,
         ⟨(some 103), (some (102, true)), .faddr (.tmp 14) 1⟩,
         ⟨(some 104), (some (102, true)), .load false 1 (.tmp 103)⟩,
         ⟨(some 105), (some (102, true)), .mov (.tmp 9)⟩,
         ⟨(some 106), (some (102, true)), .bin .leq (.tmp 104) (.tmp 105)⟩,
         ⟨(some 107), none, .pick (.tmp 102) (.tmp 106) (.con (.bool false))⟩])
       (.cond (.tmp 107)
        (.seq (.reg [⟨(some 4), none, .mov (.con (.bool false))⟩])
        .ret)
        .skip))))
      (.reg [⟨(some 108), none, .bin .add (.tmp 95) (.con (.int .i64 1))⟩,
        ⟨(some 95), none, .mov (.tmp 108)⟩])))))))
    (.seq (.seq (.reg [⟨(some 109), none, .mov (.tmp 7)⟩,
      ⟨(some 110), none, .len (.tmp 109)⟩,
      ⟨(some 111), none, .mov (.con (.int .i64 0))⟩])
    (.block 5 (.loop (.seq (.reg [⟨(some 112), none, .bin .lss (.tmp 111) (.tmp 110)⟩])
      (.seq (.cond (.tmp 112)
       .skip
       (.exit 5))
      (.seq (.block 6 (.seq (.reg [⟨(some 113), none, .iaddr 3 (.tmp 109) (.tmp 111)⟩,
         ⟨(some 114), none, .load true 3 (.tmp 113)⟩,
         ⟨(some 16), none, .alloc (.agg [(.int .u64 0), (.int .u64 0), .nilS])⟩,
         ⟨none, none, .store 3 (.tmp 16) (.tmp 114)⟩])
       (.seq (.reg [⟨(some 115), none, .faddr (.tmp 16) 1⟩,
         ⟨(some 116), none, .load false 1 (.tmp 115)⟩,
         ⟨(some 117), none, .bin .eql (.tmp 116) (.con (.int .u64 0))⟩,
         ⟨(some 118), none, .mov (.tmp 117)⟩,
         ⟨(some 119), (some (118, false)), .faddr (.tmp 16) 1⟩,
         ⟨(some 120), (some (118, false)), .load false 1 (.tmp 119)⟩,
         ⟨(some 121), (some (118, false)), .mov (.tmp 9)⟩,
         ⟨(some 122), (some (118, false)), .bin .gtr (.tmp 120) (.tmp 121)⟩,
         ⟨(some 123), none, .pick (.tmp 118) (.con (.bool true)) (.tmp 122)⟩])
       (.cond (.tmp 123)
        (.seq (.reg [⟨(some 4), none, .mov (.con (.bool false))⟩])
        .ret)
        .skip))))
      (.reg [⟨(some 124), none, .bin .add (.tmp 111) (.con (.int .i64 1))⟩,
        ⟨(some 111), none, .mov (.tmp 124)⟩])))))))
    (.seq (.seq (.reg [⟨(some 125), none, .mov (.tmp 5)⟩,
      ⟨(some 126), none, .call 21 [(.tmp 125)]⟩,
      ⟨(some 17), none, .mov (.tmp 126)⟩])
    (.seq (.reg [⟨(some 127), none, .mov (.tmp 17)⟩,
      ⟨(some 128), none, .mov (.tmp 9)⟩,
      ⟨(some 129), none, .bin .gtr (.tmp 127) (.tmp 128)⟩,
      ⟨(some 130), none, .mov (.tmp 129)⟩,
      ⟨(some 131), (some (130, true)), .mov (.tmp 6)⟩,
      ⟨(some 132), (some (130, true)), .call 21 [(.tmp 131)]⟩,
      ⟨(some 133), (some (130, true)), .mov (.tmp 17)⟩,
      ⟨(some 134), (some (130, true)), .bin .neq (.tmp 132) (.tmp 133)⟩,
      ⟨(some 135), none, .pick (.tmp 130) (.tmp 134) (.con (.bool false))⟩])
    (.cond (.tmp 135)
     (.seq (.reg [⟨(some 4), none, .mov (.con (.bool false))⟩])
     .ret)
     .skip)))
    (.seq (.reg [⟨(some 136), none, .mov (.tmp 6)⟩,
      ⟨(some 137), none, .len (.tmp 136)⟩,
      ⟨(some 138), none, .mov (.tmp 7)⟩,
      ⟨(some 139), none, .len (.tmp 138)⟩,
      ⟨(some 140), none, .bin .add (.tmp 137) (.tmp 139)⟩,
      ⟨(some 141), none, .mov (.tmp 5)⟩,
      ⟨(some 142), none, .len (.tmp 141)⟩,
      ⟨(some 143), none, .bin .eql (.tmp 140) (.tmp 142)⟩,
      ⟨(some 4), none, .mov (.tmp 143)⟩])
    .ret))))
    (.seq (.reg [⟨(some 145), none, .faddr (.tmp 3) 0⟩,
      ⟨(some 146), none, .load false 1 (.tmp 145)⟩,
      ⟨(some 147), none, .conv .u64 (.tmp 146)⟩,
      ⟨(some 148), none, .bin .rem (.tmp 147) (.con (.int .u64 5))⟩,
      ⟨(some 149), none, .bin .eql (.tmp 148) (.con (.int .u64 3))⟩,
      ⟨(some 144), none, .mov (.tmp 149)⟩])
    (.cond (.tmp 144)
     (.seq (.reg [⟨(some 150), none, .mov (.tmp 6)⟩,
       ⟨(some 151), none, .mov (.tmp 9)⟩,
       ⟨(some 152), none, .call 20 [(.tmp 150), (.tmp 151)]⟩,
       ⟨(some 153), none, .eqN false (.tmp 152)⟩,
       ⟨(some 154), none, .mov (.tmp 153)⟩,
       ⟨(some 155), (some (154, true)), .mov (.tmp 6)⟩,
       ⟨(some 156), (some (154, true)), .call 21 [(.tmp 155)]⟩,
       ⟨(some 157), (some (154, true)), .mov (.tmp 9)⟩,
       ⟨(some 158), (some (154, true)), .bin .eql (.tmp 156) (.tmp 157)⟩,
       ⟨(some 159), none, .pick (.tmp 154) (.tmp 158) (.con (.bool false))⟩,
       ⟨(some 4), none, .mov (.tmp 159)⟩])
     .ret)
     .skip)))))
  (.seq (.regd [⟨[⟨⟨(some 160), none, .mov (.tmp 6)⟩, true, false, false, 0, []⟩,
    ⟨⟨(some 161), none, .mov (.tmp 9)⟩, true, false, false, 0, []⟩,
    ⟨⟨(some 162), none, .call 20 [(.tmp 160), (.tmp 161)]⟩, false, false, false, 0, []⟩,
    ⟨⟨(some 163), none, .load true 4 (.tmp 3)⟩, false, false, false, 0, []⟩], 0, [⟨(some 164), none, .call 22 [(.tmp 163)]⟩,
    ⟨(some 165), none, .call 19 [(.tmp 162), (.tmp 164)]⟩,
    ⟨(some 166), none, .mov (.tmp 165)⟩]⟩,
   ⟨[⟨⟨(some 167), (some (166, true)), .mov (.tmp 6)⟩, true, false, false, 0, []⟩,
    ⟨⟨(some 168), (some (166, true)), .call 20 [(.tmp 167), (.con (.int .u64 1099511627776))]⟩, false, false, false, 0, []⟩,
    ⟨⟨(some 169), (some (166, true)), .load true 4 (.tmp 3)⟩, false, false, false, 0, []⟩], 0, [⟨(some 170), (some (166, true)), .call 22 [(.tmp 169)]⟩,
    ⟨(some 171), (some (166, true)), .call 19 [(.tmp 168), (.tmp 170)]⟩,
    ⟨(some 172), none, .pick (.tmp 166) (.tmp 171) (.con (.bool false))⟩,
    ⟨(some 173), none, .mov (.tmp 172)⟩]⟩,
   ⟨[⟨⟨(some 174), (some (173, true)), .mov (.tmp 6)⟩, true, false, false, 0, []⟩,
    ⟨⟨(some 175), (some (173, true)), .call 21 [(.tmp 174)]⟩, false, false, false, 0, []⟩,
    ⟨⟨(some 176), (some (173, true)), .mov (.tmp 9)⟩, true, false, false, 0, []⟩], 0, [⟨(some 177), (some (173, true)), .bin .eql (.tmp 175) (.tmp 176)⟩,
    ⟨(some 178), none, .pick (.tmp 173) (.tmp 177) (.con (.bool false))⟩,
    ⟨(some 4), none, .mov (.tmp 178)⟩]⟩])
  .ret)))))))))))
def g6 : Fn := ⟨2, 179, [.tmp 4], b6⟩
/- quiver/quiverlaw08.ChainTells -/
def b7 : AC :=
  (.seq (.reg [⟨(some 4), none, .mov (.con (.bool false))⟩])
  (.seq (.seq (.reg [⟨(some 18), none, .call 9 []⟩,
    ⟨(some 19), none, .un .not (.tmp 18)⟩])
  (.cond (.tmp 19)
   (.seq (.reg [⟨(some 4), none, .mov (.con (.bool false))⟩])
   .ret)
   .skip))
  (.seq (.seq (.reg [⟨(some 20), none, .mov (.tmp 0)⟩,
    ⟨(some 21), none, .len (.tmp 20)⟩,
    ⟨(some 22), none, .mov (.con (.int .i64 0))⟩])
  (.block 0 (.loop (.seq (.reg [⟨(some 23), none, .bin .lss (.tmp 22) (.tmp 21)⟩])
    (.seq (.cond (.tmp 23)
     .skip
     (.exit 0))
    (.seq (.block 1 (.seq (.reg [⟨(some 24), none, .mov (.tmp 22)⟩,
       ⟨(some 25), none, .iaddr 1 (.tmp 20) (.tmp 22)⟩,
       ⟨(some 26), none, .load false 1 (.tmp 25)⟩,
       ⟨(some 5), none, .mov (.tmp 24)⟩,
       ⟨(some 6), none, .mov (.tmp 26)⟩])
     (.seq (.seq (.reg [⟨(some 27), none, .mov (.tmp 5)⟩,
       ⟨(some 28), none, .bin .eql (.tmp 27) (.con (.int .i64 6))⟩])
     (.cond (.tmp 28)
      (.exit 0)
      .skip))
     (.seq (.regd [⟨[⟨⟨(some 29), none, .mov (.tmp 6)⟩, true, false, false, 0, []⟩,
       ⟨⟨(some 30), none, .call 10 [(.tmp 29)]⟩, false, false, false, 0, []⟩,
       ⟨⟨(some 31), none, .mov (.tmp 0)⟩, true, false, false, 0, []⟩,
       ⟨⟨(some 32), none, .iaddr 1 (.tmp 31) (.con (.int .i64 0))⟩, true, false, false, 0, []⟩,
       ⟨⟨(some 33), none, .load false 1 (.tmp 32)⟩, false, false, false, 0, []⟩], 0, [⟨(some 34), none, .call 10 [(.tmp 33)]⟩,
       ⟨(some 7), none, .mov (.tmp 30)⟩,
       ⟨(some 8), none, .mov (.tmp 34)⟩]⟩])
     (.seq (.reg [⟨(some 35), none, .mov (.tmp 7)⟩,
       ⟨(some 36), none, .call 23 [(.tmp 35)]⟩,
       ⟨(some 9), none, .mov (.tmp 36)⟩])
     (.seq (.seq (.reg [⟨(some 37), none, .mov (.tmp 7)⟩,
       ⟨(some 38), none, .call 11 [(.tmp 37)]⟩,
       ⟨(some 10), none, .mov (.tmp 38)⟩])
     (.seq (.reg [⟨(some 39), none, .mov (.tmp 10)⟩,
       ⟨(some 40), none, .bin .eql (.tmp 39) (.con (.int .i64 0))⟩,
       ⟨(some 41), none, .mov (.tmp 9)⟩,
       ⟨(some 42), none, .eqB true (.tmp 40) (.tmp 41)⟩,
       ⟨(some 43), none, .mov (.tmp 42)⟩,
       ⟨(some 44), (some (43, false)), .mov (.tmp 9)⟩,
       ⟨(some 45), (some (43, false)), .un .not (.tmp 44)⟩,
       ⟨(some 46), (some (43, false)), .mov (.tmp 45)⟩,
       ⟨(some 47), (some (46, true)), .mov (.tmp 10)⟩,
       ⟨(some 48), (some (46, true)), .bin .neq (.tmp 47) (.con (.int .i64 180))⟩,
       ⟨(some 49), (some (43, false)), .pick (.tmp 46) (.tmp 48) (.con (.bool false))⟩,
       ⟨(some 50), none, .pick (.tmp 43) (.con (.bool true)) (.tmp 49)⟩,
       ⟨(some 51), none, .mov (.tmp 50)⟩,
       ⟨(some 52), (some (51, false)), .mov (.tmp 7)⟩,
       ⟨(some 53), (some (51, false)), .mov (.tmp 8)⟩,
       ⟨(some 54), (some (51, false)), .call 24 [(.tmp 52), (.tmp 53)]⟩,
       ⟨(some 55), (some (51, false)), .mov (.tmp 7)⟩,
       ⟨(some 56), (some (51, false)), .mov (.tmp 8)⟩,
       ⟨(some 57), (some (51, false)), .call 17 [(.tmp 55), (.tmp 56)]⟩,
       ⟨(some 58), (some (51, false)), .eqB true (.tmp 54) (.tmp 57)⟩,
       ⟨(some 59), none, .pick (.tmp 51) (.con (.bool true)) (.tmp 58)⟩,
       ⟨(some 60), none, .mov (.tmp 59)⟩,
       ⟨(some 61), (some (60, false)), .mov (.tmp 7)⟩,
       ⟨(some 62), (some (60, false)), .mov (.tmp 6)⟩,
       ⟨(some 63), (some (60, false)), .call 10 [(.tmp 62)]⟩,
       ⟨(some 64), (some (60, false)), .call 24 [(.tmp 61), (.tmp 63)]⟩,
       ⟨(some 65), (some (60, false)), .un .not (.tmp 64)⟩,
       ⟨(some 66), none, .pick (.tmp 60) (.con (.bool true)) (.tmp 65)⟩])
     (.cond (.tmp 66)
      (.seq (.reg [⟨(some 4), none, .mov (.con (.bool false))⟩])
      .ret)
      .skip)))
     (.seq (.reg [⟨(some 11), none, .mov (.con (.int .u64 0))⟩])
     (.seq (.seq (.reg [⟨(some 67), none, .mov (.tmp 9)⟩])
     (.cond (.tmp 67)
      (.reg [⟨(some 68), none, .mov (.tmp 7)⟩,
        ⟨(some 69), none, .call 25 [(.tmp 68)]⟩,
        ⟨(some 11), none, .mov (.tmp 69)⟩])
      .skip))
     (.seq (.seq (.reg [⟨(some 70), none, .mov (.tmp 7)⟩,
       ⟨(some 71), none, .call 21 [(.tmp 70)]⟩,
       ⟨(some 72), none, .mov (.tmp 11)⟩,
       ⟨(some 73), none, .bin .neq (.tmp 71) (.tmp 72)⟩])
     (.cond (.tmp 73)
      (.seq (.reg [⟨(some 4), none, .mov (.con (.bool false))⟩])
      .ret)
      .skip))
     (.seq (.reg [⟨(some 74), none, .mov (.tmp 1)⟩,
       ⟨(some 75), none, .len (.tmp 74)⟩,
       ⟨(some 76), none, .mov (.con (.int .i64 0))⟩])
     (.block 2 (.loop (.seq (.reg [⟨(some 77), none, .bin .lss (.tmp 76) (.tmp 75)⟩])
       (.seq (.cond (.tmp 77)
        .skip
        (.exit 2))
       (.seq (.block 3 (.seq (.reg [⟨(some 78), none, .mov (.tmp 76)⟩,
          ⟨(some 79), none, .iaddr 1 (.tmp 74) (.tmp 76)⟩,
          ⟨(some 80), none, .load false 1 (.tmp 79)⟩,
          ⟨(some 12), none, .mov (.tmp 78)⟩,
          ⟨(some 13), none, .mov (.tmp 80)⟩])
        (.seq (.seq (.reg [⟨(some 81), none, .mov (.tmp 12)⟩,
          ⟨(some 82), none, .bin .eql (.tmp 81) (.con (.int .i64 20))⟩])
        (.cond (.tmp 82)
         (.exit 2)
         .skip))
        (.seq (.reg [⟨(some 84), none, .mov (.tmp 7)⟩,
          ⟨(some 85), none, .mov (.tmp 13)⟩,
          ⟨(some 86), none, .call 13 [(.tmp 84), (.tmp 85)]⟩,
          ⟨(some 83), none, .mov (.tmp 86)⟩,
          ⟨(some 87), none, .ext (.tmp 83) 0⟩,
          ⟨(some 88), none, .ext (.tmp 83) 1⟩,
          ⟨(some 14), none, .mov (.tmp 87)⟩,
          ⟨(some 15), none, .mov (.tmp 88)⟩])
        (.seq (.reg [⟨(some 16), none, .mov (.con (.int .i64 0))⟩,
          ⟨(some 17), none, .mov (.con (.bool false))⟩])
        (.seq (.seq (.reg [⟨(some 89), none, .mov (.tmp 9)⟩])
        (.cond (.tmp 89)
         (.reg [⟨(some 91), none, .mov (.tmp 7)⟩,
           ⟨(some 92), none, .mov (.tmp 13)⟩,
           ⟨(some 93), none, .call 26 [(.tmp 91), (.tmp 92)]⟩,
           ⟨(some 90), none, .mov (.tmp 93)⟩,
           ⟨(some 94), none, .ext (.tmp 90) 0⟩,
           ⟨(some 95), none, .ext (.tmp 90) 1⟩,
           ⟨(some 16), none, .mov (.tmp 94)⟩,
           ⟨(some 17), none, .mov (.tmp 95)⟩])
         .skip))
        (.seq (.reg [⟨(some 96), none, .mov (.tmp 14)⟩,
          ⟨(some 97), none, .mov (.tmp 16)⟩,
          ⟨(some 98), none, .bin .neq (.tmp 96) (.tmp 97)⟩,
          ⟨(some 99), none, .mov (.tmp 98)⟩,
          ⟨(some 100), (some (99, false)), .mov (.tmp 15)⟩,
          ⟨(some 101), (some (99, false)), .mov (.tmp 17)⟩,
          ⟨(some 102), (some (99, false)), .eqB true (.tmp 100) (.tmp 101)⟩,
          ⟨(some 103), none, .pick (.tmp 99) (.con (.bool true)) (.tmp 102)⟩])
        (.cond (.tmp 103)
         (.seq (.reg [⟨(some 4), none, .mov (.con (.bool false))⟩])
         .ret)
         .skip))))))))
       (.reg [⟨(some 104), none, .bin .add (.tmp 76) (.con (.int .i64 1))⟩,
         ⟨(some 76), none, .mov (.tmp 104)⟩]))))))))))))))))
    (.reg [⟨(some 105), none, .bin .add (.tmp 22) (.con (.int .i64 1))⟩,
      ⟨(some 22), none, .mov (.tmp 105)⟩])))))))
  (.seq (.reg [⟨(some 4), none, .mov (.con (.bool true))⟩])
  .ret))))
def g7 : Fn := ⟨2, 106, [.tmp 4], b7⟩
/- quiver/quiverlaw08.ChainLater -/
def b8 : AC :=
  (.seq (.reg [⟨(some 3), none, .box (.tmp 1)⟩,
    ⟨(some 4), none, .mov (.con (.bool false))⟩])
  (.seq (.seq (.reg [⟨(some 18), none, .call 9 []⟩,
    ⟨(some 19), none, .un .not (.tmp 18)⟩])
  (.cond (.tmp 19)
   (.seq (.reg [⟨(some 4), none, .mov (.con (.bool false))⟩])
   .ret)
   .skip))
  (.seq (.reg [⟨(some 20), none, .mov (.tmp 0)⟩,
    ⟨(some 21), none, .call 10 [(.tmp 20)]⟩,
    ⟨(some 5), none, .mov (.tmp 21)⟩])
  (.seq (.regd [⟨[⟨⟨(some 22), none, .iaddrA 2 1 (.tmp 3) (.con (.int .i64 0))⟩, true, false, false, 0, []⟩,
    ⟨⟨(some 23), none, .load false 1 (.tmp 22)⟩, false, false, false, 0, []⟩,
    ⟨⟨(some 24), none, .iaddrA 2 1 (.tmp 3) (.con (.int .i64 1))⟩, true, false, false, 0, []⟩,
    ⟨⟨(some 25), none, .load false 1 (.tmp 24)⟩, false, false, false, 0, []⟩,
    ⟨⟨(some 26), none, .min [(.tmp 23), (.tmp 25)]⟩, true, false, false, 0, []⟩,
    ⟨⟨(some 27), none, .iaddrA 2 1 (.tmp 3) (.con (.int .i64 0))⟩, true, false, false, 0, []⟩,
    ⟨⟨(some 28), none, .load false 1 (.tmp 27)⟩, false, false, false, 0, []⟩,
    ⟨⟨(some 29), none, .iaddrA 2 1 (.tmp 3) (.con (.int .i64 1))⟩, true, false, false, 0, []⟩,
    ⟨⟨(some 30), none, .load false 1 (.tmp 29)⟩, false, false, false, 0, []⟩,
    ⟨⟨(some 31), none, .max [(.tmp 28), (.tmp 30)]⟩, true, false, false, 0, []⟩,
    ⟨⟨(some 6), none, .mov (.tmp 26)⟩, true, false, false, 0, []⟩], 0, [⟨(some 7), none, .mov (.tmp 31)⟩]⟩])
  (.seq (.reg [⟨(some 33), none, .mov (.tmp 5)⟩,
    ⟨(some 34), none, .mov (.tmp 6)⟩,
    ⟨(some 35), none, .call 27 [(.tmp 33), (.tmp 34)]⟩,
    ⟨(some 32), none, .mov (.tmp 35)⟩,
    ⟨(some 36), none, .ext (.tmp 32) 0⟩,
    ⟨(some 37), none, .ext (.tmp 32) 1⟩,
    ⟨(some 38), none, .ext (.tmp 32) 2⟩,
    ⟨(some 8), none, .mov (.tmp 36)⟩,
    ⟨(some 9), none, .mov (.tmp 37)⟩,
    ⟨(some 10), none, .mov (.tmp 38)⟩])
  (.seq (.reg [⟨(some 40), none, .mov (.tmp 5)⟩,
    ⟨(some 41), none, .mov (.tmp 7)⟩,
    ⟨(some 42), none, .call 27 [(.tmp 40), (.tmp 41)]⟩,
    ⟨(some 39), none, .mov (.tmp 42)⟩,
    ⟨(some 43), none, .ext (.tmp 39) 0⟩,
    ⟨(some 44), none, .ext (.tmp 39) 1⟩,
    ⟨(some 45), none, .ext (.tmp 39) 2⟩,
    ⟨(some 11), none, .mov (.tmp 43)⟩,
    ⟨(some 12), none, .mov (.tmp 44)⟩,
    ⟨(some 13), none, .mov (.tmp 45)⟩])
  (.seq (.seq (.reg [⟨(some 46), none, .mov (.tmp 10)⟩,
    ⟨(some 47), none, .bin .neq (.tmp 46) (.con (.int .i64 0))⟩,
    ⟨(some 48), none, .mov (.tmp 47)⟩,
    ⟨(some 49), (some (48, false)), .mov (.tmp 13)⟩,
    ⟨(some 50), (some (48, false)), .bin .neq (.tmp 49) (.con (.int .i64 0))⟩,
    ⟨(some 51), none, .pick (.tmp 48) (.con (.bool true)) (.tmp 50)⟩])
  (.cond (.tmp 51)
   (.seq (.reg [⟨(some 52), none, .mov (.tmp 10)⟩,
     ⟨(some 53), none, .mov (.tmp 13)⟩,
     ⟨(some 54), none, .bin .eql (.tmp 52) (.tmp 53)⟩,
     ⟨(some 4), none, .mov (.tmp 54)⟩])
   .ret)
   .skip))
  (.seq (.reg [⟨(some 56), none, .mov (.tmp 8)⟩,
    ⟨(some 57), none, .mov (.tmp 7)⟩,
    ⟨(some 58), none, .call 27 [(.tmp 56), (.tmp 57)]⟩,
    ⟨(some 55), none, .mov (.tmp 58)⟩,
    ⟨(some 59), none, .ext (.tmp 55) 0⟩,
    ⟨(some 60), none, .ext (.tmp 55) 1⟩,
    ⟨(some 61), none, .ext (.tmp 55) 2⟩,
    ⟨(some 14), none, .mov (.tmp 59)⟩,
    ⟨(some 15), none, .mov (.tmp 60)⟩,
    ⟨(some 10), none, .mov (.tmp 61)⟩])
  (.seq (.reg [⟨(some 63), none, .mov (.tmp 11)⟩,
    ⟨(some 64), none, .mov (.tmp 6)⟩,
    ⟨(some 65), none, .call 27 [(.tmp 63), (.tmp 64)]⟩,
    ⟨(some 62), none, .mov (.tmp 65)⟩,
    ⟨(some 66), none, .ext (.tmp 62) 0⟩,
    ⟨(some 67), none, .ext (.tmp 62) 1⟩,
    ⟨(some 68), none, .ext (.tmp 62) 2⟩,
    ⟨(some 16), none, .mov (.tmp 66)⟩,
    ⟨(some 17), none, .mov (.tmp 67)⟩,
    ⟨(some 13), none, .mov (.tmp 68)⟩])
  (.seq (.reg [⟨(some 69), none, .mov (.tmp 10)⟩,
    ⟨(some 70), none, .bin .eql (.tmp 69) (.con (.int .i64 0))⟩,
    ⟨(some 71), none, .mov (.tmp 70)⟩,
    ⟨(some 72), (some (71, true)), .mov (.tmp 13)⟩,
    ⟨(some 73), (some (71, true)), .bin .eql (.tmp 72) (.con (.int .i64 0))⟩,
    ⟨(some 74), none, .pick (.tmp 71) (.tmp 73) (.con (.bool false))⟩,
    ⟨(some 75), none, .mov (.tmp 74)⟩,
    ⟨(some 76), (some (75, true)), .mov (.tmp 14)⟩,
    ⟨(some 77), (some (75, true)), .mov (.tmp 11)⟩,
    ⟨(some 78), (some (75, true)), .call 24 [(.tmp 76), (.tmp 77)]⟩,
    ⟨(some 79), none, .pick (.tmp 75) (.tmp 78) (.con (.bool false))⟩,
    ⟨(some 80), none, .mov (.tmp 79)⟩,
    ⟨(some 81), (some (80, true)), .mov (.tmp 16)⟩,
    ⟨(some 82), (some (80, true)), .mov (.tmp 11)⟩,
    ⟨(some 83), (some (80, true)), .call 24 [(.tmp 81), (.tmp 82)]⟩,
    ⟨(some 84), none, .pick (.tmp 80) (.tmp 83) (.con (.bool false))⟩,
    ⟨(some 85), none, .mov (.tmp 84)⟩,
    ⟨(some 86), (some (85, true)), .mov (.tmp 17)⟩,
    ⟨(some 87), (some (85, true)), .len (.tmp 86)⟩,
    ⟨(some 88), (some (85, true)), .bin .eql (.tmp 87) (.con (.int .i64 0))⟩,
    ⟨(some 89), none, .pick (.tmp 85) (.tmp 88) (.con (.bool false))⟩,
    ⟨(some 4), none, .mov (.tmp 89)⟩])
  .ret))))))))))
def g8 : Fn := ⟨2, 90, [.tmp 4], b8⟩
/- quiver/quiverlaw08.wakes -/
def b9 : AC :=
  (.seq (.reg [⟨(some 0), none, .mov (.con (.bool false))⟩])
  (.seq (.reg [⟨(some 11), none, .lit 1 [(.con (.int .i32 7))]⟩,
    ⟨(some 12), none, .call 28 [(.con .nilS), (.con (.int .u64 3)), (.tmp 11)]⟩,
    ⟨(some 10), none, .mov (.tmp 12)⟩,
    ⟨(some 13), none, .ext (.tmp 10) 0⟩,
    ⟨(some 14), none, .ext (.tmp 10) 1⟩,
    ⟨(some 1), none, .mov (.tmp 13)⟩,
    ⟨(some 2), none, .mov (.tmp 14)⟩])
  (.seq (.reg [⟨(some 16), none, .mov (.tmp 1)⟩,
    ⟨(some 17), none, .lit 1 [(.con (.int .i32 8))]⟩,
    ⟨(some 18), none, .call 28 [(.tmp 16), (.con (.int .u64 5)), (.tmp 17)]⟩,
    ⟨(some 15), none, .mov (.tmp 18)⟩,
    ⟨(some 19), none, .ext (.tmp 15) 0⟩,
    ⟨(some 20), none, .ext (.tmp 15) 1⟩,
    ⟨(some 3), none, .mov (.tmp 19)⟩,
    ⟨(some 4), none, .mov (.tmp 20)⟩])
  (.seq (.reg [⟨(some 22), none, .mov (.tmp 3)⟩,
    ⟨(some 23), none, .call 13 [(.tmp 22), (.con (.int .u64 4))]⟩,
    ⟨(some 21), none, .mov (.tmp 23)⟩,
    ⟨(some 24), none, .ext (.tmp 21) 0⟩,
    ⟨(some 25), none, .ext (.tmp 21) 1⟩,
    ⟨(some 5), none, .mov (.tmp 24)⟩,
    ⟨(some 6), none, .mov (.tmp 25)⟩])
  (.seq (.reg [⟨(some 27), none, .mov (.tmp 3)⟩,
    ⟨(some 28), none, .call 27 [(.tmp 27), (.con (.int .u64 5))]⟩,
    ⟨(some 26), none, .mov (.tmp 28)⟩,
    ⟨(some 29), none, .ext (.tmp 26) 0⟩,
    ⟨(some 30), none, .ext (.tmp 26) 1⟩,
    ⟨(some 31), none, .ext (.tmp 26) 2⟩,
    ⟨(some 7), none, .mov (.tmp 29)⟩,
    ⟨(some 8), none, .mov (.tmp 30)⟩,
    ⟨(some 9), none, .mov (.tmp 31)⟩])
  (.seq (.reg [⟨(some 32), none, .mov (.tmp 2)⟩,
    ⟨(some 33), none, .bin .eql (.tmp 32) (.con (.int .i64 0))⟩,
    ⟨(some 34), none, .mov (.tmp 33)⟩,
    ⟨(some 35), (some (34, true)), .mov (.tmp 4)⟩,
    ⟨(some 36), (some (34, true)), .bin .eql (.tmp 35) (.con (.int .i64 0))⟩,
    ⟨(some 37), none, .pick (.tmp 34) (.tmp 36) (.con (.bool false))⟩,
    ⟨(some 38), none, .mov (.tmp 37)⟩,
    ⟨(some 39), (some (38, true)), .mov (.tmp 9)⟩,
    ⟨(some 40), (some (38, true)), .bin .eql (.tmp 39) (.con (.int .i64 0))⟩,
    ⟨(some 41), none, .pick (.tmp 38) (.tmp 40) (.con (.bool false))⟩,
    ⟨(some 42), none, .mov (.tmp 41)⟩,
    ⟨(some 43), (some (42, true)), .mov (.tmp 6)⟩,
    ⟨(some 44), none, .pick (.tmp 42) (.tmp 43) (.con (.bool false))⟩,
    ⟨(some 45), none, .mov (.tmp 44)⟩,
    ⟨(some 46), (some (45, true)), .mov (.tmp 5)⟩,
    ⟨(some 47), (some (45, true)), .bin .eql (.tmp 46) (.con (.int .i64 0))⟩,
    ⟨(some 48), none, .pick (.tmp 45) (.tmp 47) (.con (.bool false))⟩,
    ⟨(some 49), none, .mov (.tmp 48)⟩,
    ⟨(some 50), (some (49, true)), .mov (.tmp 3)⟩,
    ⟨(some 51), (some (49, true)), .len (.tmp 50)⟩,
    ⟨(some 52), (some (49, true)), .bin .eql (.tmp 51) (.con (.int .i64 2))⟩,
    ⟨(some 53), none, .pick (.tmp 49) (.tmp 52) (.con (.bool false))⟩,
    ⟨(some 54), none, .mov (.tmp 53)⟩,
    ⟨(some 55), (some (54, true)), .mov (.tmp 3)⟩,
    ⟨(some 56), (some (54, true)), .iaddr 3 (.tmp 55) (.con (.int .i64 0))⟩,
    ⟨(some 57), (some (54, true)), .faddr (.tmp 56) 1⟩,
    ⟨(some 58), (some (54, true)), .load false 1 (.tmp 57)⟩,
    ⟨(some 59), (some (54, true)), .bin .eql (.tmp 58) (.con (.int .u64 5))⟩,
    ⟨(some 60), none, .pick (.tmp 54) (.tmp 59) (.con (.bool false))⟩,
    ⟨(some 61), none, .mov (.tmp 60)⟩,
    ⟨(some 62), (some (61, true)), .mov (.tmp 7)⟩,
    ⟨(some 63), (some (61, true)), .len (.tmp 62)⟩,
    ⟨(some 64), (some (61, true)), .bin .eql (.tmp 63) (.con (.int .i64 1))⟩,
    ⟨(some 65), none, .pick (.tmp 61) (.tmp 64) (.con (.bool false))⟩,
    ⟨(some 66), none, .mov (.tmp 65)⟩,
    ⟨(some 67), (some (66, true)), .mov (.tmp 8)⟩,
    ⟨(some 68), (some (66, true)), .len (.tmp 67)⟩,
    ⟨(some 69), (some (66, true)), .bin .eql (.tmp 68) (.con (.int .i64 1))⟩,
    ⟨(some 70), none, .pick (.tmp 66) (.tmp 69) (.con (.bool false))⟩,
    ⟨(some 71), none, .mov (.tmp 70)⟩,
    ⟨(some 72), (some (71, true)), .mov (.tmp 3)⟩,
    ⟨(some 73), (some (71, true)), .call 21 [(.tmp 72)]⟩,
    ⟨(some 74), (some (71, true)), .bin .eql (.tmp 73) (.con (.int .u64 5))⟩,
    ⟨(some 75), none, .pick (.tmp 71) (.tmp 74) (.con (.bool false))⟩,
    ⟨(some 0), none, .mov (.tmp 75)⟩])
  .ret))))))
def g9 : Fn := ⟨0, 76, [.tmp 0], b9⟩
/- quiver/quiverlaw08.few -/
def b10 : AC :=
  (.seq (.reg [⟨(some 2), none, .mov (.con .nilS)⟩])
  (.seq (.reg [⟨(some 3), none, .mov (.con .nilS)⟩])
  (.seq (.seq (.reg [⟨(some 6), none, .mov (.tmp 0)⟩,
    ⟨(some 7), none, .len (.tmp 6)⟩,
    ⟨(some 8), none, .mov (.con (.int .i64 0))⟩])
  (.block 0 (.loop (.seq (.reg [⟨(some 9), none, .bin .lss (.tmp 8) (.tmp 7)⟩])
    (.seq (.cond (.tmp 9)
     .skip
     (.exit 0))
    (.seq (.block 1 (.seq (.reg [⟨(some 10), none, .mov (.tmp 8)⟩,
       ⟨(some 11), none, .iaddr 3 (.tmp 6) (.tmp 8)⟩,
       ⟨(some 12), none, .load true 3 (.tmp 11)⟩,
       ⟨(some 5), none, .alloc (.agg [(.int .u64 0), (.int .u64 0), .nilS])⟩,
       ⟨(some 4), none, .mov (.tmp 10)⟩,
       ⟨none, none, .store 3 (.tmp 5) (.tmp 12)⟩])
     (.seq (.reg [⟨(some 13), none, .mov (.tmp 4)⟩,
       ⟨(some 14), none, .bin .leq (.tmp 13) (.con (.int .i64 96))⟩])
     (.cond (.tmp 14)
      (.seq (.reg [⟨(some 15), none, .lit 1 []⟩,
        ⟨(some 16), none, .faddr (.tmp 5) 2⟩,
        ⟨(some 17), none, .load false 1 (.tmp 16)⟩,
        ⟨(some 18), none, .faddr (.tmp 5) 2⟩,
        ⟨(some 19), none, .load false 1 (.tmp 18)⟩,
        ⟨(some 20), none, .len (.tmp 19)⟩,
        ⟨(some 21), none, .min [(.tmp 20), (.con (.int .i64 5))]⟩,
        ⟨(some 22), none, .slice 1 (.tmp 17) none (some (.tmp 21))⟩,
        ⟨(some 23), none, .append 1 4 (.tmp 15) (.tmp 22)⟩,
        ⟨(some 24), none, .faddr (.tmp 5) 2⟩,
        ⟨none, none, .store 1 (.tmp 24) (.tmp 23)⟩])
      (.reg [⟨(some 25), none, .mov (.tmp 3)⟩,
        ⟨(some 26), none, .load true 3 (.tmp 5)⟩,
        ⟨(some 27), none, .lit 3 [(.tmp 26)]⟩,
        ⟨(some 28), none, .append 3 40 (.tmp 25) (.tmp 27)⟩,
        ⟨(some 3), none, .mov (.tmp 28)⟩]))
      .skip))))
    (.reg [⟨(some 29), none, .bin .add (.tmp 8) (.con (.int .i64 1))⟩,
      ⟨(some 8), none, .mov (.tmp 29)⟩])))))))
  (.seq (.reg [⟨(some 30), none, .mov (.tmp 3)⟩,
    ⟨(some 2), none, .mov (.tmp 30)⟩])
  .ret))))
def g10 : Fn := ⟨1, 31, [.tmp 2], b10⟩
/- quiver/chain.Check -/
def b11 : AC :=
  (.seq (.reg [⟨(some 2), none, .mov (.con (.int .i64 0))⟩])
  (.seq (.reg [⟨(some 8), none, .mov (.tmp 0)⟩,
    ⟨(some 9), none, .len (.tmp 8)⟩,
    ⟨(some 10), none, .bin .leq (.tmp 9) (.con (.int .i64 96))⟩,
    ⟨(some 3), none, .mov (.tmp 10)⟩])
  (.seq (.reg [⟨(some 4), none, .mov (.con (.int .u64 0))⟩])
  (.seq .skip
  (.seq (.seq (.reg [⟨(some 11), none, .mov (.tmp 0)⟩,
    ⟨(some 12), none, .len (.tmp 11)⟩,
    ⟨(some 13), none, .mov (.con (.int .i64 0))⟩])
  (.block 0 (.loop (.seq (.reg [⟨(some 14), none, .bin .lss (.tmp 13) (.tmp 12)⟩])
    (.seq (.cond (.tmp 14)
     .skip
     (.exit 0))
    (.seq (.block 1 (.seq (.reg [⟨(some 15), none, .mov (.tmp 13)⟩,
       ⟨(some 16), none, .iaddr 3 (.tmp 11) (.tmp 13)⟩,
       ⟨(some 17), none, .load true 3 (.tmp 16)⟩,
       ⟨(some 6), none, .alloc (.agg [(.int .u64 0), (.int .u64 0), .nilS])⟩,
       ⟨(some 5), none, .mov (.tmp 15)⟩,
       ⟨none, none, .store 3 (.tmp 6) (.tmp 17)⟩])
     (.seq (.reg [⟨(some 18), none, .faddr (.tmp 6) 1⟩,
       ⟨(some 19), none, .load false 1 (.tmp 18)⟩,
       ⟨(some 20), none, .bin .eql (.tmp 19) (.con (.int .u64 0))⟩,
       ⟨(some 7), none, .mov (.tmp 20)⟩])
     (.seq (.reg [⟨(some 21), none, .mov (.tmp 3)⟩,
       ⟨(some 22), none, .mov (.tmp 21)⟩,
       ⟨(some 23), (some (22, true)), .faddr (.tmp 6) 0⟩,
       ⟨(some 24), (some (22, true)), .load false 1 (.tmp 23)⟩,
       ⟨(some 25), (some (22, true)), .bin .gtr (.tmp 24) (.con (.int .u64 0))⟩,
       ⟨(some 26), none, .pick (.tmp 22) (.tmp 25) (.con (.bool false))⟩,
       ⟨(some 27), none, .mov (.tmp 26)⟩,
       ⟨(some 28), (some (27, true)), .faddr (.tmp 6) 0⟩,
       ⟨(some 29), (some (27, true)), .load false 1 (.tmp 28)⟩,
       ⟨(some 30), (some (27, true)), .mov (.tmp 4)⟩,
       ⟨(some 31), (some (27, true)), .bin .geq (.tmp 29) (.tmp 30)⟩,
       ⟨(some 32), none, .pick (.tmp 27) (.tmp 31) (.con (.bool false))⟩,
       ⟨(some 33), none, .mov (.tmp 32)⟩,
       ⟨(some 34), (some (33, true)), .faddr (.tmp 6) 0⟩,
       ⟨(some 35), (some (33, true)), .load false 1 (.tmp 34)⟩,
       ⟨(some 36), (some (33, true)), .bin .leq (.tmp 35) (.con (.int .u64 1099511627776))⟩,
       ⟨(some 37), none, .pick (.tmp 33) (.tmp 36) (.con (.bool false))⟩,
       ⟨(some 38), none, .mov (.tmp 37)⟩,
       ⟨(some 39), (some (38, true)), .faddr (.tmp 6) 1⟩,
       ⟨(some 40), (some (38, true)), .load false 1 (.tmp 39)⟩,
       ⟨(some 41), (some (38, true)), .bin .leq (.tmp 40) (.con (.int .u64 1099511627776))⟩,
       ⟨(some 42), none, .pick (.tmp 38) (.tmp 41) (.con (.bool false))⟩,
       ⟨(some 43), none, .mov (.tmp 42)⟩,
       ⟨(some 44), (some (43, true)), .mov (.tmp 7)⟩,
       ⟨(some 45), (some (43, true)), .mov (.tmp 44)⟩,
       ⟨(some 46), (some (45, false)), .faddr (.tmp 6) 1⟩,
       ⟨(some 47), (some (45, false)), .load false 1 (.tmp 46)⟩,
       ⟨(some 48), (some (45, false)), .faddr (.tmp 6) 0⟩,
       ⟨(some 49), (some (45, false)), .load false 1 (.tmp 48)⟩,
       ⟨(some 50), (some (45, false)), .bin .gtr (.tmp 47) (.tmp 49)⟩,
       ⟨(some 51), (some (43, true)), .pick (.tmp 45) (.con (.bool true)) (.tmp 50)⟩,
       ⟨(some 52), none, .pick (.tmp 43) (.tmp 51) (.con (.bool false))⟩,
       ⟨(some 3), none, .mov (.tmp 52)⟩])
     (.seq (.regd [⟨[], 0, [⟨(some 53), none, .mov (.tmp 3)⟩,
       ⟨(some 54), none, .mov (.tmp 53)⟩]⟩,
      ⟨[⟨⟨(some 55), (some (54, true)), .faddr (.tmp 6) 2⟩, true, false, false, 0, []⟩,
       ⟨⟨(some 56), (some (54, true)), .load false 1 (.tmp 55)⟩, false, false, false, 0, []⟩,
       ⟨⟨(some 57), (some (54, true)), .mov (.tmp 0)⟩, true, false, false, 0, []⟩,
       ⟨⟨(some 58), (some (54, true)), .iaddr 3 (.tmp 57) (.con (.int .i64 0))⟩, true, false, false, 0, []⟩,
       ⟨⟨(some 59), (some (54, true)), .faddr (.tmp 58) 2⟩, true, false, false, 0, []⟩,
       ⟨⟨(some 60), (some (54, true)), .load false 1 (.tmp 59)⟩, false, false, false, 0, []⟩,
       ⟨⟨(some 61), (some (54, true)), .len (.tmp 60)⟩, true, false, false, 0, []⟩], 0, [⟨(some 62), (some (54, true)), .call 29 [(.tmp 56), (.tmp 61)]⟩,
       ⟨(some 63), (some (54, true)), .bin .eql (.tmp 62) (.con (.int .i64 0))⟩,
       ⟨(some 64), none, .pick (.tmp 54) (.tmp 63) (.con (.bool false))⟩,
       ⟨(some 65), none, .mov (.tmp 64)⟩,
       ⟨(some 66), (some (65, true)), .mov (.tmp 7)⟩,
       ⟨(some 67), (some (65, true)), .un .not (.tmp 66)⟩,
       ⟨(some 68), (some (65, true)), .mov (.tmp 67)⟩]⟩,
      ⟨[⟨⟨(some 69), (some (68, false)), .mov (.tmp 5)⟩, true, false, false, 0, []⟩,
       ⟨⟨(some 70), (some (68, false)), .mov (.tmp 0)⟩, true, false, false, 0, []⟩,
       ⟨⟨(some 71), (some (68, false)), .len (.tmp 70)⟩, true, false, false, 0, []⟩,
       ⟨⟨(some 72), (some (68, false)), .bin .sub (.tmp 71) (.con (.int .i64 1))⟩, true, false, false, 0, []⟩], 0, [⟨(some 73), (some (68, false)), .bin .eql (.tmp 69) (.tmp 72)⟩,
       ⟨(some 74), (some (65, true)), .pick (.tmp 68) (.con (.bool true)) (.tmp 73)⟩,
       ⟨(some 75), none, .pick (.tmp 65) (.tmp 74) (.con (.bool false))⟩,
       ⟨(some 3), none, .mov (.tmp 75)⟩]⟩])
     (.seq (.seq (.reg [⟨(some 76), none, .mov (.tmp 3)⟩,
       ⟨(some 77), none, .un .not (.tmp 76)⟩])
     (.cond (.tmp 77)
      (.exit 0)
      .skip))
     (.reg [⟨(some 78), none, .faddr (.tmp 6) 1⟩,
       ⟨(some 79), none, .load false 1 (.tmp 78)⟩,
       ⟨(some 4), none, .mov (.tmp 79)⟩])))))))
    (.reg [⟨(some 80), none, .bin .add (.tmp 13) (.con (.int .i64 1))⟩,
      ⟨(some 13), none, .mov (.tmp 80)⟩])))))))
  (.seq (.seq (.reg [⟨(some 81), none, .mov (.tmp 3)⟩,
    ⟨(some 82), none, .un .not (.tmp 81)⟩])
  (.cond (.tmp 82)
   (.seq (.reg [⟨(some 2), none, .mov (.con (.int .i64 180))⟩])
   .ret)
   .skip))
  (.seq (.reg [⟨(some 2), none, .mov (.con (.int .i64 0))⟩])
  .ret)))))))
def g11 : Fn := ⟨1, 83, [.tmp 2], b11⟩
/- quiver/quiverlaw08.times -/
def b12 : AC :=
  (.seq (.reg [⟨(some 2), none, .mov (.con .nilS)⟩])
  (.seq (.reg [⟨(some 8), none, .lit 1 [(.con (.int .u64 0)), (.con (.int .u64 1)), (.con (.int .u64 1099511627776))]⟩,
    ⟨(some 3), none, .mov (.tmp 8)⟩])
  (.seq (.seq (.reg [⟨(some 9), none, .mov (.tmp 0)⟩,
    ⟨(some 10), none, .len (.tmp 9)⟩,
    ⟨(some 11), none, .mov (.con (.int .i64 0))⟩])
  (.block 0 (.loop (.seq (.reg [⟨(some 12), none, .bin .lss (.tmp 11) (.tmp 10)⟩])
    (.seq (.cond (.tmp 12)
     .skip
     (.exit 0))
    (.seq (.block 1 (.seq (.reg [⟨(some 13), none, .iaddr 3 (.tmp 9) (.tmp 11)⟩,
       ⟨(some 14), none, .load true 3 (.tmp 13)⟩,
       ⟨(some 5), none, .alloc (.agg [(.int .u64 0), (.int .u64 0), .nilS])⟩,
       ⟨none, none, .store 3 (.tmp 5) (.tmp 14)⟩])
     (.seq (.reg [⟨(some 15), none, .faddr (.tmp 5) 0⟩,
       ⟨(some 16), none, .load false 1 (.tmp 15)⟩,
       ⟨(some 17), none, .faddr (.tmp 5) 1⟩,
       ⟨(some 18), none, .load false 1 (.tmp 17)⟩,
       ⟨(some 19), none, .build [(.int .u64 0), (.int .u64 0)] [(0, 1, (.tmp 16)), (1, 1, (.tmp 18))]⟩,
       ⟨(some 20), none, .mov (.con (.int .i64 0))⟩])
     (.block 2 (.loop (.seq (.reg [⟨(some 21), none, .bin .lss (.tmp 20) (.con (.int .i64 2))⟩])
       (.seq (.cond (.tmp 21)
        .skip
        (.exit 2))
       (.seq (.block 3 (.seq (.reg [⟨(some 22), none, .idxA false 2 1 (.tmp 19) (.tmp 20)⟩,
          ⟨(some 7), none, .mov (.tmp 22)⟩])
        (.seq (.reg [⟨(some 23), none, .mov (.tmp 7)⟩,
          ⟨(some 24), none, .bin .gtr (.tmp 23) (.con (.int .u64 0))⟩])
        (.cond (.tmp 24)
         (.reg [⟨(some 25), none, .mov (.tmp 3)⟩,
           ⟨(some 26), none, .mov (.tmp 7)⟩,
           ⟨(some 27), none, .bin .sub (.tmp 26) (.con (.int .u64 1))⟩,
           ⟨(some 28), none, .mov (.tmp 7)⟩,
           ⟨(some 29), none, .mov (.tmp 7)⟩,
           ⟨(some 30), none, .bin .add (.tmp 29) (.con (.int .u64 1))⟩,
           ⟨(some 31), none, .lit 1 [(.tmp 27), (.tmp 28), (.tmp 30)]⟩,
           ⟨(some 32), none, .append 1 8 (.tmp 25) (.tmp 31)⟩,
           ⟨(some 3), none, .mov (.tmp 32)⟩])
         .skip))))
       (.reg [⟨(some 33), none, .bin .add (.tmp 20) (.con (.int .i64 1))⟩,
         ⟨(some 20), none, .mov (.tmp 33)⟩])))))))))
    (.reg [⟨(some 34), none, .bin .add (.tmp 11) (.con (.int .i64 1))⟩,
      ⟨(some 11), none, .mov (.tmp 34)⟩])))))))
  (.seq (.reg [⟨(some 35), none, .mov (.tmp 3)⟩,
    ⟨(some 2), none, .mov (.tmp 35)⟩])
  .ret))))
def g12 : Fn := ⟨1, 36, [.tmp 2], b12⟩
/- quiver/chain.At -/
def b13 : AC :=
  (.seq (.reg [⟨(some 3), none, .box (.tmp 1)⟩,
    ⟨(some 4), none, .mov (.con (.int .i64 0))⟩,
    ⟨(some 5), none, .mov (.con (.bool false))⟩])
  (.seq (.reg [⟨(some 7), none, .mov (.tmp 0)⟩,
    ⟨(some 8), none, .mkfn 31 [(.tmp 3)]⟩,
    ⟨(some 9), none, .call 30 [(.tmp 7), (.tmp 8)]⟩,
    ⟨(some 6), none, .mov (.tmp 9)⟩])
  (.seq (.seq (.reg [⟨(some 10), none, .mov (.tmp 6)⟩,
    ⟨(some 11), none, .bin .lss (.tmp 10) (.con (.int .i64 0))⟩,
    ⟨(some 12), none, .mov (.tmp 11)⟩,
    ⟨(some 13), (some (12, false)), .mov (.tmp 0)⟩,
    ⟨(some 14), (some (12, false)), .call 11 [(.tmp 13)]⟩,
    ⟨(some 15), (some (12, false)), .bin .neq (.tmp 14) (.con (.int .i64 0))⟩,
    ⟨(some 16), none, .pick (.tmp 12) (.con (.bool true)) (.tmp 15)⟩])
  (.cond (.tmp 16)
   (.seq (.reg [⟨(some 4), none, .mov (.con (.int .i64 0))⟩,
     ⟨(some 5), none, .mov (.con (.bool false))⟩])
   .ret)
   .skip))
  (.seq (.reg [⟨(some 17), none, .mov (.tmp 6)⟩,
    ⟨(some 4), none, .mov (.tmp 17)⟩,
    ⟨(some 5), none, .mov (.con (.bool true))⟩])
  .ret))))
def g13 : Fn := ⟨2, 18, [.tmp 4, .tmp 5], b13⟩
/- quiver/quiverref08.Copy -/
def b14 : AC :=
  (.seq (.reg [⟨(some 2), none, .mov (.con .nilS)⟩])
  (.seq (.reg [⟨(some 3), none, .mov (.con .nilS)⟩])
  (.seq (.seq (.reg [⟨(some 6), none, .mov (.tmp 0)⟩,
    ⟨(some 7), none, .len (.tmp 6)⟩,
    ⟨(some 8), none, .mov (.con (.int .i64 0))⟩])
  (.block 0 (.loop (.seq (.reg [⟨(some 9), none, .bin .lss (.tmp 8) (.tmp 7)⟩])
    (.seq (.cond (.tmp 9)
     .skip
     (.exit 0))
    (.seq (.block 1 (.seq (.reg [⟨(some 10), none, .iaddr 3 (.tmp 6) (.tmp 8)⟩,
       ⟨(some 11), none, .load true 3 (.tmp 10)⟩,
       ⟨(some 5), none, .alloc (.agg [(.int .u64 0), (.int .u64 0), .nilS])⟩,
       ⟨none, none, .store 3 (.tmp 5) (.tmp 11)⟩])
     (.seq (.reg [⟨(some 12), none, .lit 1 []⟩,
       ⟨(some 13), none, .faddr (.tmp 5) 2⟩,
       ⟨(some 14), none, .load false 1 (.tmp 13)⟩,
       ⟨(some 15), none, .append 1 4 (.tmp 12) (.tmp 14)⟩,
       ⟨(some 16), none, .faddr (.tmp 5) 2⟩,
       ⟨none, none, .store 1 (.tmp 16) (.tmp 15)⟩])
     (.reg [⟨(some 17), none, .mov (.tmp 3)⟩,
       ⟨(some 18), none, .load true 3 (.tmp 5)⟩,
       ⟨(some 19), none, .lit 3 [(.tmp 18)]⟩,
       ⟨(some 20), none, .append 3 40 (.tmp 17) (.tmp 19)⟩,
       ⟨(some 3), none, .mov (.tmp 20)⟩]))))
    (.reg [⟨(some 21), none, .bin .add (.tmp 8) (.con (.int .i64 1))⟩,
      ⟨(some 8), none, .mov (.tmp 21)⟩])))))))
  (.seq (.reg [⟨(some 22), none, .mov (.tmp 3)⟩,
    ⟨(some 2), none, .mov (.tmp 22)⟩])
  .ret))))
def g14 : Fn := ⟨1, 23, [.tmp 2], b14⟩
/- (quiver/quiverlaw08.Op).run -/
def b15 : AC :=
  (.seq (.reg [⟨(some 2), none, .box (.tmp 0)⟩,
    ⟨(some 4), none, .mov (.con .nilS)⟩,
    ⟨(some 5), none, .mov (.con .nilS)⟩,
    ⟨(some 6), none, .mov (.con (.int .i64 0))⟩])
  (.seq (.regd [⟨[⟨⟨(some 10), none, .load true 4 (.tmp 2)⟩, false, false, false, 0, []⟩,
    ⟨⟨(some 11), none, .mov (.tmp 1)⟩, true, false, false, 0, []⟩,
    ⟨⟨(some 12), none, .call 18 [(.tmp 10), (.tmp 11)]⟩, false, false, false, 0, []⟩,
    ⟨⟨(some 13), none, .load true 4 (.tmp 2)⟩, false, false, false, 0, []⟩], 0, [⟨(some 14), none, .call 22 [(.tmp 13)]⟩,
    ⟨(some 7), none, .mov (.tmp 12)⟩,
    ⟨(some 8), none, .mov (.tmp 14)⟩]⟩])
  (.seq (.seq (.reg [⟨(some 15), none, .faddr (.tmp 2) 0⟩,
    ⟨(some 16), none, .load false 1 (.tmp 15)⟩,
    ⟨(some 17), none, .conv .u64 (.tmp 16)⟩,
    ⟨(some 18), none, .bin .rem (.tmp 17) (.con (.int .u64 5))⟩])
  (.block 0 (.seq (.reg [⟨(some 39), none, .bin .eql (.tmp 18) (.con (.int .u64 3))⟩,
     ⟨(some 38), none, .mov (.tmp 39)⟩])
   (.cond (.tmp 38)
    (.reg [⟨(some 41), none, .mov (.tmp 1)⟩,
      ⟨(some 42), none, .mov (.tmp 7)⟩,
      ⟨(some 43), none, .call 33 [(.tmp 41), (.tmp 42)]⟩,
      ⟨(some 40), none, .mov (.tmp 43)⟩,
      ⟨(some 44), none, .ext (.tmp 40) 0⟩,
      ⟨(some 45), none, .ext (.tmp 40) 1⟩,
      ⟨(some 4), none, .mov (.tmp 44)⟩,
      ⟨(some 6), none, .mov (.tmp 45)⟩])
    (.seq (.reg [⟨(some 47), none, .bin .eql (.tmp 18) (.con (.int .u64 4))⟩,
      ⟨(some 46), none, .mov (.tmp 47)⟩])
    (.cond (.tmp 46)
     (.reg [⟨(some 49), none, .mov (.tmp 1)⟩,
       ⟨(some 50), none, .mov (.tmp 7)⟩,
       ⟨(some 51), none, .call 27 [(.tmp 49), (.tmp 50)]⟩,
       ⟨(some 48), none, .mov (.tmp 51)⟩,
       ⟨(some 52), none, .ext (.tmp 48) 0⟩,
       ⟨(some 53), none, .ext (.tmp 48) 1⟩,
       ⟨(some 54), none, .ext (.tmp 48) 2⟩,
       ⟨(some 4), none, .mov (.tmp 52)⟩,
       ⟨(some 5), none, .mov (.tmp 53)⟩,
       ⟨(some 6), none, .mov (.tmp 54)⟩])
     (.seq (.reg [⟨(some 20), none, .mov (.tmp 1)⟩,
       ⟨(some 21), none, .mov (.tmp 7)⟩,
       ⟨(some 22), none, .mov (.tmp 8)⟩,
       ⟨(some 23), none, .call 28 [(.tmp 20), (.tmp 21), (.tmp 22)]⟩,
       ⟨(some 19), none, .mov (.tmp 23)⟩,
       ⟨(some 24), none, .ext (.tmp 19) 0⟩,
       ⟨(some 25), none, .ext (.tmp 19) 1⟩,
       ⟨(some 4), none, .mov (.tmp 24)⟩,
       ⟨(some 6), none, .mov (.tmp 25)⟩])
     (.seq (.reg [⟨(some 26), none, .mov (.tmp 8)⟩,
       ⟨(some 27), none, .len (.tmp 26)⟩,
       ⟨(some 28), none, .mov (.con (.int .i64 0))⟩])
     (.block 1 (.loop (.seq (.reg [⟨(some 29), none, .bin .lss (.tmp 28) (.tmp 27)⟩])
       (.seq (.cond (.tmp 29)
        .skip
        (.exit 1))
       (.seq (.block 2 (.seq (.reg [⟨(some 30), none, .mov (.tmp 28)⟩,
          ⟨(some 9), none, .mov (.tmp 30)⟩])
        (.reg [⟨(some 31), none, .mov (.tmp 8)⟩,
          ⟨(some 32), none, .mov (.tmp 9)⟩,
          ⟨(some 33), none, .iaddr 1 (.tmp 31) (.tmp 32)⟩,
          ⟨(some 34), none, .load false 1 (.tmp 33)⟩,
          ⟨(some 35), none, .bin .xor (.tmp 34) (.con (.int .i32 238))⟩,
          ⟨(some 36), none, .iaddr 1 (.tmp 31) (.tmp 32)⟩,
          ⟨none, none, .store 1 (.tmp 36) (.tmp 35)⟩])))
       (.reg [⟨(some 37), none, .bin .add (.tmp 28) (.con (.int .i64 1))⟩,
         ⟨(some 28), none, .mov (.tmp 37)⟩]))))))))))))))
  (.seq (.reg [⟨(some 55), none, .mov (.tmp 4)⟩,
    ⟨(some 56), none, .mov (.tmp 5)⟩,
    ⟨(some 57), none, .mov (.tmp 6)⟩,
    ⟨(some 4), none, .mov (.tmp 55)⟩,
    ⟨(some 5), none, .mov (.tmp 56)⟩,
    ⟨(some 6), none, .mov (.tmp 57)⟩])
  .ret))))
def g15 : Fn := ⟨2, 58, [.tmp 4, .tmp 5, .tmp 6], b15⟩
/- (quiver/quiverlaw08.Op).wants -/
def b16 : AC :=
  (.seq (.reg [⟨(some 2), none, .box (.tmp 0)⟩,
    ⟨(some 4), none, .mov (.con .nilS)⟩,
    ⟨(some 5), none, .mov (.con .nilS)⟩,
    ⟨(some 6), none, .mov (.con (.int .i64 0))⟩])
  (.seq (.seq (.reg [⟨(some 8), none, .mov (.tmp 1)⟩,
    ⟨(some 9), none, .call 23 [(.tmp 8)]⟩,
    ⟨(some 10), none, .un .not (.tmp 9)⟩])
  (.cond (.tmp 10)
   (.seq (.reg [⟨(some 4), none, .mov (.con .nilS)⟩,
     ⟨(some 5), none, .mov (.con .nilS)⟩,
     ⟨(some 6), none, .mov (.con (.int .i64 180))⟩])
   .ret)
   .skip))
  (.seq (.reg [⟨(some 11), none, .load true 4 (.tmp 2)⟩,
    ⟨(some 12), none, .mov (.tmp 1)⟩,
    ⟨(some 13), none, .call 18 [(.tmp 11), (.tmp 12)]⟩,
    ⟨(some 7), none, .mov (.tmp 13)⟩])
  (.seq (.seq (.reg [⟨(some 14), none, .faddr (.tmp 2) 0⟩,
    ⟨(some 15), none, .load false 1 (.tmp 14)⟩,
    ⟨(some 16), none, .conv .u64 (.tmp 15)⟩,
    ⟨(some 17), none, .bin .rem (.tmp 16) (.con (.int .u64 5))⟩])
  (.block 0 (.seq (.reg [⟨(some 27), none, .bin .eql (.tmp 17) (.con (.int .u64 3))⟩,
     ⟨(some 26), none, .mov (.tmp 27)⟩])
   (.cond (.tmp 26)
    (.reg [⟨(some 29), none, .mov (.tmp 1)⟩,
      ⟨(some 30), none, .mov (.tmp 7)⟩,
      ⟨(some 31), none, .call 34 [(.tmp 29), (.tmp 30)]⟩,
      ⟨(some 28), none, .mov (.tmp 31)⟩,
      ⟨(some 32), none, .ext (.tmp 28) 0⟩,
      ⟨(some 33), none, .ext (.tmp 28) 1⟩,
      ⟨(some 4), none, .mov (.tmp 32)⟩,
      ⟨(some 6), none, .mov (.tmp 33)⟩])
    (.seq (.reg [⟨(some 35), none, .bin .eql (.tmp 17) (.con (.int .u64 4))⟩,
      ⟨(some 34), none, .mov (.tmp 35)⟩])
    (.cond (.tmp 34)
     (.reg [⟨(some 37), none, .mov (.tmp 1)⟩,
       ⟨(some 38), none, .mov (.tmp 7)⟩,
       ⟨(some 39), none, .call 35 [(.tmp 37), (.tmp 38)]⟩,
       ⟨(some 36), none, .mov (.tmp 39)⟩,
       ⟨(some 40), none, .ext (.tmp 36) 0⟩,
       ⟨(some 41), none, .ext (.tmp 36) 1⟩,
       ⟨(some 4), none, .mov (.tmp 40)⟩,
       ⟨(some 5), none, .mov (.tmp 41)⟩])
     (.reg [⟨(some 19), none, .mov (.tmp 1)⟩,
       ⟨(some 20), none, .mov (.tmp 7)⟩,
       ⟨(some 21), none, .load true 4 (.tmp 2)⟩,
       ⟨(some 22), none, .call 22 [(.tmp 21)]⟩,
       ⟨(some 23), none, .call 36 [(.tmp 19), (.tmp 20), (.tmp 22)]⟩,
       ⟨(some 18), none, .mov (.tmp 23)⟩,
       ⟨(some 24), none, .ext (.tmp 18) 0⟩,
       ⟨(some 25), none, .ext (.tmp 18) 1⟩,
       ⟨(some 4), none, .mov (.tmp 24)⟩,
       ⟨(some 6), none, .mov (.tmp 25)⟩])))))))
  (.seq (.reg [⟨(some 42), none, .mov (.tmp 4)⟩,
    ⟨(some 43), none, .mov (.tmp 5)⟩,
    ⟨(some 44), none, .mov (.tmp 6)⟩,
    ⟨(some 4), none, .mov (.tmp 42)⟩,
    ⟨(some 5), none, .mov (.tmp 43)⟩,
    ⟨(some 6), none, .mov (.tmp 44)⟩])
  .ret)))))
def g16 : Fn := ⟨2, 45, [.tmp 4, .tmp 5, .tmp 6], b16⟩
/- quiver/quiverref08.Same -/
def b17 : AC :=
  (.seq (.reg [⟨(some 4), none, .mov (.con (.bool false))⟩])
  (.seq (.seq (.reg [⟨(some 6), none, .mov (.tmp 0)⟩,
    ⟨(some 7), none, .len (.tmp 6)⟩,
    ⟨(some 8), none, .mov (.tmp 1)⟩,
    ⟨(some 9), none, .len (.tmp 8)⟩,
    ⟨(some 10), none, .bin .neq (.tmp 7) (.tmp 9)⟩])
  (.cond (.tmp 10)
   (.seq (.reg [⟨(some 4), none, .mov (.con (.bool false))⟩])
   .ret)
   .skip))
  (.seq (.seq (.reg [⟨(some 11), none, .mov (.tmp 0)⟩,
    ⟨(some 12), none, .len (.tmp 11)⟩,
    ⟨(some 13), none, .mov (.con (.int .i64 0))⟩])
  (.block 0 (.loop (.seq (.reg [⟨(some 14), none, .bin .lss (.tmp 13) (.tmp 12)⟩])
    (.seq (.cond (.tmp 14)
     .skip
     (.exit 0))
    (.seq (.block 1 (.seq (.reg [⟨(some 15), none, .mov (.tmp 13)⟩,
       ⟨(some 5), none, .mov (.tmp 15)⟩])
     (.seq (.regd [⟨[⟨⟨(some 16), none, .mov (.tmp 0)⟩, true, false, false, 0, []⟩,
       ⟨⟨(some 17), none, .mov (.tmp 5)⟩, true, false, false, 0, []⟩,
       ⟨⟨(some 18), none, .iaddr 3 (.tmp 16) (.tmp 17)⟩, true, false, false, 0, []⟩,
       ⟨⟨(some 19), none, .faddr (.tmp 18) 0⟩, true, false, false, 0, []⟩,
       ⟨⟨(some 20), none, .load false 1 (.tmp 19)⟩, false, false, false, 0, []⟩,
       ⟨⟨(some 21), none, .mov (.tmp 1)⟩, true, false, false, 0, []⟩,
       ⟨⟨(some 22), none, .mov (.tmp 5)⟩, true, false, false, 0, []⟩,
       ⟨⟨(some 23), none, .iaddr 3 (.tmp 21) (.tmp 22)⟩, true, false, false, 0, []⟩,
       ⟨⟨(some 24), none, .faddr (.tmp 23) 0⟩, true, false, false, 0, []⟩,
       ⟨⟨(some 25), none, .load false 1 (.tmp 24)⟩, false, false, false, 0, []⟩], 0, [⟨(some 26), none, .bin .neq (.tmp 20) (.tmp 25)⟩,
       ⟨(some 27), none, .mov (.tmp 26)⟩]⟩,
      ⟨[⟨⟨(some 28), (some (27, false)), .mov (.tmp 0)⟩, true, false, false, 0, []⟩,
       ⟨⟨(some 29), (some (27, false)), .mov (.tmp 5)⟩, true, false, false, 0, []⟩,
       ⟨⟨(some 30), (some (27, false)), .iaddr 3 (.tmp 28) (.tmp 29)⟩, true, false, false, 0, []⟩,
       ⟨⟨(some 31), (some (27, false)), .faddr (.tmp 30) 1⟩, true, false, false, 0, []⟩,
       ⟨⟨(some 32), (some (27, false)), .load false 1 (.tmp 31)⟩, false, false, false, 0, []⟩,
       ⟨⟨(some 33), (some (27, false)), .mov (.tmp 1)⟩, true, false, false, 0, []⟩,
       ⟨⟨(some 34), (some (27, false)), .mov (.tmp 5)⟩, true, false, false, 0, []⟩,
       ⟨⟨(some 35), (some (27, false)), .iaddr 3 (.tmp 33) (.tmp 34)⟩, true, false, false, 0, []⟩,
       ⟨⟨(some 36), (some (27, false)), .faddr (.tmp 35) 1⟩, true, false, false, 0, []⟩,
       ⟨⟨(some 37), (some (27, false)), .load false 1 (.tmp 36)⟩, false, false, false, 0, []⟩], 0, [⟨(some 38), (some (27, false)), .bin .neq (.tmp 32) (.tmp 37)⟩,
       ⟨(some 39), none, .pick (.tmp 27) (.con (.bool true)) (.tmp 38)⟩,
       ⟨(some 40), none, .mov (.tmp 39)⟩]⟩,
      ⟨[⟨⟨(some 41), (some (40, false)), .mov (.tmp 0)⟩, true, false, false, 0, []⟩,
       ⟨⟨(some 42), (some (40, false)), .mov (.tmp 5)⟩, true, false, false, 0, []⟩,
       ⟨⟨(some 43), (some (40, false)), .iaddr 3 (.tmp 41) (.tmp 42)⟩, true, false, false, 0, []⟩,
       ⟨⟨(some 44), (some (40, false)), .faddr (.tmp 43) 2⟩, true, false, false, 0, []⟩,
       ⟨⟨(some 45), (some (40, false)), .load false 1 (.tmp 44)⟩, false, false, false, 0, []⟩,
       ⟨⟨(some 46), (some (40, false)), .mov (.tmp 1)⟩, true, false, false, 0, []⟩,
       ⟨⟨(some 47), (some (40, false)), .mov (.tmp 5)⟩, true, false, false, 0, []⟩,
       ⟨⟨(some 48), (some (40, false)), .iaddr 3 (.tmp 46) (.tmp 47)⟩, true, false, false, 0, []⟩,
       ⟨⟨(some 49), (some (40, false)), .faddr (.tmp 48) 2⟩, true, false, false, 0, []⟩,
       ⟨⟨(some 50), (some (40, false)), .load false 1 (.tmp 49)⟩, false, false, false, 0, []⟩], 0, [⟨(some 51), (some (40, false)), .call 37 [(.tmp 45), (.tmp 50)]⟩,
       ⟨(some 52), (some (40, false)), .un .not (.tmp 51)⟩,
       ⟨(some 53), none, .pick (.tmp 40) (.con (.bool true)) (.tmp 52)⟩]⟩])
     (.cond (.tmp 53)
      (.seq (.reg [⟨(some 4), none, .mov (.con (.bool false))⟩])
      .ret)
      .skip))))
    (.reg [⟨(some 54), none, .bin .add (.tmp 13) (.con (.int .i64 1))⟩,
      ⟨(some 13), none, .mov (.tmp 54)⟩])))))))
  (.seq (.reg [⟨(some 4), none, .mov (.con (.bool true))⟩])
  .ret))))
def g17 : Fn := ⟨2, 55, [.tmp 4], b17⟩
/- (quiver/quiverlaw08.Op).ts -/
def b18 : AC :=
  (.seq (.reg [⟨(some 2), none, .box (.tmp 0)⟩,
    ⟨(some 4), none, .mov (.con (.int .u64 0))⟩])
  (.seq (.reg [⟨(some 6), none, .mov (.tmp 1)⟩,
    ⟨(some 7), none, .call 25 [(.tmp 6)]⟩,
    ⟨(some 5), none, .mov (.tmp 7)⟩])
  (.seq (.block 0 (.seq (.reg [⟨(some 9), none, .faddr (.tmp 2) 2⟩,
     ⟨(some 10), none, .load false 1 (.tmp 9)⟩,
     ⟨(some 11), none, .un .not (.tmp 10)⟩,
     ⟨(some 8), none, .mov (.tmp 11)⟩])
   (.cond (.tmp 8)
    (.seq (.reg [⟨(some 12), none, .faddr (.tmp 2) 1⟩,
      ⟨(some 13), none, .load false 1 (.tmp 12)⟩,
      ⟨(some 4), none, .mov (.tmp 13)⟩])
    .ret)
    (.seq (.reg [⟨(some 15), none, .faddr (.tmp 2) 0⟩,
      ⟨(some 16), none, .load false 1 (.tmp 15)⟩,
      ⟨(some 17), none, .conv .u64 (.tmp 16)⟩,
      ⟨(some 18), none, .bin .rem (.tmp 17) (.con (.int .u64 5))⟩,
      ⟨(some 19), none, .bin .eql (.tmp 18) (.con (.int .u64 4))⟩,
      ⟨(some 14), none, .mov (.tmp 19)⟩])
    (.cond (.tmp 14)
     (.seq (.reg [⟨(some 20), none, .mov (.tmp 5)⟩,
       ⟨(some 21), none, .mov (.tmp 5)⟩,
       ⟨(some 22), none, .faddr (.tmp 2) 1⟩,
       ⟨(some 23), none, .load false 1 (.tmp 22)⟩,
       ⟨(some 24), none, .bin .rem (.tmp 23) (.con (.int .u64 10))⟩,
       ⟨(some 25), none, .min [(.tmp 21), (.tmp 24)]⟩,
       ⟨(some 26), none, .bin .sub (.tmp 20) (.tmp 25)⟩,
       ⟨(some 4), none, .mov (.tmp 26)⟩])
     .ret)
     .skip)))))
  (.seq (.reg [⟨(some 27), none, .mov (.tmp 5)⟩,
    ⟨(some 28), none, .faddr (.tmp 2) 1⟩,
    ⟨(some 29), none, .load false 1 (.tmp 28)⟩,
    ⟨(some 30), none, .bin .rem (.tmp 29) (.con (.int .u64 6))⟩,
    ⟨(some 31), none, .bin .add (.tmp 27) (.tmp 30)⟩,
    ⟨(some 4), none, .mov (.tmp 31)⟩])
  .ret))))
def g18 : Fn := ⟨2, 32, [.tmp 4], b18⟩
/- quiver/vec.Same -/
def b19 : AC :=
  (.seq (.reg [⟨(some 4), none, .mov (.con (.bool false))⟩])
  (.seq (.reg [⟨(some 5), none, .mov (.tmp 0)⟩,
    ⟨(some 6), none, .mov (.tmp 1)⟩,
    ⟨(some 7), none, .call 38 [(.tmp 5), (.tmp 6)]⟩,
    ⟨(some 4), none, .mov (.tmp 7)⟩])
  .ret))
def g19 : Fn := ⟨2, 8, [.tmp 4], b19⟩
/- quiver/quiverlaw08.shown -/
def b20 : AC :=
  (.seq (.reg [⟨(some 4), none, .mov (.con .nilS)⟩])
  (.seq (.seq (.reg [⟨(some 8), none, .mov (.tmp 0)⟩,
    ⟨(some 9), none, .mov (.tmp 1)⟩,
    ⟨(some 10), none, .call 13 [(.tmp 8), (.tmp 9)]⟩,
    ⟨(some 7), none, .mov (.tmp 10)⟩,
    ⟨(some 11), none, .ext (.tmp 7) 0⟩,
    ⟨(some 12), none, .ext (.tmp 7) 1⟩,
    ⟨(some 5), none, .mov (.tmp 11)⟩,
    ⟨(some 6), none, .mov (.tmp 12)⟩])
  (.seq (.reg [⟨(some 13), none, .mov (.tmp 6)⟩])
  (.cond (.tmp 13)
   (.seq (.reg [⟨(some 14), none, .mov (.tmp 0)⟩,
     ⟨(some 15), none, .mov (.tmp 5)⟩,
     ⟨(some 16), none, .iaddr 3 (.tmp 14) (.tmp 15)⟩,
     ⟨(some 17), none, .faddr (.tmp 16) 2⟩,
     ⟨(some 18), none, .load false 1 (.tmp 17)⟩,
     ⟨(some 4), none, .mov (.tmp 18)⟩])
   .ret)
   .skip)))
  (.seq (.reg [⟨(some 4), none, .mov (.con .nilS)⟩])
  .ret)))
def g20 : Fn := ⟨2, 19, [.tmp 4], b20⟩
/- quiver/chain.Last -/
def b21 : AC :=
  (.seq (.reg [⟨(some 2), none, .mov (.con (.int .u64 0))⟩])
  (.seq (.seq (.reg [⟨(some 3), none, .mov (.tmp 0)⟩,
    ⟨(some 4), none, .call 11 [(.tmp 3)]⟩,
    ⟨(some 5), none, .bin .neq (.tmp 4) (.con (.int .i64 0))⟩])
  (.cond (.tmp 5)
   (.seq (.reg [⟨(some 2), none, .mov (.con (.int .u64 0))⟩])
   .ret)
   .skip))
  (.seq (.reg [⟨(some 6), none, .mov (.tmp 0)⟩,
    ⟨(some 7), none, .call 39 [(.tmp 6)]⟩,
    ⟨(some 2), none, .mov (.tmp 7)⟩])
  .ret)))
def g21 : Fn := ⟨1, 8, [.tmp 2], b21⟩
/- (quiver/quiverlaw08.Op).vec -/
def b22 : AC :=
  (.seq (.reg [⟨(some 1), none, .box (.tmp 0)⟩,
    ⟨(some 2), none, .mov (.con .nilS)⟩])
  (.seq (.reg [⟨(some 3), none, .lit 1 []⟩,
    ⟨(some 4), none, .faddr (.tmp 1) 3⟩,
    ⟨(some 5), none, .load false 1 (.tmp 4)⟩,
    ⟨(some 6), none, .faddr (.tmp 1) 3⟩,
    ⟨(some 7), none, .load false 1 (.tmp 6)⟩,
    ⟨(some 8), none, .len (.tmp 7)⟩,
    ⟨(some 9), none, .min [(.tmp 8), (.con (.int .i64 5))]⟩,
    ⟨(some 10), none, .slice 1 (.tmp 5) none (some (.tmp 9))⟩,
    ⟨(some 11), none, .append 1 4 (.tmp 3) (.tmp 10)⟩,
    ⟨(some 2), none, .mov (.tmp 11)⟩])
  .ret))
def g22 : Fn := ⟨1, 12, [.tmp 2], b22⟩
/- quiver/quiverref08.Right -/
def b23 : AC :=
  (.seq (.reg [⟨(some 2), none, .mov (.con (.bool false))⟩])
  (.seq (.seq (.reg [⟨(some 5), none, .mov (.tmp 0)⟩,
    ⟨(some 6), none, .len (.tmp 5)⟩,
    ⟨(some 7), none, .bin .gtr (.tmp 6) (.con (.int .i64 96))⟩])
  (.cond (.tmp 7)
   (.seq (.reg [⟨(some 2), none, .mov (.con (.bool false))⟩])
   .ret)
   .skip))
  (.seq (.seq (.reg [⟨(some 8), none, .mov (.tmp 0)⟩,
    ⟨(some 9), none, .len (.tmp 8)⟩,
    ⟨(some 10), none, .mov (.con (.int .i64 0))⟩])
  (.block 0 (.loop (.seq (.reg [⟨(some 11), none, .bin .lss (.tmp 10) (.tmp 9)⟩])
    (.seq (.cond (.tmp 11)
     .skip
     (.exit 0))
    (.seq (.block 1 (.seq (.reg [⟨(some 12), none, .mov (.tmp 10)⟩,
       ⟨(some 13), none, .iaddr 3 (.tmp 8) (.tmp 10)⟩,
       ⟨(some 14), none, .load true 3 (.tmp 13)⟩,
       ⟨(some 4), none, .alloc (.agg [(.int .u64 0), (.int .u64 0), .nilS])⟩,
       ⟨(some 3), none, .mov (.tmp 12)⟩,
       ⟨none, none, .store 3 (.tmp 4) (.tmp 14)⟩])
     (.seq (.seq (.regd [⟨[], 0, [⟨(some 15), none, .faddr (.tmp 4) 0⟩,
       ⟨(some 16), none, .load false 1 (.tmp 15)⟩,
       ⟨(some 17), none, .bin .lss (.tmp 16) (.con (.int .u64 1))⟩,
       ⟨(some 18), none, .mov (.tmp 17)⟩,
       ⟨(some 19), (some (18, false)), .faddr (.tmp 4) 0⟩,
       ⟨(some 20), (some (18, false)), .load false 1 (.tmp 19)⟩,
       ⟨(some 21), (some (18, false)), .bin .gtr (.tmp 20) (.con (.int .u64 1099511627776))⟩,
       ⟨(some 22), none, .pick (.tmp 18) (.con (.bool true)) (.tmp 21)⟩,
       ⟨(some 23), none, .mov (.tmp 22)⟩,
       ⟨(some 24), (some (23, false)), .faddr (.tmp 4) 1⟩,
       ⟨(some 25), (some (23, false)), .load false 1 (.tmp 24)⟩,
       ⟨(some 26), (some (23, false)), .bin .gtr (.tmp 25) (.con (.int .u64 1099511627776))⟩,
       ⟨(some 27), none, .pick (.tmp 23) (.con (.bool true)) (.tmp 26)⟩,
       ⟨(some 28), none, .mov (.tmp 27)⟩,
       ⟨(some 29), (some (28, false)), .faddr (.tmp 4) 1⟩,
       ⟨(some 30), (some (28, false)), .load false 1 (.tmp 29)⟩,
       ⟨(some 31), (some (28, false)), .bin .neq (.tmp 30) (.con (.int .u64 0))⟩,
       ⟨(some 32), (some (28, false)), .mov (.tmp 31)⟩]⟩,
      ⟨[⟨⟨(some 33), (some (32, true)), .faddr (.tmp 4) 1⟩, true, false, false, 0, []⟩,
       ⟨⟨(some 34), (some (32, true)), .load false 1 (.tmp 33)⟩, false, false, false, 0, []⟩,
       ⟨⟨(some 35), (some (32, true)), .faddr (.tmp 4) 0⟩, true, false, false, 0, []⟩,
       ⟨⟨(some 36), (some (32, true)), .load false 1 (.tmp 35)⟩, false, false, false, 0, []⟩], 0, [⟨(some 37), (some (32, true)), .bin .leq (.tmp 34) (.tmp 36)⟩,
       ⟨(some 38), (some (28, false)), .pick (.tmp 32) (.tmp 37) (.con (.bool false))⟩,
       ⟨(some 39), none, .pick (.tmp 28) (.con (.bool true)) (.tmp 38)⟩,
       ⟨(some 40), none, .mov (.tmp 39)⟩,
       ⟨(some 41), (some (40, false)), .faddr (.tmp 4) 2⟩,
       ⟨(some 42), (some (40, false)), .load false 1 (.tmp 41)⟩,
       ⟨(some 43), (some (40, false)), .call 40 [(.tmp 42)]⟩,
       ⟨(some 44), (some (40, false)), .un .not (.tmp 43)⟩,
       ⟨(some 45), none, .pick (.tmp 40) (.con (.bool true)) (.tmp 44)⟩,
       ⟨(some 46), none, .mov (.tmp 45)⟩]⟩,
      ⟨[⟨⟨(some 47), (some (46, false)), .faddr (.tmp 4) 2⟩, true, false, false, 0, []⟩,
       ⟨⟨(some 48), (some (46, false)), .load false 1 (.tmp 47)⟩, false, false, false, 0, []⟩,
       ⟨⟨(some 49), (some (46, false)), .len (.tmp 48)⟩, true, false, false, 0, []⟩,
       ⟨⟨(some 50), (some (46, false)), .mov (.tmp 0)⟩, true, false, false, 0, []⟩,
       ⟨⟨(some 51), (some (46, false)), .iaddr 3 (.tmp 50) (.con (.int .i64 0))⟩, true, false, false, 0, []⟩,
       ⟨⟨(some 52), (some (46, false)), .faddr (.tmp 51) 2⟩, true, false, false, 0, []⟩,
       ⟨⟨(some 53), (some (46, false)), .load false 1 (.tmp 52)⟩, false, false, false, 0, []⟩,
       ⟨⟨(some 54), (some (46, false)), .len (.tmp 53)⟩, true, false, false, 0, []⟩], 0, [⟨(some 55), (some (46, false)), .bin .neq (.tmp 49) (.tmp 54)⟩,
       ⟨(some 56), none, .pick (.tmp 46) (.con (.bool true)) (.tmp 55)⟩]⟩])
     (.cond (.tmp 56)
      (.seq (.reg [⟨(some 2), none, .mov (.con (.bool false))⟩])
      .ret)
      .skip))
     (.seq (.regd [⟨[⟨⟨(some 57), none, .mov (.tmp 3)⟩, true, false, false, 0, []⟩,
       ⟨⟨(some 58), none, .mov (.tmp 0)⟩, true, false, false, 0, []⟩,
       ⟨⟨(some 59), none, .len (.tmp 58)⟩, true, false, false, 0, []⟩,
       ⟨⟨(some 60), none, .bin .sub (.tmp 59) (.con (.int .i64 1))⟩, true, false, false, 0, []⟩], 0, [⟨(some 61), none, .bin .lss (.tmp 57) (.tmp 60)⟩,
       ⟨(some 62), none, .mov (.tmp 61)⟩,
       ⟨(some 63), (some (62, true)), .faddr (.tmp 4) 1⟩,
       ⟨(some 64), (some (62, true)), .load false 1 (.tmp 63)⟩,
       ⟨(some 65), (some (62, true)), .bin .eql (.tmp 64) (.con (.int .u64 0))⟩,
       ⟨(some 66), (some (62, true)), .mov (.tmp 65)⟩]⟩,
      ⟨[⟨⟨(some 67), (some (66, false)), .faddr (.tmp 4) 1⟩, true, false, false, 0, []⟩,
       ⟨⟨(some 68), (some (66, false)), .load false 1 (.tmp 67)⟩, false, false, false, 0, []⟩,
       ⟨⟨(some 69), (some (66, false)), .mov (.tmp 0)⟩, true, false, false, 0, []⟩,
       ⟨⟨(some 70), (some (66, false)), .mov (.tmp 3)⟩, true, false, false, 0, []⟩,
       ⟨⟨(some 71), (some (66, false)), .bin .add (.tmp 70) (.con (.int .i64 1))⟩, true, false, false, 0, []⟩,
       ⟨⟨(some 72), (some (66, false)), .iaddr 3 (.tmp 69) (.tmp 71)⟩, true, false, false, 0, []⟩,
       ⟨⟨(some 73), (some (66, false)), .faddr (.tmp 72) 0⟩, true, false, false, 0, []⟩,
       ⟨⟨(some 74), (some (66, false)), .load false 1 (.tmp 73)⟩, false, false, false, 0, []⟩], 0, [⟨(some 75), (some (66, false)), .bin .gtr (.tmp 68) (.tmp 74)⟩,
       ⟨(some 76), (some (62, true)), .pick (.tmp 66) (.con (.bool true)) (.tmp 75)⟩,
       ⟨(some 77), none, .pick (.tmp 62) (.tmp 76) (.con (.bool false))⟩]⟩])
     (.cond (.tmp 77)
      (.seq (.reg [⟨(some 2), none, .mov (.con (.bool false))⟩])
      .ret)
      .skip)))))
    (.reg [⟨(some 78), none, .bin .add (.tmp 10) (.con (.int .i64 1))⟩,
      ⟨(some 10), none, .mov (.tmp 78)⟩])))))))
  (.seq (.reg [⟨(some 2), none, .mov (.con (.bool true))⟩])
  .ret))))
def g23 : Fn := ⟨1, 79, [.tmp 2], b23⟩
/- quiver/chain.Same -/
def b24 : AC :=
  (.seq (.reg [⟨(some 4), none, .mov (.con (.bool false))⟩])
  (.seq (.reg [⟨(some 5), none, .mov (.tmp 0)⟩,
    ⟨(some 6), none, .mov (.tmp 1)⟩,
    ⟨(some 7), none, .call 41 [(.tmp 5), (.tmp 6), (.con (.fn 42 []))]⟩,
    ⟨(some 4), none, .mov (.tmp 7)⟩])
  .ret))
def g24 : Fn := ⟨2, 8, [.tmp 4], b24⟩
/- quiver/quiverref08.Last -/
def b25 : AC :=
  (.seq (.reg [⟨(some 2), none, .mov (.con (.int .u64 0))⟩])
  (.seq (.reg [⟨(some 3), none, .mov (.con (.int .u64 0))⟩])
  (.seq (.seq (.reg [⟨(some 6), none, .mov (.tmp 0)⟩,
    ⟨(some 7), none, .len (.tmp 6)⟩,
    ⟨(some 8), none, .mov (.con (.int .i64 0))⟩])
  (.block 0 (.loop (.seq (.reg [⟨(some 9), none, .bin .lss (.tmp 8) (.tmp 7)⟩])
    (.seq (.cond (.tmp 9)
     .skip
     (.exit 0))
    (.seq (.block 1 (.seq (.reg [⟨(some 10), none, .iaddr 3 (.tmp 6) (.tmp 8)⟩,
       ⟨(some 11), none, .load true 3 (.tmp 10)⟩,
       ⟨(some 5), none, .alloc (.agg [(.int .u64 0), (.int .u64 0), .nilS])⟩,
       ⟨none, none, .store 3 (.tmp 5) (.tmp 11)⟩])
     (.reg [⟨(some 12), none, .mov (.tmp 3)⟩,
       ⟨(some 13), none, .faddr (.tmp 5) 0⟩,
       ⟨(some 14), none, .load false 1 (.tmp 13)⟩,
       ⟨(some 15), none, .faddr (.tmp 5) 1⟩,
       ⟨(some 16), none, .load false 1 (.tmp 15)⟩,
       ⟨(some 17), none, .max [(.tmp 12), (.tmp 14), (.tmp 16)]⟩,
       ⟨(some 3), none, .mov (.tmp 17)⟩])))
    (.reg [⟨(some 18), none, .bin .add (.tmp 8) (.con (.int .i64 1))⟩,
      ⟨(some 8), none, .mov (.tmp 18)⟩])))))))
  (.seq (.reg [⟨(some 19), none, .mov (.tmp 3)⟩,
    ⟨(some 2), none, .mov (.tmp 19)⟩])
  .ret))))
def g25 : Fn := ⟨1, 20, [.tmp 2], b25⟩
/- quiver/quiverref08.At -/
def b26 : AC :=
  (.seq (.reg [⟨(some 4), none, .mov (.con (.int .i64 0))⟩,
    ⟨(some 5), none, .mov (.con (.bool false))⟩])
  (.seq (.seq (.reg [⟨(some 8), none, .mov (.tmp 0)⟩,
    ⟨(some 9), none, .len (.tmp 8)⟩,
    ⟨(some 10), none, .mov (.con (.int .i64 0))⟩])
  (.block 0 (.loop (.seq (.reg [⟨(some 11), none, .bin .lss (.tmp 10) (.tmp 9)⟩])
    (.seq (.cond (.tmp 11)
     .skip
     (.exit 0))
    (.seq (.block 1 (.seq (.reg [⟨(some 12), none, .mov (.tmp 10)⟩,
       ⟨(some 13), none, .iaddr 3 (.tmp 8) (.tmp 10)⟩,
       ⟨(some 14), none, .load true 3 (.tmp 13)⟩,
       ⟨(some 7), none, .alloc (.agg [(.int .u64 0), (.int .u64 0), .nilS])⟩,
       ⟨(some 6), none, .mov (.tmp 12)⟩,
       ⟨none, none, .store 3 (.tmp 7) (.tmp 14)⟩])
     (.seq (.reg [⟨(some 15), none, .load true 3 (.tmp 7)⟩,
       ⟨(some 16), none, .mov (.tmp 1)⟩,
       ⟨(some 17), none, .call 43 [(.tmp 15), (.tmp 16)]⟩])
     (.cond (.tmp 17)
      (.seq (.reg [⟨(some 18), none, .mov (.tmp 6)⟩,
        ⟨(some 4), none, .mov (.tmp 18)⟩,
        ⟨(some 5), none, .mov (.con (.bool true))⟩])
      .ret)
      .skip))))
    (.reg [⟨(some 19), none, .bin .add (.tmp 10) (.con (.int .i64 1))⟩,
      ⟨(some 10), none, .mov (.tmp 19)⟩])))))))
  (.seq (.reg [⟨(some 4), none, .mov (.con (.int .i64 0))⟩,
    ⟨(some 5), none, .mov (.con (.bool false))⟩])
  .ret)))
def g26 : Fn := ⟨2, 20, [.tmp 4, .tmp 5], b26⟩
/- quiver/chain.Prune -/
def b27 : AC :=
  (.seq (.reg [⟨(some 3), none, .box (.tmp 1)⟩,
    ⟨(some 4), none, .mov (.con .nilS)⟩,
    ⟨(some 5), none, .mov (.con .nilS)⟩,
    ⟨(some 6), none, .mov (.con (.int .i64 0))⟩])
  (.seq (.seq (.reg [⟨(some 13), none, .mov (.tmp 0)⟩,
    ⟨(some 14), none, .call 11 [(.tmp 13)]⟩,
    ⟨(some 7), none, .mov (.tmp 14)⟩])
  (.seq (.reg [⟨(some 15), none, .mov (.tmp 7)⟩,
    ⟨(some 16), none, .bin .neq (.tmp 15) (.con (.int .i64 0))⟩])
  (.cond (.tmp 16)
   (.seq (.reg [⟨(some 17), none, .mov (.tmp 7)⟩,
     ⟨(some 4), none, .mov (.con .nilS)⟩,
     ⟨(some 5), none, .mov (.con .nilS)⟩,
     ⟨(some 6), none, .mov (.tmp 17)⟩])
   .ret)
   .skip)))
  (.seq (.reg [⟨(some 18), none, .mkfn 44 [(.tmp 3)]⟩,
    ⟨(some 8), none, .alloc .nilF⟩,
    ⟨none, none, .store 1 (.tmp 8) (.tmp 18)⟩])
  (.seq (.reg [⟨(some 9), none, .alloc .nilS⟩,
    ⟨(some 10), none, .alloc .nilS⟩])
  (.seq (.seq (.regd [⟨[⟨⟨(some 19), none, .mov (.tmp 0)⟩, true, false, false, 0, []⟩,
    ⟨⟨(some 20), none, .call 46 [(.tmp 19)]⟩, false, false, true, 0, []⟩,
    ⟨⟨(some 21), none, .load false 1 (.tmp 8)⟩, false, false, false, 1, [0]⟩], 1, [⟨(some 22), none, .call 45 [(.tmp 20), (.tmp 21)]⟩]⟩])
  (.block 0 (.rangeF (.tmp 22) [23]
    (.reg [⟨(some 11), none, .alloc (.agg [(.int .u64 0), (.int .u64 0), .nilS])⟩,
      ⟨none, none, .store 3 (.tmp 11) (.tmp 23)⟩])
    (.block 1 (.reg [⟨(some 24), none, .load false 1 (.tmp 10)⟩,
       ⟨(some 25), none, .load true 3 (.tmp 11)⟩,
       ⟨(some 26), none, .lit 3 [(.tmp 25)]⟩,
       ⟨(some 27), none, .append 3 40 (.tmp 24) (.tmp 26)⟩,
       ⟨none, none, .store 1 (.tmp 10) (.tmp 27)⟩])))))
  (.seq (.seq (.reg [⟨(some 28), none, .mov (.tmp 0)⟩,
    ⟨(some 29), none, .call 46 [(.tmp 28)]⟩,
    ⟨(some 30), none, .mkfn 47 [(.tmp 8)]⟩,
    ⟨(some 31), none, .call 45 [(.tmp 29), (.tmp 30)]⟩])
  (.block 2 (.rangeF (.tmp 31) [32]
    (.reg [⟨(some 12), none, .alloc (.agg [(.int .u64 0), (.int .u64 0), .nilS])⟩,
      ⟨none, none, .store 3 (.tmp 12) (.tmp 32)⟩])
    (.block 3 (.reg [⟨(some 33), none, .load false 1 (.tmp 9)⟩,
       ⟨(some 34), none, .load true 3 (.tmp 12)⟩,
       ⟨(some 35), none, .lit 3 [(.tmp 34)]⟩,
       ⟨(some 36), none, .append 3 40 (.tmp 33) (.tmp 35)⟩,
       ⟨none, none, .store 1 (.tmp 9) (.tmp 36)⟩])))))
  (.seq (.regd [⟨[⟨⟨(some 37), none, .load false 1 (.tmp 9)⟩, false, false, false, 0, []⟩,
    ⟨⟨(some 38), none, .load false 1 (.tmp 10)⟩, false, false, false, 0, []⟩,
    ⟨⟨(some 4), none, .mov (.tmp 37)⟩, true, false, false, 0, []⟩], 0, [⟨(some 5), none, .mov (.tmp 38)⟩,
    ⟨(some 6), none, .mov (.con (.int .i64 0))⟩]⟩])
  .ret)))))))
def g27 : Fn := ⟨2, 39, [.tmp 4, .tmp 5, .tmp 6], b27⟩
/- quiver/chain.Put -/
def b28 : AC :=
  (.seq (.reg [⟨(some 4), none, .box (.tmp 1)⟩,
    ⟨(some 5), none, .box (.tmp 2)⟩,
    ⟨(some 6), none, .mov (.con .nilS)⟩,
    ⟨(some 7), none, .mov (.con (.int .i64 0))⟩])
  (.seq (.reg [⟨(some 8), none, .mov (.tmp 0)⟩,
    ⟨(some 9), none, .load false 1 (.tmp 4)⟩,
    ⟨(some 10), none, .mkfn 49 [(.tmp 5), (.tmp 4)]⟩,
    ⟨(some 11), none, .call 48 [(.tmp 8), (.tmp 9), (.tmp 10)]⟩,
    ⟨(some 12), none, .ext (.tmp 11) 0⟩,
    ⟨(some 13), none, .ext (.tmp 11) 1⟩,
    ⟨(some 6), none, .mov (.tmp 12)⟩,
    ⟨(some 7), none, .mov (.tmp 13)⟩])
  .ret))
def g28 : Fn := ⟨3, 14, [.tmp 6, .tmp 7], b28⟩
/- quiver/vec.Of -/
def b29 : AC :=
  (.seq (.reg [⟨(some 4), none, .mov (.con (.int .i64 0))⟩])
  (.seq (.seq (.reg [⟨(some 6), none, .mov (.tmp 0)⟩,
    ⟨(some 7), none, .call 52 [(.tmp 6)]⟩,
    ⟨(some 5), none, .mov (.tmp 7)⟩])
  (.seq (.reg [⟨(some 8), none, .mov (.tmp 5)⟩,
    ⟨(some 9), none, .bin .neq (.tmp 8) (.con (.int .i64 0))⟩])
  (.cond (.tmp 9)
   (.seq (.reg [⟨(some 10), none, .mov (.tmp 5)⟩,
     ⟨(some 4), none, .mov (.tmp 10)⟩])
   .ret)
   .skip)))
  (.seq (.seq (.reg [⟨(some 11), none, .mov (.tmp 0)⟩,
    ⟨(some 12), none, .len (.tmp 11)⟩,
    ⟨(some 13), none, .mov (.tmp 1)⟩,
    ⟨(some 14), none, .bin .neq (.tmp 12) (.tmp 13)⟩])
  (.cond (.tmp 14)
   (.seq (.reg [⟨(some 4), none, .mov (.con (.int .i64 151))⟩])
   .ret)
   .skip))
  (.seq (.reg [⟨(some 4), none, .mov (.con (.int .i64 0))⟩])
  .ret))))
def g29 : Fn := ⟨2, 15, [.tmp 4], b29⟩
/- slices.IndexFunc[[]quiver/api.Version,quiver/api.Version] -/
def b30 : AC :=
  (.seq (.reg [⟨(some 4), none, .mov (.con (.int .i64 0))⟩])
  (.seq (.seq (.reg [⟨(some 6), none, .mov (.tmp 0)⟩,
    ⟨(some 7), none, .len (.tmp 6)⟩,
    ⟨(some 8), none, .mov (.con (.int .i64 0))⟩])
  (.block 0 (.loop (.seq (.reg [⟨(some 9), none, .bin .lss (.tmp 8) (.tmp 7)⟩])
    (.seq (.cond (.tmp 9)
     .skip
     (.exit 0))
    (.seq (.block 1 (.seq (.reg [⟨(some 10), none, .mov (.tmp 8)⟩,
       ⟨(some 5), none, .mov (.tmp 10)⟩])
     (.seq (.reg [⟨(some 11), none, .mov (.tmp 1)⟩,
       ⟨(some 12), none, .mov (.tmp 0)⟩,
       ⟨(some 13), none, .mov (.tmp 5)⟩,
       ⟨(some 14), none, .iaddr 3 (.tmp 12) (.tmp 13)⟩,
       ⟨(some 15), none, .load true 3 (.tmp 14)⟩,
       ⟨(some 16), none, .callv (.tmp 11) [(.tmp 15)]⟩])
     (.cond (.tmp 16)
      (.seq (.reg [⟨(some 17), none, .mov (.tmp 5)⟩,
        ⟨(some 4), none, .mov (.tmp 17)⟩])
      .ret)
      .skip))))
    (.reg [⟨(some 18), none, .bin .add (.tmp 8) (.con (.int .i64 1))⟩,
      ⟨(some 8), none, .mov (.tmp 18)⟩])))))))
  (.seq (.reg [⟨(some 4), none, .mov (.con (.int .i64 (-1)))⟩])
  .ret)))
def g30 : Fn := ⟨2, 19, [.tmp 4], b30⟩
/- quiver/chain.At$1 -/
def b31 : AC :=
  (.seq (.reg [⟨(some 2), none, .box (.tmp 0)⟩,
    ⟨(some 3), none, .mov (.con (.bool false))⟩])
  (.seq (.reg [⟨(some 4), none, .load true 3 (.tmp 2)⟩,
    ⟨(some 5), none, .load false 1 (.tmp 1)⟩,
    ⟨(some 6), none, .call 32 [(.tmp 4), (.tmp 5)]⟩,
    ⟨(some 3), none, .mov (.tmp 6)⟩])
  .ret))
def g31 : Fn := ⟨2, 7, [.tmp 3], b31⟩
/- quiver/chain.visible -/
def b32 : AC :=
  (.seq (.reg [⟨(some 2), none, .box (.tmp 0)⟩,
    ⟨(some 4), none, .mov (.con (.bool false))⟩])
  (.seq (.reg [⟨(some 5), none, .faddr (.tmp 2) 0⟩,
    ⟨(some 6), none, .load false 1 (.tmp 5)⟩,
    ⟨(some 7), none, .mov (.tmp 1)⟩,
    ⟨(some 8), none, .bin .leq (.tmp 6) (.tmp 7)⟩,
    ⟨(some 9), none, .mov (.tmp 8)⟩,
    ⟨(some 10), (some (9, true)), .faddr (.tmp 2) 1⟩,
    ⟨(some 11), (some (9, true)), .load false 1 (.tmp 10)⟩,
    ⟨(some 12), (some (9, true)), .bin .eql (.tmp 11) (.con (.int .u64 0))⟩,
    ⟨(some 13), (some (9, true)), .mov (.tmp 12)⟩,
    ⟨(some 14), (some (13, false)), .mov (.tmp 1)⟩,
    ⟨(some 15), (some (13, false)), .faddr (.tmp 2) 1⟩,
    ⟨(some 16), (some (13, false)), .load false 1 (.tmp 15)⟩,
    ⟨(some 17), (some (13, false)), .bin .lss (.tmp 14) (.tmp 16)⟩,
    ⟨(some 18), (some (9, true)), .pick (.tmp 13) (.con (.bool true)) (.tmp 17)⟩,
    ⟨(some 19), none, .pick (.tmp 9) (.tmp 18) (.con (.bool false))⟩,
    ⟨(some 4), none, .mov (.tmp 19)⟩])
  .ret))
def g32 : Fn := ⟨2, 20, [.tmp 4], b32⟩
/- quiver/chain.Del -/
def b33 : AC :=
  (.seq (.reg [⟨(some 3), none, .box (.tmp 1)⟩,
    ⟨(some 4), none, .mov (.con .nilS)⟩,
    ⟨(some 5), none, .mov (.con (.int .i64 0))⟩])
  (.seq (.reg [⟨(some 6), none, .mov (.tmp 0)⟩,
    ⟨(some 7), none, .load false 1 (.tmp 3)⟩,
    ⟨(some 8), none, .mkfn 53 [(.tmp 3)]⟩,
    ⟨(some 9), none, .call 48 [(.tmp 6), (.tmp 7), (.tmp 8)]⟩,
    ⟨(some 10), none, .ext (.tmp 9) 0⟩,
    ⟨(some 11), none, .ext (.tmp 9) 1⟩,
    ⟨(some 4), none, .mov (.tmp 10)⟩,
    ⟨(some 5), none, .mov (.tmp 11)⟩])
  .ret))
def g33 : Fn := ⟨2, 12, [.tmp 4, .tmp 5], b33⟩
/- quiver/quiverref08.Del -/
def b34 : AC :=
  (.seq (.reg [⟨(some 4), none, .mov (.con .nilS)⟩,
    ⟨(some 5), none, .mov (.con (.int .i64 0))⟩])
  (.seq (.seq (.reg [⟨(some 8), none, .mov (.tmp 0)⟩,
    ⟨(some 9), none, .mov (.tmp 1)⟩,
    ⟨(some 10), none, .call 54 [(.tmp 8), (.tmp 9)]⟩,
    ⟨(some 11), none, .un .not (.tmp 10)⟩])
  (.cond (.tmp 11)
   (.seq (.reg [⟨(some 4), none, .mov (.con .nilS)⟩,
     ⟨(some 5), none, .mov (.con (.int .i64 181))⟩])
   .ret)
   .skip))
  (.seq (.reg [⟨(some 12), none, .mov (.tmp 0)⟩,
    ⟨(some 13), none, .call 14 [(.tmp 12)]⟩,
    ⟨(some 6), none, .mov (.tmp 13)⟩])
  (.seq (.reg [⟨(some 14), none, .mov (.tmp 6)⟩,
    ⟨(some 15), none, .call 55 [(.tmp 14)]⟩,
    ⟨(some 7), none, .mov (.tmp 15)⟩])
  (.seq (.seq (.reg [⟨(some 16), none, .mov (.tmp 7)⟩,
    ⟨(some 17), none, .bin .lss (.tmp 16) (.con (.int .i64 0))⟩])
  (.cond (.tmp 17)
   (.seq (.reg [⟨(some 4), none, .mov (.con .nilS)⟩,
     ⟨(some 5), none, .mov (.con (.int .i64 4))⟩])
   .ret)
   .skip))
  (.seq (.reg [⟨(some 18), none, .mov (.tmp 6)⟩,
    ⟨(some 19), none, .mov (.tmp 7)⟩,
    ⟨(some 20), none, .mov (.tmp 1)⟩,
    ⟨(some 21), none, .iaddr 3 (.tmp 18) (.tmp 19)⟩,
    ⟨(some 22), none, .faddr (.tmp 21) 1⟩,
    ⟨none, none, .store 1 (.tmp 22) (.tmp 20)⟩])
  (.seq (.reg [⟨(some 23), none, .mov (.tmp 6)⟩,
    ⟨(some 4), none, .mov (.tmp 23)⟩,
    ⟨(some 5), none, .mov (.con (.int .i64 0))⟩])
  .ret)))))))
def g34 : Fn := ⟨2, 24, [.tmp 4, .tmp 5], b34⟩
/- quiver/quiverref08.Prune -/
def b35 : AC :=
  (.seq (.reg [⟨(some 4), none, .mov (.con .nilS)⟩,
    ⟨(some 5), none, .mov (.con .nilS)⟩])
  (.seq (.reg [⟨(some 6), none, .mov (.con .nilS)⟩,
    ⟨(some 7), none, .mov (.con .nilS)⟩])
  (.seq (.seq (.reg [⟨(some 10), none, .mov (.tmp 0)⟩,
    ⟨(some 11), none, .call 14 [(.tmp 10)]⟩,
    ⟨(some 12), none, .len (.tmp 11)⟩,
    ⟨(some 13), none, .mov (.con (.int .i64 0))⟩])
  (.block 0 (.loop (.seq (.reg [⟨(some 14), none, .bin .lss (.tmp 13) (.tmp 12)⟩])
    (.seq (.cond (.tmp 14)
     .skip
     (.exit 0))
    (.seq (.block 1 (.seq (.reg [⟨(some 15), none, .iaddr 3 (.tmp 11) (.tmp 13)⟩,
       ⟨(some 16), none, .load true 3 (.tmp 15)⟩,
       ⟨(some 9), none, .alloc (.agg [(.int .u64 0), (.int .u64 0), .nilS])⟩,
       ⟨none, none, .store 3 (.tmp 9) (.tmp 16)⟩])
     (.seq (.reg [⟨(some 17), none, .faddr (.tmp 9) 1⟩,
       ⟨(some 18), none, .load false 1 (.tmp 17)⟩,
       ⟨(some 19), none, .bin .eql (.tmp 18) (.con (.int .u64 0))⟩,
       ⟨(some 20), none, .mov (.tmp 19)⟩,
       ⟨(some 21), (some (20, false)), .faddr (.tmp 9) 1⟩,
       ⟨(some 22), (some (20, false)), .load false 1 (.tmp 21)⟩,
       ⟨(some 23), (some (20, false)), .mov (.tmp 1)⟩,
       ⟨(some 24), (some (20, false)), .bin .gtr (.tmp 22) (.tmp 23)⟩,
       ⟨(some 25), none, .pick (.tmp 20) (.con (.bool true)) (.tmp 24)⟩])
     (.cond (.tmp 25)
      (.reg [⟨(some 26), none, .mov (.tmp 6)⟩,
        ⟨(some 27), none, .load true 3 (.tmp 9)⟩,
        ⟨(some 28), none, .lit 3 [(.tmp 27)]⟩,
        ⟨(some 29), none, .append 3 40 (.tmp 26) (.tmp 28)⟩,
        ⟨(some 6), none, .mov (.tmp 29)⟩])
      (.reg [⟨(some 30), none, .mov (.tmp 7)⟩,
        ⟨(some 31), none, .load true 3 (.tmp 9)⟩,
        ⟨(some 32), none, .lit 3 [(.tmp 31)]⟩,
        ⟨(some 33), none, .append 3 40 (.tmp 30) (.tmp 32)⟩,
        ⟨(some 7), none, .mov (.tmp 33)⟩])))))
    (.reg [⟨(some 34), none, .bin .add (.tmp 13) (.con (.int .i64 1))⟩,
      ⟨(some 13), none, .mov (.tmp 34)⟩])))))))
  (.seq (.reg [⟨(some 35), none, .mov (.tmp 6)⟩,
    ⟨(some 36), none, .mov (.tmp 7)⟩,
    ⟨(some 4), none, .mov (.tmp 35)⟩,
    ⟨(some 5), none, .mov (.tmp 36)⟩])
  .ret))))
def g35 : Fn := ⟨2, 37, [.tmp 4, .tmp 5], b35⟩
/- quiver/quiverref08.Put -/
def b36 : AC :=
  (.seq (.reg [⟨(some 6), none, .mov (.con .nilS)⟩,
    ⟨(some 7), none, .mov (.con (.int .i64 0))⟩])
  (.seq (.block 0 (.seq (.reg [⟨(some 11), none, .mov (.tmp 0)⟩,
     ⟨(some 12), none, .mov (.tmp 1)⟩,
     ⟨(some 13), none, .call 54 [(.tmp 11), (.tmp 12)]⟩,
     ⟨(some 14), none, .un .not (.tmp 13)⟩,
     ⟨(some 10), none, .mov (.tmp 14)⟩])
   (.cond (.tmp 10)
    (.seq (.reg [⟨(some 6), none, .mov (.con .nilS)⟩,
      ⟨(some 7), none, .mov (.con (.int .i64 181))⟩])
    .ret)
    (.seq (.reg [⟨(some 16), none, .mov (.tmp 2)⟩,
      ⟨(some 17), none, .call 40 [(.tmp 16)]⟩,
      ⟨(some 18), none, .un .not (.tmp 17)⟩,
      ⟨(some 15), none, .mov (.tmp 18)⟩])
    (.cond (.tmp 15)
     (.seq (.reg [⟨(some 6), none, .mov (.con .nilS)⟩,
       ⟨(some 7), none, .mov (.con (.int .i64 150))⟩])
     .ret)
     (.seq (.reg [⟨(some 20), none, .mov (.tmp 0)⟩,
       ⟨(some 21), none, .len (.tmp 20)⟩,
       ⟨(some 22), none, .bin .gtr (.tmp 21) (.con (.int .i64 0))⟩,
       ⟨(some 23), none, .mov (.tmp 22)⟩,
       ⟨(some 24), (some (23, true)), .mov (.tmp 0)⟩,
       ⟨(some 25), (some (23, true)), .iaddr 3 (.tmp 24) (.con (.int .i64 0))⟩,
       ⟨(some 26), (some (23, true)), .faddr (.tmp 25) 2⟩,
       ⟨(some 27), (some (23, true)), .load false 1 (.tmp 26)⟩,
       ⟨(some 28), (some (23, true)), .len (.tmp 27)⟩,
       ⟨(some 29), (some (23, true)), .mov (.tmp 2)⟩,
       ⟨(some 30), (some (23, true)), .len (.tmp 29)⟩,
       ⟨(some 31), (some (23, true)), .bin .neq (.tmp 28) (.tmp 30)⟩,
       ⟨(some 32), none, .pick (.tmp 23) (.tmp 31) (.con (.bool false))⟩,
       ⟨(some 19), none, .mov (.tmp 32)⟩])
     (.cond (.tmp 19)
      (.seq (.reg [⟨(some 6), none, .mov (.con .nilS)⟩,
        ⟨(some 7), none, .mov (.con (.int .i64 151))⟩])
      .ret)
      (.seq (.reg [⟨(some 34), none, .mov (.tmp 0)⟩,
        ⟨(some 35), none, .len (.tmp 34)⟩,
        ⟨(some 36), none, .bin .eql (.tmp 35) (.con (.int .i64 96))⟩,
        ⟨(some 33), none, .mov (.tmp 36)⟩])
      (.cond (.tmp 33)
       (.seq (.reg [⟨(some 6), none, .mov (.con .nilS)⟩,
         ⟨(some 7), none, .mov (.con (.int .i64 6))⟩])
       .ret)
       .skip)))))))))
  (.seq (.reg [⟨(some 37), none, .mov (.tmp 0)⟩,
    ⟨(some 38), none, .call 14 [(.tmp 37)]⟩,
    ⟨(some 8), none, .mov (.tmp 38)⟩])
  (.seq (.seq (.reg [⟨(some 39), none, .mov (.tmp 8)⟩,
    ⟨(some 40), none, .call 55 [(.tmp 39)]⟩,
    ⟨(some 9), none, .mov (.tmp 40)⟩])
  (.seq (.reg [⟨(some 41), none, .mov (.tmp 9)⟩,
    ⟨(some 42), none, .bin .geq (.tmp 41) (.con (.int .i64 0))⟩])
  (.cond (.tmp 42)
   (.reg [⟨(some 43), none, .mov (.tmp 8)⟩,
     ⟨(some 44), none, .mov (.tmp 9)⟩,
     ⟨(some 45), none, .mov (.tmp 1)⟩,
     ⟨(some 46), none, .iaddr 3 (.tmp 43) (.tmp 44)⟩,
     ⟨(some 47), none, .faddr (.tmp 46) 1⟩,
     ⟨none, none, .store 1 (.tmp 47) (.tmp 45)⟩])
   .skip)))
  (.seq (.reg [⟨(some 48), none, .mov (.tmp 8)⟩,
    ⟨(some 49), none, .mov (.tmp 1)⟩,
    ⟨(some 50), none, .lit 1 []⟩,
    ⟨(some 51), none, .mov (.tmp 2)⟩,
    ⟨(some 52), none, .append 1 4 (.tmp 50) (.tmp 51)⟩,
    ⟨(some 53), none, .build [(.int .u64 0), (.int .u64 0), .nilS] [(0, 1, (.tmp 49)), (2, 1, (.tmp 52))]⟩,
    ⟨(some 54), none, .lit 3 [(.tmp 53)]⟩,
    ⟨(some 55), none, .append 3 40 (.tmp 48) (.tmp 54)⟩,
    ⟨(some 6), none, .mov (.tmp 55)⟩,
    ⟨(some 7), none, .mov (.con (.int .i64 0))⟩])
  .ret)))))
def g36 : Fn := ⟨3, 56, [.tmp 6, .tmp 7], b36⟩
/- quiver/quiverref05.Same -/
def b37 : AC :=
  (.seq (.reg [⟨(some 4), none, .mov (.con (.bool false))⟩])
  (.seq (.seq (.reg [⟨(some 6), none, .mov (.tmp 0)⟩,
    ⟨(some 7), none, .len (.tmp 6)⟩,
    ⟨(some 8), none, .mov (.tmp 1)⟩,
    ⟨(some 9), none, .len (.tmp 8)⟩,
    ⟨(some 10), none, .bin .neq (.tmp 7) (.tmp 9)⟩])
  (.cond (.tmp 10)
   (.seq (.reg [⟨(some 4), none, .mov (.con (.bool false))⟩])
   .ret)
   .skip))
  (.seq (.seq (.reg [⟨(some 5), none, .mov (.con (.int .i64 0))⟩])
  (.block 0 (.loop (.seq (.seq (.reg [⟨(some 11), none, .mov (.tmp 5)⟩,
      ⟨(some 12), none, .mov (.tmp 0)⟩,
      ⟨(some 13), none, .len (.tmp 12)⟩,
      ⟨(some 14), none, .bin .lss (.tmp 11) (.tmp 13)⟩])
    (.cond (.tmp 14)
     .skip
     (.exit 0)))
    (.seq (.block 1 (.seq (.regd [⟨[⟨⟨(some 17), none, .mov (.tmp 0)⟩, true, false, false, 0, []⟩,
       ⟨⟨(some 18), none, .mov (.tmp 5)⟩, true, false, false, 0, []⟩,
       ⟨⟨(some 19), none, .iaddr 1 (.tmp 17) (.tmp 18)⟩, true, false, false, 0, []⟩,
       ⟨⟨(some 20), none, .load false 1 (.tmp 19)⟩, false, false, false, 0, []⟩,
       ⟨⟨(some 21), none, .mov (.tmp 1)⟩, true, false, false, 0, []⟩,
       ⟨⟨(some 22), none, .mov (.tmp 5)⟩, true, false, false, 0, []⟩,
       ⟨⟨(some 23), none, .iaddr 1 (.tmp 21) (.tmp 22)⟩, true, false, false, 0, []⟩,
       ⟨⟨(some 24), none, .load false 1 (.tmp 23)⟩, false, false, false, 0, []⟩], 0, [⟨(some 25), none, .bin .neq (.tmp 20) (.tmp 24)⟩]⟩])
     (.cond (.tmp 25)
      (.seq (.reg [⟨(some 4), none, .mov (.con (.bool false))⟩])
      .ret)
      .skip)))
    (.reg [⟨(some 15), none, .mov (.tmp 5)⟩,
      ⟨(some 16), none, .bin .add (.tmp 15) (.con (.int .i64 1))⟩,
      ⟨(some 5), none, .mov (.tmp 16)⟩]))))))
  (.seq (.reg [⟨(some 4), none, .mov (.con (.bool true))⟩])
  .ret))))
def g37 : Fn := ⟨2, 26, [.tmp 4], b37⟩
/- slices.Equal[[]int32,int32] -/
def b38 : AC :=
  (.seq (.reg [⟨(some 4), none, .mov (.con (.bool false))⟩])
  (.seq (.seq (.reg [⟨(some 6), none, .mov (.tmp 0)⟩,
    ⟨(some 7), none, .len (.tmp 6)⟩,
    ⟨(some 8), none, .mov (.tmp 1)⟩,
    ⟨(some 9), none, .len (.tmp 8)⟩,
    ⟨(some 10), none, .bin .neq (.tmp 7) (.tmp 9)⟩])
  (.cond (.tmp 10)
   (.seq (.reg [⟨(some 4), none, .mov (.con (.bool false))⟩])
   .ret)
   .skip))
  (.seq (.seq (.reg [⟨(some 11), none, .mov (.tmp 0)⟩,
    ⟨(some 12), none, .len (.tmp 11)⟩,
    ⟨(some 13), none, .mov (.con (.int .i64 0))⟩])
  (.block 0 (.loop (.seq (.reg [⟨(some 14), none, .bin .lss (.tmp 13) (.tmp 12)⟩])
    (.seq (.cond (.tmp 14)
     .skip
     (.exit 0))
    (.seq (.block 1 (.seq (.reg [⟨(some 15), none, .mov (.tmp 13)⟩,
       ⟨(some 5), none, .mov (.tmp 15)⟩])
     (.seq (.regd [⟨[⟨⟨(some 16), none, .mov (.tmp 0)⟩, true, false, false, 0, []⟩,
       ⟨⟨(some 17), none, .mov (.tmp 5)⟩, true, false, false, 0, []⟩,
       ⟨⟨(some 18), none, .iaddr 1 (.tmp 16) (.tmp 17)⟩, true, false, false, 0, []⟩,
       ⟨⟨(some 19), none, .load false 1 (.tmp 18)⟩, false, false, false, 0, []⟩,
       ⟨⟨(some 20), none, .mov (.tmp 1)⟩, true, false, false, 0, []⟩,
       ⟨⟨(some 21), none, .mov (.tmp 5)⟩, true, false, false, 0, []⟩,
       ⟨⟨(some 22), none, .iaddr 1 (.tmp 20) (.tmp 21)⟩, true, false, false, 0, []⟩,
       ⟨⟨(some 23), none, .load false 1 (.tmp 22)⟩, false, false, false, 0, []⟩], 0, [⟨(some 24), none, .bin .neq (.tmp 19) (.tmp 23)⟩]⟩])
     (.cond (.tmp 24)
      (.seq (.reg [⟨(some 4), none, .mov (.con (.bool false))⟩])
      .ret)
      .skip))))
    (.reg [⟨(some 25), none, .bin .add (.tmp 13) (.con (.int .i64 1))⟩,
      ⟨(some 13), none, .mov (.tmp 25)⟩])))))))
  (.seq (.reg [⟨(some 4), none, .mov (.con (.bool true))⟩])
  .ret))))
def g38 : Fn := ⟨2, 26, [.tmp 4], b38⟩
/- quiver/chain.last -/
def b39 : AC :=
  (.seq (.reg [⟨(some 2), none, .mov (.con (.int .u64 0))⟩])
  (.seq (.seq (.reg [⟨(some 4), none, .mov (.tmp 0)⟩,
    ⟨(some 5), none, .len (.tmp 4)⟩,
    ⟨(some 6), none, .bin .eql (.tmp 5) (.con (.int .i64 0))⟩])
  (.cond (.tmp 6)
   (.seq (.reg [⟨(some 2), none, .mov (.con (.int .u64 0))⟩])
   .ret)
   .skip))
  (.seq (.reg [⟨(some 7), none, .mov (.tmp 0)⟩,
    ⟨(some 8), none, .mov (.tmp 0)⟩,
    ⟨(some 9), none, .len (.tmp 8)⟩,
    ⟨(some 10), none, .bin .sub (.tmp 9) (.con (.int .i64 1))⟩,
    ⟨(some 11), none, .iaddr 3 (.tmp 7) (.tmp 10)⟩,
    ⟨(some 12), none, .load true 3 (.tmp 11)⟩,
    ⟨(some 3), none, .alloc (.agg [(.int .u64 0), (.int .u64 0), .nilS])⟩,
    ⟨none, none, .store 3 (.tmp 3) (.tmp 12)⟩])
  (.seq (.reg [⟨(some 13), none, .faddr (.tmp 3) 0⟩,
    ⟨(some 14), none, .load false 1 (.tmp 13)⟩,
    ⟨(some 15), none, .faddr (.tmp 3) 1⟩,
    ⟨(some 16), none, .load false 1 (.tmp 15)⟩,
    ⟨(some 17), none, .max [(.tmp 14), (.tmp 16)]⟩,
    ⟨(some 2), none, .mov (.tmp 17)⟩])
  .ret))))
def g39 : Fn := ⟨1, 18, [.tmp 2], b39⟩
/- quiver/quiverref05.Right -/
def b40 : AC :=
  (.seq (.reg [⟨(some 2), none, .mov (.con (.bool false))⟩])
  (.seq (.seq (.reg [⟨(some 3), none, .mov (.con (.int .i64 0))⟩])
  (.block 0 (.loop (.seq (.seq (.reg [⟨(some 4), none, .mov (.tmp 3)⟩,
      ⟨(some 5), none, .mov (.tmp 0)⟩,
      ⟨(some 6), none, .len (.tmp 5)⟩,
      ⟨(some 7), none, .bin .lss (.tmp 4) (.tmp 6)⟩])
    (.cond (.tmp 7)
     .skip
     (.exit 0)))
    (.seq (.block 1 (.seq (.reg [⟨(some 10), none, .mov (.tmp 0)⟩,
       ⟨(some 11), none, .mov (.tmp 3)⟩,
       ⟨(some 12), none, .iaddr 1 (.tmp 10) (.tmp 11)⟩,
       ⟨(some 13), none, .load false 1 (.tmp 12)⟩,
       ⟨(some 14), none, .bin .lss (.tmp 13) (.con (.int .i32 (-1073741823)))⟩,
       ⟨(some 15), none, .mov (.tmp 14)⟩,
       ⟨(some 16), (some (15, false)), .mov (.tmp 0)⟩,
       ⟨(some 17), (some (15, false)), .mov (.tmp 3)⟩,
       ⟨(some 18), (some (15, false)), .iaddr 1 (.tmp 16) (.tmp 17)⟩,
       ⟨(some 19), (some (15, false)), .load false 1 (.tmp 18)⟩,
       ⟨(some 20), (some (15, false)), .bin .gtr (.tmp 19) (.con (.int .i32 1073741823))⟩,
       ⟨(some 21), none, .pick (.tmp 15) (.con (.bool true)) (.tmp 20)⟩])
     (.cond (.tmp 21)
      (.seq (.reg [⟨(some 2), none, .mov (.con (.bool false))⟩])
      .ret)
      .skip)))
    (.reg [⟨(some 8), none, .mov (.tmp 3)⟩,
      ⟨(some 9), none, .bin .add (.tmp 8) (.con (.int .i64 1))⟩,
      ⟨(some 3), none, .mov (.tmp 9)⟩]))))))
  (.seq (.reg [⟨(some 22), none, .mov (.tmp 0)⟩,
    ⟨(some 23), none, .len (.tmp 22)⟩,
    ⟨(some 24), none, .bin .geq (.tmp 23) (.con (.int .i64 1))⟩,
    ⟨(some 25), none, .mov (.tmp 24)⟩,
    ⟨(some 26), (some (25, true)), .mov (.tmp 0)⟩,
    ⟨(some 27), (some (25, true)), .len (.tmp 26)⟩,
    ⟨(some 28), (some (25, true)), .bin .leq (.tmp 27) (.con (.int .i64 4))⟩,
    ⟨(some 29), none, .pick (.tmp 25) (.tmp 28) (.con (.bool false))⟩,
    ⟨(some 2), none, .mov (.tmp 29)⟩])
  .ret)))
def g40 : Fn := ⟨1, 30, [.tmp 2], b40⟩
/- slices.EqualFunc[[]quiver/api.Version,[]quiver/api.Version,quiver/api.Version,quiver/api.Version] -/
def b41 : AC :=
  (.seq (.reg [⟨(some 6), none, .mov (.con (.bool false))⟩])
  (.seq (.seq (.reg [⟨(some 10), none, .mov (.tmp 0)⟩,
    ⟨(some 11), none, .len (.tmp 10)⟩,
    ⟨(some 12), none, .mov (.tmp 1)⟩,
    ⟨(some 13), none, .len (.tmp 12)⟩,
    ⟨(some 14), none, .bin .neq (.tmp 11) (.tmp 13)⟩])
  (.cond (.tmp 14)
   (.seq (.reg [⟨(some 6), none, .mov (.con (.bool false))⟩])
   .ret)
   .skip))
  (.seq (.seq (.reg [⟨(some 15), none, .mov (.tmp 0)⟩,
    ⟨(some 16), none, .len (.tmp 15)⟩,
    ⟨(some 17), none, .mov (.con (.int .i64 0))⟩])
  (.block 0 (.loop (.seq (.reg [⟨(some 18), none, .bin .lss (.tmp 17) (.tmp 16)⟩])
    (.seq (.cond (.tmp 18)
     .skip
     (.exit 0))
    (.seq (.block 1 (.seq (.reg [⟨(some 19), none, .mov (.tmp 17)⟩,
       ⟨(some 20), none, .iaddr 3 (.tmp 15) (.tmp 17)⟩,
       ⟨(some 21), none, .load true 3 (.tmp 20)⟩,
       ⟨(some 8), none, .alloc (.agg [(.int .u64 0), (.int .u64 0), .nilS])⟩,
       ⟨(some 7), none, .mov (.tmp 19)⟩,
       ⟨none, none, .store 3 (.tmp 8) (.tmp 21)⟩])
     (.seq (.reg [⟨(some 22), none, .mov (.tmp 1)⟩,
       ⟨(some 23), none, .mov (.tmp 7)⟩,
       ⟨(some 24), none, .iaddr 3 (.tmp 22) (.tmp 23)⟩,
       ⟨(some 25), none, .load true 3 (.tmp 24)⟩,
       ⟨(some 9), none, .alloc (.agg [(.int .u64 0), (.int .u64 0), .nilS])⟩,
       ⟨none, none, .store 3 (.tmp 9) (.tmp 25)⟩])
     (.seq (.reg [⟨(some 26), none, .mov (.tmp 2)⟩,
       ⟨(some 27), none, .load true 3 (.tmp 8)⟩,
       ⟨(some 28), none, .load true 3 (.tmp 9)⟩,
       ⟨(some 29), none, .callv (.tmp 26) [(.tmp 27), (.tmp 28)]⟩,
       ⟨(some 30), none, .un .not (.tmp 29)⟩])
     (.cond (.tmp 30)
      (.seq (.reg [⟨(some 6), none, .mov (.con (.bool false))⟩])
      .ret)
      .skip)))))
    (.reg [⟨(some 31), none, .bin .add (.tmp 17) (.con (.int .i64 1))⟩,
      ⟨(some 17), none, .mov (.tmp 31)⟩])))))))
  (.seq (.reg [⟨(some 6), none, .mov (.con (.bool true))⟩])
  .ret))))
def g41 : Fn := ⟨3, 32, [.tmp 6], b41⟩
/- quiver/chain.Same$1 -/
def b42 : AC :=
  (.seq (.reg [⟨(some 2), none, .box (.tmp 0)⟩,
    ⟨(some 3), none, .box (.tmp 1)⟩,
    ⟨(some 4), none, .mov (.con (.bool false))⟩])
  (.seq (.reg [⟨(some 5), none, .faddr (.tmp 2) 0⟩,
    ⟨(some 6), none, .load false 1 (.tmp 5)⟩,
    ⟨(some 7), none, .faddr (.tmp 3) 0⟩,
    ⟨(some 8), none, .load false 1 (.tmp 7)⟩,
    ⟨(some 9), none, .bin .eql (.tmp 6) (.tmp 8)⟩,
    ⟨(some 10), none, .mov (.tmp 9)⟩,
    ⟨(some 11), (some (10, true)), .faddr (.tmp 2) 1⟩,
    ⟨(some 12), (some (10, true)), .load false 1 (.tmp 11)⟩,
    ⟨(some 13), (some (10, true)), .faddr (.tmp 3) 1⟩,
    ⟨(some 14), (some (10, true)), .load false 1 (.tmp 13)⟩,
    ⟨(some 15), (some (10, true)), .bin .eql (.tmp 12) (.tmp 14)⟩,
    ⟨(some 16), none, .pick (.tmp 10) (.tmp 15) (.con (.bool false))⟩,
    ⟨(some 17), none, .mov (.tmp 16)⟩,
    ⟨(some 18), (some (17, true)), .faddr (.tmp 2) 2⟩,
    ⟨(some 19), (some (17, true)), .load false 1 (.tmp 18)⟩,
    ⟨(some 20), (some (17, true)), .faddr (.tmp 3) 2⟩,
    ⟨(some 21), (some (17, true)), .load false 1 (.tmp 20)⟩,
    ⟨(some 22), (some (17, true)), .call 19 [(.tmp 19), (.tmp 21)]⟩,
    ⟨(some 23), none, .pick (.tmp 17) (.tmp 22) (.con (.bool false))⟩,
    ⟨(some 4), none, .mov (.tmp 23)⟩])
  .ret))
def g42 : Fn := ⟨2, 24, [.tmp 4], b42⟩
/- quiver/quiverref08.Visible -/
def b43 : AC :=
  (.seq (.reg [⟨(some 2), none, .box (.tmp 0)⟩,
    ⟨(some 4), none, .mov (.con (.bool false))⟩])
  (.seq (.reg [⟨(some 5), none, .faddr (.tmp 2) 0⟩,
    ⟨(some 6), none, .load false 1 (.tmp 5)⟩,
    ⟨(some 7), none, .mov (.tmp 1)⟩,
    ⟨(some 8), none, .bin .leq (.tmp 6) (.tmp 7)⟩,
    ⟨(some 9), none, .mov (.tmp 8)⟩,
    ⟨(some 10), (some (9, true)), .faddr (.tmp 2) 1⟩,
    ⟨(some 11), (some (9, true)), .load false 1 (.tmp 10)⟩,
    ⟨(some 12), (some (9, true)), .bin .eql (.tmp 11) (.con (.int .u64 0))⟩,
    ⟨(some 13), (some (9, true)), .mov (.tmp 12)⟩,
    ⟨(some 14), (some (13, false)), .mov (.tmp 1)⟩,
    ⟨(some 15), (some (13, false)), .faddr (.tmp 2) 1⟩,
    ⟨(some 16), (some (13, false)), .load false 1 (.tmp 15)⟩,
    ⟨(some 17), (some (13, false)), .bin .lss (.tmp 14) (.tmp 16)⟩,
    ⟨(some 18), (some (9, true)), .pick (.tmp 13) (.con (.bool true)) (.tmp 17)⟩,
    ⟨(some 19), none, .pick (.tmp 9) (.tmp 18) (.con (.bool false))⟩,
    ⟨(some 4), none, .mov (.tmp 19)⟩])
  .ret))
def g43 : Fn := ⟨2, 20, [.tmp 4], b43⟩
/- quiver/chain.Prune$1 -/
def b44 : AC :=
  (.seq (.reg [⟨(some 2), none, .box (.tmp 0)⟩,
    ⟨(some 3), none, .mov (.con (.bool false))⟩])
  (.seq (.reg [⟨(some 4), none, .faddr (.tmp 2) 1⟩,
    ⟨(some 5), none, .load false 1 (.tmp 4)⟩,
    ⟨(some 6), none, .bin .neq (.tmp 5) (.con (.int .u64 0))⟩,
    ⟨(some 7), none, .mov (.tmp 6)⟩,
    ⟨(some 8), (some (7, true)), .faddr (.tmp 2) 1⟩,
    ⟨(some 9), (some (7, true)), .load false 1 (.tmp 8)⟩,
    ⟨(some 10), (some (7, true)), .load false 1 (.tmp 1)⟩,
    ⟨(some 11), (some (7, true)), .bin .leq (.tmp 9) (.tmp 10)⟩,
    ⟨(some 12), none, .pick (.tmp 7) (.tmp 11) (.con (.bool false))⟩,
    ⟨(some 3), none, .mov (.tmp 12)⟩])
  .ret))
def g44 : Fn := ⟨2, 13, [.tmp 3], b44⟩
/- quiver/chain.that -/
def b45 : AC :=
  (.seq (.reg [⟨(some 2), none, .box (.tmp 0)⟩,
    ⟨(some 3), none, .box (.tmp 1)⟩,
    ⟨(some 4), none, .mov (.con .nilF)⟩])
  (.seq (.reg [⟨(some 5), none, .mkfn 56 [(.tmp 2), (.tmp 3)]⟩,
    ⟨(some 4), none, .mov (.tmp 5)⟩])
  .ret))
def g45 : Fn := ⟨2, 6, [.tmp 4], b45⟩
/- quiver/chain.copied -/
def b46 : AC :=
  (.seq (.reg [⟨(some 2), none, .mov (.con .nilS)⟩])
  (.seq (.reg [⟨(some 5), none, .mov (.tmp 0)⟩,
    ⟨(some 6), none, .call 57 [(.tmp 5)]⟩,
    ⟨(some 3), none, .mov (.tmp 6)⟩])
  (.seq (.seq (.reg [⟨(some 7), none, .mov (.tmp 3)⟩,
    ⟨(some 8), none, .len (.tmp 7)⟩,
    ⟨(some 9), none, .mov (.con (.int .i64 0))⟩])
  (.block 0 (.loop (.seq (.reg [⟨(some 10), none, .bin .lss (.tmp 9) (.tmp 8)⟩])
    (.seq (.cond (.tmp 10)
     .skip
     (.exit 0))
    (.seq (.block 1 (.seq (.reg [⟨(some 11), none, .mov (.tmp 9)⟩,
       ⟨(some 4), none, .mov (.tmp 11)⟩])
     (.reg [⟨(some 12), none, .mov (.tmp 3)⟩,
       ⟨(some 13), none, .mov (.tmp 4)⟩,
       ⟨(some 14), none, .mov (.tmp 3)⟩,
       ⟨(some 15), none, .mov (.tmp 4)⟩,
       ⟨(some 16), none, .iaddr 3 (.tmp 14) (.tmp 15)⟩,
       ⟨(some 17), none, .faddr (.tmp 16) 2⟩,
       ⟨(some 18), none, .load false 1 (.tmp 17)⟩,
       ⟨(some 19), none, .call 51 [(.tmp 18)]⟩,
       ⟨(some 20), none, .iaddr 3 (.tmp 12) (.tmp 13)⟩,
       ⟨(some 21), none, .faddr (.tmp 20) 2⟩,
       ⟨none, none, .store 1 (.tmp 21) (.tmp 19)⟩])))
    (.reg [⟨(some 22), none, .bin .add (.tmp 9) (.con (.int .i64 1))⟩,
      ⟨(some 9), none, .mov (.tmp 22)⟩])))))))
  (.seq (.reg [⟨(some 23), none, .mov (.tmp 3)⟩,
    ⟨(some 2), none, .mov (.tmp 23)⟩])
  .ret))))
def g46 : Fn := ⟨1, 24, [.tmp 2], b46⟩
/- quiver/chain.Prune$2 -/
def b47 : AC :=
  (.seq (.reg [⟨(some 2), none, .box (.tmp 0)⟩,
    ⟨(some 3), none, .mov (.con (.bool false))⟩])
  (.seq (.reg [⟨(some 4), none, .load false 1 (.tmp 1)⟩,
    ⟨(some 5), none, .load true 3 (.tmp 2)⟩,
    ⟨(some 6), none, .callv (.tmp 4) [(.tmp 5)]⟩,
    ⟨(some 7), none, .un .not (.tmp 6)⟩,
    ⟨(some 3), none, .mov (.tmp 7)⟩])
  .ret))
def g47 : Fn := ⟨2, 8, [.tmp 3], b47⟩
/- quiver/chain.with -/
def b48 : AC :=
  (.seq (.reg [⟨(some 6), none, .mov (.con .nilS)⟩,
    ⟨(some 7), none, .mov (.con (.int .i64 0))⟩])
  (.seq (.seq (.reg [⟨(some 11), none, .mov (.tmp 0)⟩,
    ⟨(some 12), none, .call 11 [(.tmp 11)]⟩,
    ⟨(some 8), none, .mov (.tmp 12)⟩])
  (.seq (.reg [⟨(some 13), none, .mov (.tmp 8)⟩,
    ⟨(some 14), none, .bin .neq (.tmp 13) (.con (.int .i64 0))⟩])
  (.cond (.tmp 14)
   (.seq (.reg [⟨(some 15), none, .mov (.tmp 8)⟩,
     ⟨(some 6), none, .mov (.con .nilS)⟩,
     ⟨(some 7), none, .mov (.tmp 15)⟩])
   .ret)
   .skip)))
  (.seq (.seq (.reg [⟨(some 16), none, .mov (.tmp 1)⟩,
    ⟨(some 17), none, .mov (.tmp 0)⟩,
    ⟨(some 18), none, .call 39 [(.tmp 17)]⟩,
    ⟨(some 19), none, .bin .leq (.tmp 16) (.tmp 18)⟩,
    ⟨(some 20), none, .mov (.tmp 19)⟩,
    ⟨(some 21), (some (20, false)), .mov (.tmp 1)⟩,
    ⟨(some 22), (some (20, false)), .bin .gtr (.tmp 21) (.con (.int .u64 1099511627776))⟩,
    ⟨(some 23), none, .pick (.tmp 20) (.con (.bool true)) (.tmp 22)⟩])
  (.cond (.tmp 23)
   (.seq (.reg [⟨(some 6), none, .mov (.con .nilS)⟩,
     ⟨(some 7), none, .mov (.con (.int .i64 181))⟩])
   .ret)
   .skip))
  (.seq (.reg [⟨(some 24), none, .mov (.tmp 0)⟩,
    ⟨(some 25), none, .call 46 [(.tmp 24)]⟩,
    ⟨(some 9), none, .alloc .nilS⟩,
    ⟨none, none, .store 1 (.tmp 9) (.tmp 25)⟩])
  (.seq (.seq (.reg [⟨(some 26), none, .mov (.tmp 2)⟩,
    ⟨(some 27), none, .callv (.tmp 26) [(.tmp 9)]⟩,
    ⟨(some 10), none, .mov (.tmp 27)⟩])
  (.seq (.reg [⟨(some 28), none, .mov (.tmp 10)⟩,
    ⟨(some 29), none, .bin .neq (.tmp 28) (.con (.int .i64 0))⟩])
  (.cond (.tmp 29)
   (.seq (.reg [⟨(some 30), none, .mov (.tmp 10)⟩,
     ⟨(some 6), none, .mov (.con .nilS)⟩,
     ⟨(some 7), none, .mov (.tmp 30)⟩])
   .ret)
   .skip)))
  (.seq (.reg [⟨(some 31), none, .load false 1 (.tmp 9)⟩,
    ⟨(some 6), none, .mov (.tmp 31)⟩,
    ⟨(some 7), none, .mov (.con (.int .i64 0))⟩])
  .ret))))))
def g48 : Fn := ⟨3, 32, [.tmp 6, .tmp 7], b48⟩
/- quiver/chain.Put$1 -/
def b49 : AC :=
  (.seq (.reg [⟨(some 4), none, .mov (.con (.int .i64 0))⟩])
  (.seq (.reg [⟨(some 7), none, .load false 1 (.tmp 1)⟩,
    ⟨(some 8), none, .len (.tmp 7)⟩,
    ⟨(some 5), none, .mov (.tmp 8)⟩])
  (.seq (.seq (.reg [⟨(some 9), none, .mov (.tmp 0)⟩,
    ⟨(some 10), none, .nilck (.tmp 9)⟩,
    ⟨(some 11), none, .load false 1 (.tmp 10)⟩,
    ⟨(some 12), none, .len (.tmp 11)⟩,
    ⟨(some 13), none, .bin .gtr (.tmp 12) (.con (.int .i64 0))⟩])
  (.cond (.tmp 13)
   (.reg [⟨(some 14), none, .mov (.tmp 0)⟩,
     ⟨(some 15), none, .nilck (.tmp 14)⟩,
     ⟨(some 16), none, .load false 1 (.tmp 15)⟩,
     ⟨(some 17), none, .iaddr 3 (.tmp 16) (.con (.int .i64 0))⟩,
     ⟨(some 18), none, .faddr (.tmp 17) 2⟩,
     ⟨(some 19), none, .load false 1 (.tmp 18)⟩,
     ⟨(some 20), none, .len (.tmp 19)⟩,
     ⟨(some 5), none, .mov (.tmp 20)⟩])
   .skip))
  (.seq (.seq (.reg [⟨(some 21), none, .load false 1 (.tmp 1)⟩,
    ⟨(some 22), none, .mov (.tmp 5)⟩,
    ⟨(some 23), none, .call 29 [(.tmp 21), (.tmp 22)]⟩,
    ⟨(some 6), none, .mov (.tmp 23)⟩])
  (.seq (.reg [⟨(some 24), none, .mov (.tmp 6)⟩,
    ⟨(some 25), none, .bin .neq (.tmp 24) (.con (.int .i64 0))⟩])
  (.cond (.tmp 25)
   (.seq (.reg [⟨(some 26), none, .mov (.tmp 6)⟩,
     ⟨(some 4), none, .mov (.tmp 26)⟩])
   .ret)
   .skip)))
  (.seq (.seq (.reg [⟨(some 27), none, .mov (.tmp 0)⟩,
    ⟨(some 28), none, .nilck (.tmp 27)⟩,
    ⟨(some 29), none, .load false 1 (.tmp 28)⟩,
    ⟨(some 30), none, .len (.tmp 29)⟩,
    ⟨(some 31), none, .bin .eql (.tmp 30) (.con (.int .i64 96))⟩])
  (.cond (.tmp 31)
   (.seq (.reg [⟨(some 4), none, .mov (.con (.int .i64 6))⟩])
   .ret)
   .skip))
  (.seq (.regd [⟨[⟨⟨(some 32), none, .mov (.tmp 0)⟩, true, false, false, 0, []⟩,
    ⟨⟨(some 33), none, .nilck (.tmp 32)⟩, true, false, false, 0, []⟩,
    ⟨⟨(some 34), none, .load false 1 (.tmp 33)⟩, false, false, false, 0, []⟩,
    ⟨⟨(some 35), none, .load false 1 (.tmp 2)⟩, false, false, false, 0, []⟩], 0, [⟨(some 36), none, .call 50 [(.tmp 34), (.tmp 35)]⟩]⟩])
  (.seq (.regd [⟨[⟨⟨(some 37), none, .mov (.tmp 0)⟩, true, false, false, 0, []⟩,
    ⟨⟨(some 38), none, .mov (.tmp 0)⟩, true, false, false, 0, []⟩,
    ⟨⟨(some 39), none, .nilck (.tmp 38)⟩, true, false, false, 0, []⟩,
    ⟨⟨(some 40), none, .load false 1 (.tmp 39)⟩, false, false, false, 0, [0, 1]⟩,
    ⟨⟨(some 41), none, .load false 1 (.tmp 2)⟩, false, false, false, 0, [0]⟩,
    ⟨⟨(some 42), none, .load false 1 (.tmp 1)⟩, false, false, false, 0, []⟩,
    ⟨⟨(some 43), none, .call 51 [(.tmp 42)]⟩, false, false, true, 0, []⟩,
    ⟨⟨(some 44), none, .build [(.int .u64 0), (.int .u64 0), .nilS] [(0, 1, (.tmp 41)), (2, 1, (.tmp 43))]⟩, true, false, false, 1, []⟩,
    ⟨⟨(some 45), none, .lit 3 [(.tmp 44)]⟩, false, false, true, 1, []⟩,
    ⟨⟨(some 46), none, .append 3 40 (.tmp 40) (.tmp 45)⟩, false, true, true, 2, []⟩], 3, [⟨(some 47), none, .nilck (.tmp 37)⟩,
    ⟨none, none, .store 1 (.tmp 47) (.tmp 46)⟩]⟩])
  (.seq (.reg [⟨(some 4), none, .mov (.con (.int .i64 0))⟩])
  .ret))))))))
def g49 : Fn := ⟨3, 48, [.tmp 4], b49⟩
/- quiver/chain.ends -/
def b50 : AC :=
  (.seq (.reg [⟨(some 4), none, .mov (.con (.bool false))⟩])
  (.seq (.reg [⟨(some 6), none, .mov (.tmp 0)⟩,
    ⟨(some 7), none, .len (.tmp 6)⟩,
    ⟨(some 5), none, .mov (.tmp 7)⟩])
  (.seq (.seq (.reg [⟨(some 8), none, .mov (.tmp 5)⟩,
    ⟨(some 9), none, .bin .eql (.tmp 8) (.con (.int .i64 0))⟩,
    ⟨(some 10), none, .mov (.tmp 9)⟩,
    ⟨(some 11), (some (10, false)), .mov (.tmp 0)⟩,
    ⟨(some 12), (some (10, false)), .mov (.tmp 5)⟩,
    ⟨(some 13), (some (10, false)), .bin .sub (.tmp 12) (.con (.int .i64 1))⟩,
    ⟨(some 14), (some (10, false)), .iaddr 3 (.tmp 11) (.tmp 13)⟩,
    ⟨(some 15), (some (10, false)), .faddr (.tmp 14) 1⟩,
    ⟨(some 16), (some (10, false)), .load false 1 (.tmp 15)⟩,
    ⟨(some 17), (some (10, false)), .bin .neq (.tmp 16) (.con (.int .u64 0))⟩,
    ⟨(some 18), none, .pick (.tmp 10) (.con (.bool true)) (.tmp 17)⟩])
  (.cond (.tmp 18)
   (.seq (.reg [⟨(some 4), none, .mov (.con (.bool false))⟩])
   .ret)
   .skip))
  (.seq (.reg [⟨(some 19), none, .mov (.tmp 0)⟩,
    ⟨(some 20), none, .mov (.tmp 5)⟩,
    ⟨(some 21), none, .bin .sub (.tmp 20) (.con (.int .i64 1))⟩,
    ⟨(some 22), none, .mov (.tmp 1)⟩,
    ⟨(some 23), none, .iaddr 3 (.tmp 19) (.tmp 21)⟩,
    ⟨(some 24), none, .faddr (.tmp 23) 1⟩,
    ⟨none, none, .store 1 (.tmp 24) (.tmp 22)⟩])
  (.seq (.reg [⟨(some 4), none, .mov (.con (.bool true))⟩])
  .ret)))))
def g50 : Fn := ⟨2, 25, [.tmp 4], b50⟩
/- slices.Clone[[]int32,int32] -/
def b51 : AC :=
  (.seq (.reg [⟨(some 2), none, .mov (.con .nilS)⟩])
  (.seq (.seq (.reg [⟨(some 3), none, .mov (.tmp 0)⟩,
    ⟨(some 4), none, .eqN false (.tmp 3)⟩])
  (.cond (.tmp 4)
   (.seq (.reg [⟨(some 2), none, .mov (.con .nilS)⟩])
   .ret)
   .skip))
  (.seq (.reg [⟨(some 5), none, .lit 1 []⟩,
    ⟨(some 6), none, .mov (.tmp 0)⟩,
    ⟨(some 7), none, .append 1 4 (.tmp 5) (.tmp 6)⟩,
    ⟨(some 2), none, .mov (.tmp 7)⟩])
  .ret)))
def g51 : Fn := ⟨1, 8, [.tmp 2], b51⟩
/- quiver/vec.Check -/
def b52 : AC :=
  (.seq (.reg [⟨(some 2), none, .mov (.con (.int .i64 0))⟩])
  (.seq (.reg [⟨(some 3), none, .mov (.con (.fn 58 []))⟩])
  (.seq (.seq (.reg [⟨(some 4), none, .mov (.tmp 0)⟩,
    ⟨(some 5), none, .len (.tmp 4)⟩,
    ⟨(some 6), none, .bin .lss (.tmp 5) (.con (.int .i64 1))⟩,
    ⟨(some 7), none, .mov (.tmp 6)⟩,
    ⟨(some 8), (some (7, false)), .mov (.tmp 0)⟩,
    ⟨(some 9), (some (7, false)), .len (.tmp 8)⟩,
    ⟨(some 10), (some (7, false)), .bin .gtr (.tmp 9) (.con (.int .i64 4))⟩,
    ⟨(some 11), none, .pick (.tmp 7) (.con (.bool true)) (.tmp 10)⟩,
    ⟨(some 12), none, .mov (.tmp 11)⟩,
    ⟨(some 13), (some (12, false)), .mov (.tmp 0)⟩,
    ⟨(some 14), (some (12, false)), .mov (.tmp 3)⟩,
    ⟨(some 15), (some (12, false)), .call 59 [(.tmp 13), (.tmp 14)]⟩,
    ⟨(some 16), none, .pick (.tmp 12) (.con (.bool true)) (.tmp 15)⟩])
  (.cond (.tmp 16)
   (.seq (.reg [⟨(some 2), none, .mov (.con (.int .i64 150))⟩])
   .ret)
   .skip))
  (.seq (.reg [⟨(some 2), none, .mov (.con (.int .i64 0))⟩])
  .ret))))
def g52 : Fn := ⟨1, 17, [.tmp 2], b52⟩
/- quiver/chain.Del$1 -/
def b53 : AC :=
  (.seq (.reg [⟨(some 3), none, .mov (.con (.int .i64 0))⟩])
  (.seq (.seq (.regd [⟨[⟨⟨(some 4), none, .mov (.tmp 0)⟩, true, false, false, 0, []⟩,
    ⟨⟨(some 5), none, .nilck (.tmp 4)⟩, true, false, false, 0, []⟩,
    ⟨⟨(some 6), none, .load false 1 (.tmp 5)⟩, false, false, false, 0, []⟩,
    ⟨⟨(some 7), none, .load false 1 (.tmp 1)⟩, false, false, false, 0, []⟩], 0, [⟨(some 8), none, .call 50 [(.tmp 6), (.tmp 7)]⟩,
    ⟨(some 9), none, .un .not (.tmp 8)⟩]⟩])
  (.cond (.tmp 9)
   (.seq (.reg [⟨(some 3), none, .mov (.con (.int .i64 4))⟩])
   .ret)
   .skip))
  (.seq (.reg [⟨(some 3), none, .mov (.con (.int .i64 0))⟩])
  .ret)))
def g53 : Fn := ⟨2, 10, [.tmp 3], b53⟩
/- quiver/quiverref08.time -/
def b54 : AC :=
  (.seq (.reg [⟨(some 4), none, .mov (.con (.bool false))⟩])
  (.seq (.reg [⟨(some 5), none, .mov (.tmp 1)⟩,
    ⟨(some 6), none, .mov (.tmp 0)⟩,
    ⟨(some 7), none, .call 25 [(.tmp 6)]⟩,
    ⟨(some 8), none, .bin .gtr (.tmp 5) (.tmp 7)⟩,
    ⟨(some 9), none, .mov (.tmp 8)⟩,
    ⟨(some 10), (some (9, true)), .mov (.tmp 1)⟩,
    ⟨(some 11), (some (9, true)), .bin .leq (.tmp 10) (.con (.int .u64 1099511627776))⟩,
    ⟨(some 12), none, .pick (.tmp 9) (.tmp 11) (.con (.bool false))⟩,
    ⟨(some 4), none, .mov (.tmp 12)⟩])
  .ret))
def g54 : Fn := ⟨2, 13, [.tmp 4], b54⟩
/- quiver/quiverref08.open -/
def b55 : AC :=
  (.seq (.reg [⟨(some 2), none, .mov (.con (.int .i64 0))⟩])
  (.seq (.seq (.reg [⟨(some 5), none, .mov (.tmp 0)⟩,
    ⟨(some 6), none, .len (.tmp 5)⟩,
    ⟨(some 7), none, .mov (.con (.int .i64 0))⟩])
  (.block 0 (.loop (.seq (.reg [⟨(some 8), none, .bin .lss (.tmp 7) (.tmp 6)⟩])
    (.seq (.cond (.tmp 8)
     .skip
     (.exit 0))
    (.seq (.block 1 (.seq (.reg [⟨(some 9), none, .mov (.tmp 7)⟩,
       ⟨(some 10), none, .iaddr 3 (.tmp 5) (.tmp 7)⟩,
       ⟨(some 11), none, .load true 3 (.tmp 10)⟩,
       ⟨(some 4), none, .alloc (.agg [(.int .u64 0), (.int .u64 0), .nilS])⟩,
       ⟨(some 3), none, .mov (.tmp 9)⟩,
       ⟨none, none, .store 3 (.tmp 4) (.tmp 11)⟩])
     (.seq (.reg [⟨(some 12), none, .faddr (.tmp 4) 1⟩,
       ⟨(some 13), none, .load false 1 (.tmp 12)⟩,
       ⟨(some 14), none, .bin .eql (.tmp 13) (.con (.int .u64 0))⟩])
     (.cond (.tmp 14)
      (.seq (.reg [⟨(some 15), none, .mov (.tmp 3)⟩,
        ⟨(some 2), none, .mov (.tmp 15)⟩])
      .ret)
      .skip))))
    (.reg [⟨(some 16), none, .bin .add (.tmp 7) (.con (.int .i64 1))⟩,
      ⟨(some 7), none, .mov (.tmp 16)⟩])))))))
  (.seq (.reg [⟨(some 2), none, .mov (.con (.int .i64 (-1)))⟩])
  .ret)))
def g55 : Fn := ⟨1, 17, [.tmp 2], b55⟩
/- quiver/chain.that$1 -/
def b56 : AC :=
  (.seq (.reg [⟨(some 6), none, .load false 1 (.tmp 1)⟩,
    ⟨(some 7), none, .len (.tmp 6)⟩,
    ⟨(some 8), none, .mov (.con (.int .i64 0))⟩])
  (.block 0 (.loop (.seq (.reg [⟨(some 9), none, .bin .lss (.tmp 8) (.tmp 7)⟩])
    (.seq (.cond (.tmp 9)
     .skip
     (.exit 0))
    (.seq (.block 1 (.seq (.reg [⟨(some 10), none, .iaddr 3 (.tmp 6) (.tmp 8)⟩,
       ⟨(some 11), none, .load true 3 (.tmp 10)⟩,
       ⟨(some 5), none, .alloc (.agg [(.int .u64 0), (.int .u64 0), .nilS])⟩,
       ⟨none, none, .store 3 (.tmp 5) (.tmp 11)⟩])
     (.seq (.reg [⟨(some 12), none, .load false 1 (.tmp 2)⟩,
       ⟨(some 13), none, .load true 3 (.tmp 5)⟩,
       ⟨(some 14), none, .callv (.tmp 12) [(.tmp 13)]⟩,
       ⟨(some 15), none, .mov (.tmp 14)⟩,
       ⟨(some 16), (some (15, true)), .mov (.tmp 0)⟩,
       ⟨(some 17), (some (15, true)), .load true 3 (.tmp 5)⟩,
       ⟨(some 18), (some (15, true)), .callv (.tmp 16) [(.tmp 17)]⟩,
       ⟨(some 19), (some (15, true)), .un .not (.tmp 18)⟩,
       ⟨(some 20), none, .pick (.tmp 15) (.tmp 19) (.con (.bool false))⟩])
     (.cond (.tmp 20)
      .ret
      .skip))))
    (.reg [⟨(some 21), none, .bin .add (.tmp 8) (.con (.int .i64 1))⟩,
      ⟨(some 8), none, .mov (.tmp 21)⟩])))))))
def g56 : Fn := ⟨3, 22, [], b56⟩
/- slices.Clone[[]quiver/api.Version,quiver/api.Version] -/
def b57 : AC :=
  (.seq (.reg [⟨(some 2), none, .mov (.con .nilS)⟩])
  (.seq (.seq (.reg [⟨(some 3), none, .mov (.tmp 0)⟩,
    ⟨(some 4), none, .eqN false (.tmp 3)⟩])
  (.cond (.tmp 4)
   (.seq (.reg [⟨(some 2), none, .mov (.con .nilS)⟩])
   .ret)
   .skip))
  (.seq (.reg [⟨(some 5), none, .lit 3 []⟩,
    ⟨(some 6), none, .mov (.tmp 0)⟩,
    ⟨(some 7), none, .append 3 40 (.tmp 5) (.tmp 6)⟩,
    ⟨(some 2), none, .mov (.tmp 7)⟩])
  .ret)))
def g57 : Fn := ⟨1, 8, [.tmp 2], b57⟩
/- quiver/vec.Check$1 -/
def b58 : AC :=
  (.seq (.reg [⟨(some 2), none, .mov (.con (.bool false))⟩])
  (.seq (.reg [⟨(some 3), none, .mov (.tmp 0)⟩,
    ⟨(some 4), none, .bin .lss (.tmp 3) (.con (.int .i32 (-1073741823)))⟩,
    ⟨(some 5), none, .mov (.tmp 4)⟩,
    ⟨(some 6), (some (5, false)), .mov (.tmp 0)⟩,
    ⟨(some 7), (some (5, false)), .bin .gtr (.tmp 6) (.con (.int .i32 1073741823))⟩,
    ⟨(some 8), none, .pick (.tmp 5) (.con (.bool true)) (.tmp 7)⟩,
    ⟨(some 2), none, .mov (.tmp 8)⟩])
  .ret))
def g58 : Fn := ⟨1, 9, [.tmp 2], b58⟩
/- slices.ContainsFunc[[]int32,int32] -/
def b59 : AC :=
  (.seq (.reg [⟨(some 4), none, .mov (.con (.bool false))⟩])
  (.seq (.reg [⟨(some 5), none, .mov (.tmp 0)⟩,
    ⟨(some 6), none, .mov (.tmp 1)⟩,
    ⟨(some 7), none, .call 60 [(.tmp 5), (.tmp 6)]⟩,
    ⟨(some 8), none, .bin .geq (.tmp 7) (.con (.int .i64 0))⟩,
    ⟨(some 4), none, .mov (.tmp 8)⟩])
  .ret))
def g59 : Fn := ⟨2, 9, [.tmp 4], b59⟩
/- slices.IndexFunc[[]int32,int32] -/
def b60 : AC :=
  (.seq (.reg [⟨(some 4), none, .mov (.con (.int .i64 0))⟩])
  (.seq (.seq (.reg [⟨(some 6), none, .mov (.tmp 0)⟩,
    ⟨(some 7), none, .len (.tmp 6)⟩,
    ⟨(some 8), none, .mov (.con (.int .i64 0))⟩])
  (.block 0 (.loop (.seq (.reg [⟨(some 9), none, .bin .lss (.tmp 8) (.tmp 7)⟩])
    (.seq (.cond (.tmp 9)
     .skip
     (.exit 0))
    (.seq (.block 1 (.seq (.reg [⟨(some 10), none, .mov (.tmp 8)⟩,
       ⟨(some 5), none, .mov (.tmp 10)⟩])
     (.seq (.reg [⟨(some 11), none, .mov (.tmp 1)⟩,
       ⟨(some 12), none, .mov (.tmp 0)⟩,
       ⟨(some 13), none, .mov (.tmp 5)⟩,
       ⟨(some 14), none, .iaddr 1 (.tmp 12) (.tmp 13)⟩,
       ⟨(some 15), none, .load false 1 (.tmp 14)⟩,
       ⟨(some 16), none, .callv (.tmp 11) [(.tmp 15)]⟩])
     (.cond (.tmp 16)
      (.seq (.reg [⟨(some 17), none, .mov (.tmp 5)⟩,
        ⟨(some 4), none, .mov (.tmp 17)⟩])
      .ret)
      .skip))))
    (.reg [⟨(some 18), none, .bin .add (.tmp 8) (.con (.int .i64 1))⟩,
      ⟨(some 8), none, .mov (.tmp 18)⟩])))))))
  (.seq (.reg [⟨(some 4), none, .mov (.con (.int .i64 (-1)))⟩])
  .ret)))
def g60 : Fn := ⟨2, 19, [.tmp 4], b60⟩

def fnOf : Nat → Option Fn
  | 3 => some g3
  | 4 => some g4
  | 5 => some g5
  | 6 => some g6
  | 7 => some g7
  | 8 => some g8
  | 9 => some g9
  | 10 => some g10
  | 11 => some g11
  | 12 => some g12
  | 13 => some g13
  | 14 => some g14
  | 15 => some g15
  | 16 => some g16
  | 17 => some g17
  | 18 => some g18
  | 19 => some g19
  | 20 => some g20
  | 21 => some g21
  | 22 => some g22
  | 23 => some g23
  | 24 => some g24
  | 25 => some g25
  | 26 => some g26
  | 27 => some g27
  | 28 => some g28
  | 29 => some g29
  | 30 => some g30
  | 31 => some g31
  | 32 => some g32
  | 33 => some g33
  | 34 => some g34
  | 35 => some g35
  | 36 => some g36
  | 37 => some g37
  | 38 => some g38
  | 39 => some g39
  | 40 => some g40
  | 41 => some g41
  | 42 => some g42
  | 43 => some g43
  | 44 => some g44
  | 45 => some g45
  | 46 => some g46
  | 47 => some g47
  | 48 => some g48
  | 49 => some g49
  | 50 => some g50
  | 51 => some g51
  | 52 => some g52
  | 53 => some g53
  | 54 => some g54
  | 55 => some g55
  | 56 => some g56
  | 57 => some g57
  | 58 => some g58
  | 59 => some g59
  | 60 => some g60
  | _ => none
def modeOf (f : Nat) : Mode := if f ∈ [12, 14, 22, 27, 28, 33, 46, 48, 51, 57] then .own else if f ∈ [49, 53, 50, 45] then .raw else .pure
def T : Tab := ⟨fnOf, modeOf⟩
end Go.Q.S4
end

section
/- Small functions of seat 08. -/
set_option linter.unusedSimpArgs false
set_option linter.unusedVariables false
namespace Go.Q.S4
open Go.Q

structure Ver where
  b : Int
  e : Int
  v : Option (List Int)

def i32V (x : Int) : V := .int .i32 x
def verV (x : Ver) : V := .agg [.int .u64 x.b, .int .u64 x.e, slV 1 i32V x.v]

structure OpV where
  k : Int
  ts : Int
  near : Bool
  v : Option (List Int)
def opV (x : OpV) : V := .agg [.int .i64 x.k, .int .u64 x.ts, .bool x.near, slV 1 i32V x.v]

def vis (x : Ver) (t : Int) : Bool := decide (x.b ≤ t) && (x.e == 0 || decide (t < x.e))

theorem r32 (b e : Int) (v : Option (List Int)) (t : Int) : res T 32 [.agg [.int .u64 b, .int .u64 e, slV 1 i32V v], .int .u64 t] = some (.bool (vis ⟨b, e, v⟩ t)) := by
  refine run_res (run_pure (fn := g32) rfl rfl (by decide) ?_)
  simp only [g32, b32]
  simp +contextual -implicitDefEqProofs (maxSteps := 2000000) only [↓wP, wQ, wQ1, wQ2, wQ3, wR, boxE, partsOf, ↓reduceIte, Nat.reduceEqDiff, Nat.reduceAdd, Nat.reduceSub, Nat.reduceLeDiff, Nat.reduceLT, Nat.reduceMul, reduceCtorEq, Int.reduceBNe, Int.reduceBEq, Int.reduceLT, Int.reduceLE, Int.reduceGT]
  rfl

theorem f32 (b e : Int) (v : Option (List Int)) (t : Int) (fs : Bool) (σ : Sto) (n lk : Nat) : callE T fs 32 [.agg [.int .u64 b, .int .u64 e, slV 1 i32V v], .int .u64 t] σ n lk = some (.bool (vis ⟨b, e, v⟩ t), σ, n) :=
  callE_tr (by decide) (r32 b e v t) (by simp [Tr, Tr_slV]) rfl fs σ n lk

theorem r31 (b e : Int) (v : Option (List Int)) (t : Int) : res T 31 [.agg [.int .u64 b, .int .u64 e, slV 1 i32V v], .box [.int .u64 t]] = some (.bool (vis ⟨b, e, v⟩ t)) := by
  refine run_res (run_pure (fn := g31) rfl rfl (by decide) ?_)
  simp only [g31, b31]
  simp +contextual -implicitDefEqProofs (maxSteps := 2000000) only [↓wP, wQ, wQ1, wQ2, wQ3, wR, boxE, partsOf, ↓reduceIte, Nat.reduceEqDiff, Nat.reduceAdd, Nat.reduceSub, Nat.reduceLeDiff, Nat.reduceLT, Nat.reduceMul, reduceCtorEq, Int.reduceBNe, Int.reduceBEq, Int.reduceLT, Int.reduceLE, Int.reduceGT, f32]

theorem f31 (b e : Int) (v : Option (List Int)) (t : Int) (fs : Bool) (σ : Sto) (n lk : Nat) : callE T fs 31 [.agg [.int .u64 b, .int .u64 e, slV 1 i32V v], .box [.int .u64 t]] σ n lk = some (.bool (vis ⟨b, e, v⟩ t), σ, n) :=
  callE_tr (by decide) (r31 b e v t) (by simp [Tr, Tr_slV]) rfl fs σ n lk

def okI (x : Int) : Bool := decide (-1073741823 ≤ x) && decide (x ≤ 1073741823)

theorem r58 (x : Int) : res T 58 [.int .i32 x] = some (.bool (!okI x)) := by
  refine run_res (run_pure (fn := g58) rfl rfl (by decide) ?_)
  simp only [g58, b58]
  simp +contextual -implicitDefEqProofs (maxSteps := 2000000) only [↓wP, wQ, wQ1, wQ2, wQ3, wR, boxE, partsOf, ↓reduceIte, Nat.reduceEqDiff, Nat.reduceAdd, Nat.reduceSub, Nat.reduceLeDiff, Nat.reduceLT, Nat.reduceMul, reduceCtorEq, Int.reduceBNe, Int.reduceBEq, Int.reduceLT, Int.reduceLE, Int.reduceGT]
  simp only [okI, Option.some.injEq, V.bool.injEq, Bool.not_and]
  congr 1 <;> simp only [← decide_not, Int.not_le]

theorem f58 (x : Int) (fs : Bool) (σ : Sto) (n lk : Nat) : callE T fs 58 [.int .i32 x] σ n lk = some (.bool (!okI x), σ, n) :=
  callE_tr (by decide) (r58 x) (by simp [Tr, Tr_slV]) rfl fs σ n lk

/-- Where the first is of which something holds; or -1. -/
def idxF {α : Type} (p : α → Bool) (l : List α) : Int := match l.findIdx? p with
  | some i => i
  | none => -1

theorem r60 (o : Option (List Int)) (F : Nat) (caps : List V) (p : Int → Bool) (hl : (lst o).length < 9223372036854775808)     (hp : ∀ x fs σ n lk, callE T fs F (i32V x :: caps) σ n lk = some (.bool (p x), σ, n)) : res T 60 [slV 1 i32V o, .fn F caps] = some (.int .i64 (idxF p (lst o))) := by
  refine run_res (run_pure (fn := g60) rfl rfl (by decide) ?_)
  simp only [g60, b60]
  simp +contextual -implicitDefEqProofs (maxSteps := 2000000) only [↓wP, wQ, wQ1, wQ2, wQ3, wR, boxE, partsOf, ↓reduceIte, Nat.reduceEqDiff, Nat.reduceAdd, Nat.reduceSub, Nat.reduceLeDiff, Nat.reduceLT, Nat.reduceMul, reduceCtorEq, Int.reduceBNe, Int.reduceBEq, Int.reduceLT, Int.reduceLE, Int.reduceGT]
  refine WC_for (lst o).length 0 (fun (j : Nat) env _ _ => env 0 = slV 1 i32V o ∧ env 1 = .fn F caps ∧ (lst o).findIdx? p = (((lst o).drop j).findIdx? p).map (· + j)) (by omega) (by decide) (by decide) (fun _ _ => rfl) (fun _ _ _ => rfl) ?_ ?_ _ _ _ rfl rfl ?_
  · intro j env σ n hj h1 h2 ⟨h3, h4, h5⟩
    simp only [vl_tmp] at h2
    have hx : (lst o)[j]? = some (lst o)[j] := List.getElem?_eq_getElem hj
    have hp' := hp (lst o)[j]
    simp only [i32V] at hp'
    simp +contextual -implicitDefEqProofs (maxSteps := 2000000) only [↓wP, wQ, wQ1, wQ2, wQ3, wR, boxE, partsOf, ↓reduceIte, Nat.reduceEqDiff, Nat.reduceAdd, Nat.reduceSub, Nat.reduceLeDiff, Nat.reduceLT, Nat.reduceMul, reduceCtorEq, Int.reduceBNe, Int.reduceBEq, Int.reduceLT, Int.reduceLE, Int.reduceGT, h1, h2, h3, h4, hx, i32V, hp']
    rw [List.drop_eq_getElem_cons hj, List.findIdx?_cons] at h5
    refine condC_split (fun hb => ?_) (fun hb => ?_)
    · simp +contextual -implicitDefEqProofs (maxSteps := 2000000) only [↓wP, wQ, wQ1, wQ2, wQ3, wR, boxE, partsOf, ↓reduceIte, Nat.reduceEqDiff, Nat.reduceAdd, Nat.reduceSub, Nat.reduceLeDiff, Nat.reduceLT, Nat.reduceMul, reduceCtorEq, Int.reduceBNe, Int.reduceBEq, Int.reduceLT, Int.reduceLE, Int.reduceGT]
      simp [idxF, h5, hb]
    · simp +contextual -implicitDefEqProofs (maxSteps := 2000000) only [↓wP, wQ, wQ1, wQ2, wQ3, wR, boxE, partsOf, ↓reduceIte, Nat.reduceEqDiff, Nat.reduceAdd, Nat.reduceSub, Nat.reduceLeDiff, Nat.reduceLT, Nat.reduceMul, reduceCtorEq, Int.reduceBNe, Int.reduceBEq, Int.reduceLT, Int.reduceLE, Int.reduceGT, h1, h2, h3, h4]
      rw [h5, hb]
      simp only [Bool.false_eq_true, if_false, Option.map_map, Function.comp_def]
      congr 1; funext i; omega
  · intro env σ n ⟨h3, h4, h5⟩ h1 h2
    simp +contextual -implicitDefEqProofs (maxSteps := 2000000) only [↓wP, wQ, wQ1, wQ2, wQ3, wR, boxE, partsOf, ↓reduceIte, Nat.reduceEqDiff, Nat.reduceAdd, Nat.reduceSub, Nat.reduceLeDiff, Nat.reduceLT, Nat.reduceMul, reduceCtorEq, Int.reduceBNe, Int.reduceBEq, Int.reduceLT, Int.reduceLE, Int.reduceGT]
    simp [idxF, h5]
  · exact ⟨rfl, rfl, by simp⟩

theorem r30 (o : Option (List Ver)) (F : Nat) (caps : List V) (p : Ver → Bool) (hl : (lst o).length < 9223372036854775808)     (hp : ∀ x fs σ n lk, callE T fs F (verV x :: caps) σ n lk = some (.bool (p x), σ, n)) : res T 30 [slV 3 verV o, .fn F caps] = some (.int .i64 (idxF p (lst o))) := by
  refine run_res (run_pure (fn := g30) rfl rfl (by decide) ?_)
  simp only [g30, b30]
  simp +contextual -implicitDefEqProofs (maxSteps := 2000000) only [↓wP, wQ, wQ1, wQ2, wQ3, wR, boxE, partsOf, ↓reduceIte, Nat.reduceEqDiff, Nat.reduceAdd, Nat.reduceSub, Nat.reduceLeDiff, Nat.reduceLT, Nat.reduceMul, reduceCtorEq, Int.reduceBNe, Int.reduceBEq, Int.reduceLT, Int.reduceLE, Int.reduceGT]
  refine WC_for (lst o).length 0 (fun (j : Nat) env _ _ => env 0 = slV 3 verV o ∧ env 1 = .fn F caps ∧ (lst o).findIdx? p = (((lst o).drop j).findIdx? p).map (· + j)) (by omega) (by decide) (by decide) (fun _ _ => rfl) (fun _ _ _ => rfl) ?_ ?_ _ _ _ rfl rfl ?_
  · intro j env σ n hj h1 h2 ⟨h3, h4, h5⟩
    simp only [vl_tmp] at h2
    have hx : (lst o)[j]? = some (lst o)[j] := List.getElem?_eq_getElem hj
    have hp' := hp (lst o)[j]
    simp only [verV] at hp'
    simp +contextual -implicitDefEqProofs (maxSteps := 2000000) only [↓wP, wQ, wQ1, wQ2, wQ3, wR, boxE, partsOf, ↓reduceIte, Nat.reduceEqDiff, Nat.reduceAdd, Nat.reduceSub, Nat.reduceLeDiff, Nat.reduceLT, Nat.reduceMul, reduceCtorEq, Int.reduceBNe, Int.reduceBEq, Int.reduceLT, Int.reduceLE, Int.reduceGT, h1, h2, h3, h4, hx, verV, hp']
    rw [List.drop_eq_getElem_cons hj, List.findIdx?_cons] at h5
    refine condC_split (fun hb => ?_) (fun hb => ?_)
    · simp +contextual -implicitDefEqProofs (maxSteps := 2000000) only [↓wP, wQ, wQ1, wQ2, wQ3, wR, boxE, partsOf, ↓reduceIte, Nat.reduceEqDiff, Nat.reduceAdd, Nat.reduceSub, Nat.reduceLeDiff, Nat.reduceLT, Nat.reduceMul, reduceCtorEq, Int.reduceBNe, Int.reduceBEq, Int.reduceLT, Int.reduceLE, Int.reduceGT]
      simp [idxF, h5, hb]
    · simp +contextual -implicitDefEqProofs (maxSteps := 2000000) only [↓wP, wQ, wQ1, wQ2, wQ3, wR, boxE, partsOf, ↓reduceIte, Nat.reduceEqDiff, Nat.reduceAdd, Nat.reduceSub, Nat.reduceLeDiff, Nat.reduceLT, Nat.reduceMul, reduceCtorEq, Int.reduceBNe, Int.reduceBEq, Int.reduceLT, Int.reduceLE, Int.reduceGT, h1, h2, h3, h4]
      rw [h5, hb]
      simp only [Bool.false_eq_true, if_false, Option.map_map, Function.comp_def]
      congr 1; funext i; omega
  · intro env σ n ⟨h3, h4, h5⟩ h1 h2
    simp +contextual -implicitDefEqProofs (maxSteps := 2000000) only [↓wP, wQ, wQ1, wQ2, wQ3, wR, boxE, partsOf, ↓reduceIte, Nat.reduceEqDiff, Nat.reduceAdd, Nat.reduceSub, Nat.reduceLeDiff, Nat.reduceLT, Nat.reduceMul, reduceCtorEq, Int.reduceBNe, Int.reduceBEq, Int.reduceLT, Int.reduceLE, Int.reduceGT]
    simp [idxF, h5]
  · exact ⟨rfl, rfl, by simp⟩

theorem idxF_any {α : Type} (p : α → Bool) (l : List α) : decide (0 ≤ idxF p l) = l.any p := by
  unfold idxF
  cases h : l.findIdx? p with
  | none =>
    simp only [List.findIdx?_eq_none_iff] at h
    simp only [Int.reduceNeg, Int.reduceLE, decide_false]
    exact (List.any_eq_false.2 fun x hx => by simp [h x hx]).symm
  | some i =>
    simp only [List.findIdx?_eq_some_iff_getElem] at h
    obtain ⟨h, h1, -⟩ := h
    simp only [Int.natCast_nonneg, decide_true]
    exact (List.any_eq_true.2 ⟨_, List.getElem_mem h, h1⟩).symm

theorem r59 (o : Option (List Int)) (hl : (lst o).length < 9223372036854775808) : res T 59 [slV 1 i32V o, .fn 58 []] = some (.bool ((lst o).any fun x => !okI x)) := by
  refine run_res (run_pure (fn := g59) rfl rfl (by decide) ?_)
  simp only [g59, b59]
  have h := r60 o 58 [] (fun x => !okI x) hl (fun x fs σ n lk => f58 x fs σ n lk)
  have hm : T.mode 60 ≠ .raw := by decide
  simp +contextual -implicitDefEqProofs (maxSteps := 2000000) only [↓wP, wQ, wQ1, wQ2, wQ3, wR, boxE, partsOf, ↓reduceIte, Nat.reduceEqDiff, Nat.reduceAdd, Nat.reduceSub, Nat.reduceLeDiff, Nat.reduceLT, Nat.reduceMul, reduceCtorEq, Int.reduceBNe, Int.reduceBEq, Int.reduceLT, Int.reduceLE, Int.reduceGT, h, callE_eq hm, idxF_any]

theorem f59 (o : Option (List Int)) (hl : (lst o).length < 9223372036854775808) (fs : Bool) (σ : Sto) (n lk : Nat) : callE T fs 59 [slV 1 i32V o, .fn 58 []] σ n lk = some (.bool ((lst o).any fun x => !okI x), σ, n) :=
  callE_tr (by decide) (r59 o hl) (by simp [Tr, Tr_slV]) rfl fs σ n lk

/-- A vector that may be. -/
def okV (o : Option (List Int)) : Bool := decide (0 < (lst o).length) && decide ((lst o).length ≤ 4) && (lst o).all okI

theorem r52 (o : Option (List Int)) (hl : (lst o).length < 9223372036854775808) : res T 52 [slV 1 i32V o] = some (.int .i64 (if okV o then 0 else 150)) := by
  refine run_res (run_pure (fn := g52) rfl rfl (by decide) ?_)
  simp only [g52, b52]
  have h := f59 o hl
  simp +contextual -implicitDefEqProofs (maxSteps := 2000000) only [↓wP, wQ, wQ1, wQ2, wQ3, wR, boxE, partsOf, ↓reduceIte, Nat.reduceEqDiff, Nat.reduceAdd, Nat.reduceSub, Nat.reduceLeDiff, Nat.reduceLT, Nat.reduceMul, reduceCtorEq, Int.reduceBNe, Int.reduceBEq, Int.reduceLT, Int.reduceLE, Int.reduceGT, h]
  have hk : (decide (((lst o).length : Int) < 1) || decide (4 < ((lst o).length : Int)) || (lst o).any fun x => !okI x) = !okV o := by
    unfold okV
    rw [Bool.not_and, Bool.not_and, List.not_all_eq_any_not, ← decide_not, ← decide_not]
    congr 2 <;> exact decide_eq_decide.2 (by omega)
  rw [hk]
  cases hb : okV o <;> simp +contextual -implicitDefEqProofs (maxSteps := 2000000) only [↓wP, wQ, wQ1, wQ2, wQ3, wR, boxE, partsOf, ↓reduceIte, Nat.reduceEqDiff, Nat.reduceAdd, Nat.reduceSub, Nat.reduceLeDiff, Nat.reduceLT, Nat.reduceMul, reduceCtorEq, Int.reduceBNe, Int.reduceBEq, Int.reduceLT, Int.reduceLE, Int.reduceGT]

theorem f52 (o : Option (List Int)) (hl : (lst o).length < 9223372036854775808) (fs : Bool) (σ : Sto) (n lk : Nat) : callE T fs 52 [slV 1 i32V o] σ n lk = some (.int .i64 (if okV o then 0 else 150), σ, n) :=
  callE_tr (by decide) (r52 o hl) (by simp [Tr, Tr_slV]) rfl fs σ n lk

theorem r29 (o : Option (List Int)) (d : Int) (hl : (lst o).length < 9223372036854775808) : res T 29 [slV 1 i32V o, .int .i64 d] = some (.int .i64 (if okV o then (if ((lst o).length : Int) = d then 0 else 151) else 150)) := by
  refine run_res (run_pure (fn := g29) rfl rfl (by decide) ?_)
  simp only [g29, b29]
  have h := f52 o hl
  cases hb : okV o
  · simp +contextual -implicitDefEqProofs (maxSteps := 2000000) only [↓wP, wQ, wQ1, wQ2, wQ3, wR, boxE, partsOf, ↓reduceIte, Nat.reduceEqDiff, Nat.reduceAdd, Nat.reduceSub, Nat.reduceLeDiff, Nat.reduceLT, Nat.reduceMul, reduceCtorEq, Int.reduceBNe, Int.reduceBEq, Int.reduceLT, Int.reduceLE, Int.reduceGT, h, hb, Bool.false_eq_true, bne_self_eq_false, Int.reduceBNe]
  · simp +contextual -implicitDefEqProofs (maxSteps := 2000000) only [↓wP, wQ, wQ1, wQ2, wQ3, wR, boxE, partsOf, ↓reduceIte, Nat.reduceEqDiff, Nat.reduceAdd, Nat.reduceSub, Nat.reduceLeDiff, Nat.reduceLT, Nat.reduceMul, reduceCtorEq, Int.reduceBNe, Int.reduceBEq, Int.reduceLT, Int.reduceLE, Int.reduceGT, h, hb, Bool.false_eq_true, bne_self_eq_false, Int.reduceBNe]
    by_cases hd : ((lst o).length : Int) = d
    · simp +contextual -implicitDefEqProofs (maxSteps := 2000000) only [↓wP, wQ, wQ1, wQ2, wQ3, wR, boxE, partsOf, ↓reduceIte, Nat.reduceEqDiff, Nat.reduceAdd, Nat.reduceSub, Nat.reduceLeDiff, Nat.reduceLT, Nat.reduceMul, reduceCtorEq, Int.reduceBNe, Int.reduceBEq, Int.reduceLT, Int.reduceLE, Int.reduceGT, hd]
    · have : (((lst o).length : Int) != d) = true := by simp [hd]
      simp +contextual -implicitDefEqProofs (maxSteps := 2000000) only [↓wP, wQ, wQ1, wQ2, wQ3, wR, boxE, partsOf, ↓reduceIte, Nat.reduceEqDiff, Nat.reduceAdd, Nat.reduceSub, Nat.reduceLeDiff, Nat.reduceLT, Nat.reduceMul, reduceCtorEq, Int.reduceBNe, Int.reduceBEq, Int.reduceLT, Int.reduceLE, Int.reduceGT, this, hd]

theorem f29 (o : Option (List Int)) (d : Int) (hl : (lst o).length < 9223372036854775808) (fs : Bool) (σ : Sto) (n lk : Nat) : callE T fs 29 [slV 1 i32V o, .int .i64 d] σ n lk = some (.int .i64 (if okV o then (if ((lst o).length : Int) = d then 0 else 151) else 150), σ, n) :=
  callE_tr (by decide) (r29 o d hl) (by simp [Tr, Tr_slV]) rfl fs σ n lk

/-- One version behind others: the first one's dimension, the last trace, is it the last one? -/
def okVer (d : Int) (last : Int) (fin : Bool) (x : Ver) : Bool :=
  decide (0 < x.b) && decide (last ≤ x.b) && decide (x.b ≤ 1099511627776) && decide (x.e ≤ 1099511627776) && (x.e == 0 || decide (x.b < x.e)) &&
    (okV x.v && ((lst x.v).length : Int) == d) && (!x.e == 0 || fin)

def chk (d : Int) : Int → List Ver → Bool
  | _, [] => true
  | last, x :: xs => okVer d last xs.isEmpty x && chk d x.e xs

/-- The first one's dimension. -/
def dimOf (l : List Ver) : Int := match l with
  | [] => 0
  | x :: _ => ((lst x.v).length : Int)

theorem dimOf_eq {l : List Ver} (h : 0 < l.length) : dimOf l = ((lst l[0].v).length : Int) := by
  cases l with
  | nil => simp at h
  | cons a l => rfl

/-- A chain that may be. -/
def okC (o : Option (List Ver)) : Bool := decide ((lst o).length ≤ 96) && chk (dimOf (lst o)) 0 (lst o)

/-- What memory can hold. -/
def Sm (o : Option (List Ver)) : Prop := (lst o).length < 9223372036854775808 ∧ ∀ x ∈ lst o, (lst x.v).length < 9223372036854775808

theorem r11 (o : Option (List Ver)) (hs : Sm o) : res T 11 [slV 3 verV o] = some (.int .i64 (if okC o then 0 else 180)) := by
  refine run_res (run_pure (fn := g11) rfl rfl (by decide) ?_)
  simp only [g11, b11]
  simp +contextual -implicitDefEqProofs (maxSteps := 2000000) only [↓wP, wQ, wQ1, wQ2, wQ3, wR, boxE, partsOf, ↓reduceIte, Nat.reduceEqDiff, Nat.reduceAdd, Nat.reduceSub, Nat.reduceLeDiff, Nat.reduceLT, Nat.reduceMul, reduceCtorEq, Int.reduceBNe, Int.reduceBEq, Int.reduceLT, Int.reduceLE, Int.reduceGT]
  refine WC_for (lst o).length 0 (fun (j : Nat) env _ _ => env 0 = slV 3 verV o ∧ env 11 = slV 3 verV o ∧ ∃ ok last, env 3 = .bool ok ∧ env 4 = .int .u64 last ∧ okC o = (ok && chk (dimOf (lst o)) last ((lst o).drop j)))
    (by have := hs.1; omega) (by decide) (by decide) (fun _ _ => rfl) (fun _ _ _ => rfl) ?_ ?_ _ _ _ rfl rfl ?_
  · intro j env σ n hj h1 h2 ⟨h3, h4, ok, last, h5, h6, h7⟩
    simp only [vl_tmp] at h2
    have hx : (lst o)[j]? = some (lst o)[j] := List.getElem?_eq_getElem hj
    have hx0 : (lst o)[0]? = some (lst o)[0] := List.getElem?_eq_getElem (by omega)
    have hv := f29 (lst o)[j].v (((lst (lst o)[0].v).length : Nat) : Int) (hs.2 _ (List.getElem_mem hj))
    have hw : IntKind.i64.wrap (((lst o).length : Int) - 1) = ((lst o).length : Int) - 1 := by have := hs.1; rw [wrap_i64] <;> omega
    rw [List.drop_eq_getElem_cons hj, chk] at h7
    have hdim : dimOf (lst o) = ((lst (lst o)[0].v).length : Int) := dimOf_eq (by omega)
    have hfin : ((j : Int) == ((lst o).length : Int) - 1) = ((lst o).drop (j + 1)).isEmpty := by
      rw [Bool.eq_iff_iff]; simp only [beq_iff_eq, List.isEmpty_iff, List.drop_eq_nil_iff]; omega
    have hval : ((if okV (lst o)[j].v = true then if ((lst (lst o)[j].v).length : Int) = ((lst (lst o)[0].v).length : Int) then 0 else 151 else 150 : Int) == 0) =
        (okV (lst o)[j].v && ((lst (lst o)[j].v).length : Int) == dimOf (lst o)) := by
      rw [hdim, Bool.eq_iff_iff]
      split
      · split <;> simp_all
      · simp_all
    simp +contextual -implicitDefEqProofs (maxSteps := 2000000) only [↓wP, wQ, wQ1, wQ2, wQ3, wR, boxE, partsOf, ↓reduceIte, Nat.reduceEqDiff, Nat.reduceAdd, Nat.reduceSub, Nat.reduceLeDiff, Nat.reduceLT, Nat.reduceMul, reduceCtorEq, Int.reduceBNe, Int.reduceBEq, Int.reduceLT, Int.reduceLE, Int.reduceGT, h1, h2, h3, h4, h5, h6, hx, hx0, verV, hv, hw, hfin, hval]
    refine condC_split (fun hb => ?_) (fun hb => ?_)
    · rw [Bool.not_eq_true'] at hb
      have hc : okC o = false := by
        rw [h7, ← Bool.and_assoc]
        have : (ok && okVer (dimOf (lst o)) last ((lst o).drop (j + 1)).isEmpty (lst o)[j]) = false := by rw [← hb]; simp only [okVer, Bool.and_assoc]
        rw [this]; rfl
      simp +contextual -implicitDefEqProofs (maxSteps := 2000000) only [↓wP, wQ, wQ1, wQ2, wQ3, wR, boxE, partsOf, ↓reduceIte, Nat.reduceEqDiff, Nat.reduceAdd, Nat.reduceSub, Nat.reduceLeDiff, Nat.reduceLT, Nat.reduceMul, reduceCtorEq, Int.reduceBNe, Int.reduceBEq, Int.reduceLT, Int.reduceLE, Int.reduceGT, hb, hc]
    · rw [Bool.not_eq_false'] at hb
      have hc : okC o = chk (dimOf (lst o)) (lst o)[j].e ((lst o).drop (j + 1)) := by
        rw [h7, ← Bool.and_assoc]
        have : (ok && okVer (dimOf (lst o)) last ((lst o).drop (j + 1)).isEmpty (lst o)[j]) = true := by rw [← hb]; simp only [okVer, Bool.and_assoc]
        rw [this]; rfl
      simp +contextual -implicitDefEqProofs (maxSteps := 2000000) only [↓wP, wQ, wQ1, wQ2, wQ3, wR, boxE, partsOf, ↓reduceIte, Nat.reduceEqDiff, Nat.reduceAdd, Nat.reduceSub, Nat.reduceLeDiff, Nat.reduceLT, Nat.reduceMul, reduceCtorEq, Int.reduceBNe, Int.reduceBEq, Int.reduceLT, Int.reduceLE, Int.reduceGT, hb, h1, h2, h3, h4]
      exact ⟨true, _, rfl, rfl, hc⟩
  · intro env σ n ⟨h3, h4, ok, last, h5, h6, h7⟩ h1 h2
    rw [List.drop_length, chk, Bool.and_true] at h7
    simp +contextual -implicitDefEqProofs (maxSteps := 2000000) only [↓wP, wQ, wQ1, wQ2, wQ3, wR, boxE, partsOf, ↓reduceIte, Nat.reduceEqDiff, Nat.reduceAdd, Nat.reduceSub, Nat.reduceLeDiff, Nat.reduceLT, Nat.reduceMul, reduceCtorEq, Int.reduceBNe, Int.reduceBEq, Int.reduceLT, Int.reduceLE, Int.reduceGT, h5, h7]
    cases ok <;> simp +contextual -implicitDefEqProofs (maxSteps := 2000000) only [↓wP, wQ, wQ1, wQ2, wQ3, wR, boxE, partsOf, ↓reduceIte, Nat.reduceEqDiff, Nat.reduceAdd, Nat.reduceSub, Nat.reduceLeDiff, Nat.reduceLT, Nat.reduceMul, reduceCtorEq, Int.reduceBNe, Int.reduceBEq, Int.reduceLT, Int.reduceLE, Int.reduceGT]
  · refine ⟨rfl, rfl, _, _, rfl, rfl, ?_⟩
    simp only [okC, ← Int.ofNat_le]; rfl

theorem f11 (o : Option (List Ver)) (hs : Sm o) (fs : Bool) (σ : Sto) (n lk : Nat) : callE T fs 11 [slV 3 verV o] σ n lk = some (.int .i64 (if okC o then 0 else 180), σ, n) :=
  callE_tr (by decide) (r11 o hs) (by simp [Tr, Tr_slV]) rfl fs σ n lk

end Go.Q.S4
end

section
/- The program's functions that ChainOne comes to. -/
set_option linter.unusedSimpArgs false
set_option linter.unusedVariables false
namespace Go.Q.S4
open Go.Q

def posV (o : Option (List Ver)) (t : Int) : Int := idxF (fun x => vis x t) (lst o)
def atB (o : Option (List Ver)) (t : Int) : Bool := decide (0 ≤ posV o t) && okC o
def atI (o : Option (List Ver)) (t : Int) : Int := if atB o t = true then posV o t else 0

theorem r13 (o : Option (List Ver)) (t : Int) (hs : Sm o) : res T 13 [slV 3 verV o, .int .u64 t] = some (.tup [.int .i64 (atI o t), .bool (atB o t)]) := by
  refine run_res (run_pure (fn := g13) rfl rfl (by decide) ?_)
  simp only [g13, b13]
  have h := r30 o 31 [.box [.int .u64 t]] (fun x => vis x t) hs.1 (fun x fs σ n lk => f31 x.b x.e x.v t fs σ n lk)
  have hm : T.mode 30 ≠ .raw := by decide
  have h11 := f11 o hs
  have hw : idxF (fun x => vis x t) (lst o) = posV o t := rfl
  simp +contextual -implicitDefEqProofs (maxSteps := 2000000) only [↓wP, wQ, wQ1, wQ2, wQ3, wR, boxE, partsOf, ↓reduceIte, Nat.reduceEqDiff, Nat.reduceAdd, Nat.reduceSub, Nat.reduceLeDiff, Nat.reduceLT, Nat.reduceMul, reduceCtorEq, Int.reduceBNe, Int.reduceBEq, Int.reduceLT, Int.reduceLE, Int.reduceGT, h, callE_eq hm, h11, hw]
  by_cases h0 : posV o t < 0
  · have hB : atB o t = false := by simp [atB]; intro h; omega
    simp +contextual -implicitDefEqProofs (maxSteps := 2000000) only [↓wP, wQ, wQ1, wQ2, wQ3, wR, boxE, partsOf, ↓reduceIte, Nat.reduceEqDiff, Nat.reduceAdd, Nat.reduceSub, Nat.reduceLeDiff, Nat.reduceLT, Nat.reduceMul, reduceCtorEq, Int.reduceBNe, Int.reduceBEq, Int.reduceLT, Int.reduceLE, Int.reduceGT, h0, atI, hB]
  · have h0' : 0 ≤ posV o t := by omega
    cases hc : okC o
    · have hB : atB o t = false := by simp [atB, hc]
      simp +contextual -implicitDefEqProofs (maxSteps := 2000000) only [↓wP, wQ, wQ1, wQ2, wQ3, wR, boxE, partsOf, ↓reduceIte, Nat.reduceEqDiff, Nat.reduceAdd, Nat.reduceSub, Nat.reduceLeDiff, Nat.reduceLT, Nat.reduceMul, reduceCtorEq, Int.reduceBNe, Int.reduceBEq, Int.reduceLT, Int.reduceLE, Int.reduceGT, h0, atI, hB]
    · have hB : atB o t = true := by simp [atB, hc, h0']
      simp +contextual -implicitDefEqProofs (maxSteps := 2000000) only [↓wP, wQ, wQ1, wQ2, wQ3, wR, boxE, partsOf, ↓reduceIte, Nat.reduceEqDiff, Nat.reduceAdd, Nat.reduceSub, Nat.reduceLeDiff, Nat.reduceLT, Nat.reduceMul, reduceCtorEq, Int.reduceBNe, Int.reduceBEq, Int.reduceLT, Int.reduceLE, Int.reduceGT, h0, atI, hB]

theorem f13 (o : Option (List Ver)) (t : Int) (hs : Sm o) (fs : Bool) (σ : Sto) (n lk : Nat) : callE T fs 13 [slV 3 verV o, .int .u64 t] σ n lk = some (.tup [.int .i64 (atI o t), .bool (atB o t)], σ, n) :=
  callE_tr (by decide) (r13 o t hs) (by simp [Tr, Tr_slV]) rfl fs σ n lk

def fewV (x : Ver) : Ver := ⟨x.b, x.e, some ((lst x.v).take 5)⟩
def opt {α : Type} (l : List α) : Option (List α) := if l.isEmpty then none else some l
def fewO (o : Option (List Ver)) : Option (List Ver) := opt (((lst o).take 97).map fewV)

theorem lst_opt {α : Type} (l : List α) : lst (opt l) = l := by cases l <;> rfl
theorem lst_map {α β : Type} (f : α → β) (o : Option (List α)) : lst (o.map (List.map f)) = (lst o).map f := by cases o <;> rfl
theorem opt_snoc {α : Type} (l : List α) (x : α) : opt (l ++ [x]) = appO (opt l) [x] := by cases l <;> rfl

theorem r10 (o : Option (List Ver)) (hs : Sm o) : res T 10 [slV 3 verV o] = some (slV 3 verV (fewO o)) := by
  refine run_res (run_pure (fn := g10) rfl rfl (by decide) ?_)
  simp only [g10, b10]
  simp +contextual -implicitDefEqProofs (maxSteps := 2000000) only [↓wP, wQ, wQ1, wQ2, wQ3, wR, boxE, partsOf, ↓reduceIte, Nat.reduceEqDiff, Nat.reduceAdd, Nat.reduceSub, Nat.reduceLeDiff, Nat.reduceLT, Nat.reduceMul, reduceCtorEq, Int.reduceBNe, Int.reduceBEq, Int.reduceLT, Int.reduceLE, Int.reduceGT]
  refine WC_for (lst o).length 0 (fun (j : Nat) env σ n => env 6 = slV 3 verV o ∧ Bld σ n 3 (env 3) ((opt (((lst o).take (min j 97)).map fewV)).map (List.map verV)))
    (by have := hs.1; omega) (by decide) (by decide) (fun _ _ => rfl) (fun _ _ _ => rfl) ?_ ?_ _ _ _ rfl rfl ?_
  · intro j env σ n hj h1 h2 ⟨h3, h4⟩
    simp only [vl_tmp] at h2
    have hx : (lst o)[j]? = some (lst o)[j] := List.getElem?_eq_getElem hj
    by_cases h97 : j ≤ 96
    · have hd : decide ((j : Int) ≤ 96) = true := by simp; omega
      generalize hv3 : env 3 = v3 at h4
      have hmin : (if (5 : Int) < ((lst (lst o)[j].v).length : Int) then 5 else ((lst (lst o)[j].v).length : Int)) = ((min (lst (lst o)[j].v).length 5 : Nat) : Int) := by split <;> omega
      have hsub : lst (sub (lst o)[j].v 0 (min (lst (lst o)[j].v).length 5)) = (lst (lst o)[j].v).take 5 := by
        rw [lst_sub, List.drop_zero, Nat.min_comm, ← List.take_take, List.take_length]
      have hlim : (((lst (lst o)[j].v).take 5).map i32V).length * 4 ≤ LIM := by unfold LIM; simp; omega
      simp +contextual -implicitDefEqProofs (maxSteps := 2000000) only [↓wP, wQ, wQ1, wQ2, wQ3, wR, boxE, partsOf, ↓reduceIte, Nat.reduceEqDiff, Nat.reduceAdd, Nat.reduceSub, Nat.reduceLeDiff, Nat.reduceLT, Nat.reduceMul, reduceCtorEq, Int.reduceBNe, Int.reduceBEq, Int.reduceLT, Int.reduceLE, Int.reduceGT, h1, h2, h3, hv3, hx, hd, verV, hmin, Nat.min_le_left, hsub, hlim]
      refine stepW_app (us := [verV (fewV (lst o)[j])]) h4 (fun i hi => ?_) (by omega) (FzL.one (FzE.agg ?_ ?_)) ?_ (fun v' σ' n' hb hn' _ => ?_)
      · have a1 : i ≠ n := by omega
        have a2 : i ≠ n + 1 := by omega
        have a3 : i ≠ n + 2 := by omega
        have a4 : i ≠ n + 3 := by omega
        simp only [upd_get, a1, a2, a3, a4, if_false]
      · simp +contextual -implicitDefEqProofs (maxSteps := 2000000) only [↓wP, wQ, wQ1, wQ2, wQ3, wR, boxE, partsOf, ↓reduceIte, Nat.reduceEqDiff, Nat.reduceAdd, Nat.reduceSub, Nat.reduceLeDiff, Nat.reduceLT, Nat.reduceMul, reduceCtorEq, Int.reduceBNe, Int.reduceBEq, Int.reduceLT, Int.reduceLE, Int.reduceGT, frz_rf, mapM_enc i32V (fun _ => rfl)]
        rfl
      · simp +contextual -implicitDefEqProofs (maxSteps := 2000000) only [↓wP, wQ, wQ1, wQ2, wQ3, wR, boxE, partsOf, ↓reduceIte, Nat.reduceEqDiff, Nat.reduceAdd, Nat.reduceSub, Nat.reduceLeDiff, Nat.reduceLT, Nat.reduceMul, reduceCtorEq, Int.reduceBNe, Int.reduceBEq, Int.reduceLT, Int.reduceLE, Int.reduceGT, List.mem_cons, forall_eq_or_imp, rch_rf, Option.getD_some, rch_enc i32V (fun x c hc => by simp [i32V, V.cells] at hc; subst hc; rfl), List.not_mem_nil, false_implies, implies_true, or_false, forall_eq]
        omega
      · rw [lst_map, lst_opt]; unfold LIM; simp; omega
      · simp +contextual -implicitDefEqProofs (maxSteps := 2000000) only [↓wP, wQ, wQ1, wQ2, wQ3, wR, boxE, partsOf, ↓reduceIte, Nat.reduceEqDiff, Nat.reduceAdd, Nat.reduceSub, Nat.reduceLeDiff, Nat.reduceLT, Nat.reduceMul, reduceCtorEq, Int.reduceBNe, Int.reduceBEq, Int.reduceLT, Int.reduceLE, Int.reduceGT, h1, h2, h3]
        have e1 : min j 97 = j := by omega
        have e2 : min (j + 1) 97 = j + 1 := by omega
        rw [e1] at hb
        rw [e2, ← List.take_append_getElem hj, List.map_append, List.map_cons, List.map_nil, opt_snoc, appO_map]
        exact hb
    · have hd : decide ((j : Int) ≤ 96) = false := by simp; omega
      simp +contextual -implicitDefEqProofs (maxSteps := 2000000) only [↓wP, wQ, wQ1, wQ2, wQ3, wR, boxE, partsOf, ↓reduceIte, Nat.reduceEqDiff, Nat.reduceAdd, Nat.reduceSub, Nat.reduceLeDiff, Nat.reduceLT, Nat.reduceMul, reduceCtorEq, Int.reduceBNe, Int.reduceBEq, Int.reduceLT, Int.reduceLE, Int.reduceGT, h1, h2, h3, hx, hd, verV]
      have e1 : min (j + 1) 97 = min j 97 := by omega
      rw [e1]
      exact h4.loc (fun i hi => by have : i ≠ n := by omega
                                   simp [upd, this]) (by omega)
  · intro env σ n ⟨h3, h4⟩ h1 h2
    simp +contextual -implicitDefEqProofs (maxSteps := 2000000) only [↓wP, wQ, wQ1, wQ2, wQ3, wR, boxE, partsOf, ↓reduceIte, Nat.reduceEqDiff, Nat.reduceAdd, Nat.reduceSub, Nat.reduceLeDiff, Nat.reduceLT, Nat.reduceMul, reduceCtorEq, Int.reduceBNe, Int.reduceBEq, Int.reduceLT, Int.reduceLE, Int.reduceGT]
    rw [h4.frz, slV_map, fewO]
    have e1 : (lst o).take (min (lst o).length 97) = (lst o).take 97 := by rw [Nat.min_comm, ← List.take_take, List.take_length]
    rw [e1]
  · exact ⟨rfl, by simp [opt, Bld]; rfl⟩

theorem f10 (o : Option (List Ver)) (hs : Sm o) (fs : Bool) (σ : Sto) (n lk : Nat) : callE T fs 10 [slV 3 verV o] σ n lk = some (slV 3 verV (fewO o), σ, n) :=
  callE_tr (by decide) (r10 o hs) (by simp [Tr, Tr_slV]) (Nw_slV 3 verV _ 11) fs σ n lk

def u64V (x : Int) : V := .int .u64 x
def tms (t : Int) : List Int := if 0 < t then [IntKind.u64.wrap (t - 1), t, IntKind.u64.wrap (t + 1)] else []
def timL (l : List Ver) : List Int := [0, 1, 1099511627776] ++ l.flatMap fun v => tms v.b ++ tms v.e

theorem timL_len (l : List Ver) : (timL l).length ≤ 3 + 6 * l.length := by
  have h : ∀ t, (tms t).length ≤ 3 := fun t => by unfold tms; split <;> simp
  unfold timL
  induction l with
  | nil => simp
  | cons v l ih =>
    have := h v.b
    have := h v.e
    simp only [List.flatMap_cons, List.length_append, List.length_cons, List.length_nil] at ih ⊢
    omega

theorem timL_snoc (l : List Ver) (x : Ver) : timL (l ++ [x]) = timL l ++ (tms x.b ++ tms x.e) := by
  simp [timL, List.flatMap_append]

theorem r12 (o : Option (List Ver)) (hl : (lst o).length ≤ 97) : res T 12 [slV 3 verV o] = some (.own 1 ((timL (lst o)).map u64V)) := by
  refine run_res (run_own (fn := g12) rfl rfl (by decide) ?_)
  simp only [g12, b12]
  simp +contextual -implicitDefEqProofs (maxSteps := 2000000) only [↓wP, wQ, wQ1, wQ2, wQ3, wR, boxE, partsOf, ↓reduceIte, Nat.reduceEqDiff, Nat.reduceAdd, Nat.reduceSub, Nat.reduceLeDiff, Nat.reduceLT, Nat.reduceMul, reduceCtorEq, Int.reduceBNe, Int.reduceBEq, Int.reduceLT, Int.reduceLE, Int.reduceGT]
  refine WC_for (lst o).length 0 (fun (j : Nat) env σ n => env 9 = slV 3 verV o ∧ Rw σ n 1 (env 3) ((timL ((lst o).take j)).map u64V))
    (by omega) (by decide) (by decide) (fun _ _ => rfl) (fun _ _ _ => rfl) ?_ ?_ _ _ _ rfl rfl ?_
  · intro j env σ n hj h1 h2 ⟨h3, h4⟩
    simp only [vl_tmp] at h2
    have hx : (lst o)[j]? = some (lst o)[j] := List.getElem?_eq_getElem hj
    generalize hv3 : env 3 = v3 at h4
    have hlen := timL_len ((lst o).take j)
    rw [List.length_take] at hlen
    simp +contextual -implicitDefEqProofs (maxSteps := 2000000) only [↓wP, wQ, wQ1, wQ2, wQ3, wR, boxE, partsOf, ↓reduceIte, Nat.reduceEqDiff, Nat.reduceAdd, Nat.reduceSub, Nat.reduceLeDiff, Nat.reduceLT, Nat.reduceMul, reduceCtorEq, Int.reduceBNe, Int.reduceBEq, Int.reduceLT, Int.reduceLE, Int.reduceGT, h1, h2, h3, hv3, hx, verV]
    refine WC_for 2 0 (fun (k : Nat) env σ n => env 9 = slV 3 verV o ∧ env 11 = .int .i64 (j : Int) ∧ env 10 = .int .i64 ((lst o).length : Int) ∧ env 19 = .agg [.int .u64 (lst o)[j].b, .int .u64 (lst o)[j].e] ∧
        Rw σ n 1 (env 3) ((timL ((lst o).take j) ++ (if k = 0 then [] else tms (lst o)[j].b) ++ (if k = 2 then tms (lst o)[j].e else [])).map u64V))
      (by omega) (by decide) (by decide) (fun _ _ => rfl) (fun _ _ _ => rfl) ?_ ?_ _ _ _ rfl rfl ?_
    · clear h1 h2 h3 h4 hv3
      intro k env σ n hk k1 k2 ⟨k3, k4, k5, k6, k7⟩
      generalize hv3 : env 3 = v3 at k7
      have hk' : k = 0 ∨ k = 1 := by omega
      have hbl : (tms (lst o)[j].b).length ≤ 3 := by unfold tms; split <;> simp
      have hmin : min j (lst o).length ≤ 96 := by omega
      rcases hk' with rfl | rfl
      all_goals
        simp +contextual -implicitDefEqProofs (maxSteps := 2000000) only [↓wP, wQ, wQ1, wQ2, wQ3, wR, boxE, partsOf, ↓reduceIte, Nat.reduceEqDiff, Nat.reduceAdd, Nat.reduceSub, Nat.reduceLeDiff, Nat.reduceLT, Nat.reduceMul, reduceCtorEq, Int.reduceBNe, Int.reduceBEq, Int.reduceLT, Int.reduceLE, Int.reduceGT, k1, k2, k3, k4, k5, k6, hv3, idxAE_nat]
        refine condC_split (fun hb => ?_) (fun hb => ?_)
        · have hb' := of_decide_eq_true hb
          simp +contextual -implicitDefEqProofs (maxSteps := 2000000) only [↓wP, wQ, wQ1, wQ2, wQ3, wR, boxE, partsOf, ↓reduceIte, Nat.reduceEqDiff, Nat.reduceAdd, Nat.reduceSub, Nat.reduceLeDiff, Nat.reduceLT, Nat.reduceMul, reduceCtorEq, Int.reduceBNe, Int.reduceBEq, Int.reduceLT, Int.reduceLE, Int.reduceGT, k1, k2, k3, k4, k5, k6, hv3]
          refine stepW_appR k7 (fun i hi => ?_) (by omega) ?_ (fun v' σ' n' hw hn' _ => ?_)
          · have a1 : i ≠ n := by omega
            simp only [upd_get, a1, if_false]
          · unfold LIM; simp; omega
          · simp +contextual -implicitDefEqProofs (maxSteps := 2000000) only [↓wP, wQ, wQ1, wQ2, wQ3, wR, boxE, partsOf, ↓reduceIte, Nat.reduceEqDiff, Nat.reduceAdd, Nat.reduceSub, Nat.reduceLeDiff, Nat.reduceLT, Nat.reduceMul, reduceCtorEq, Int.reduceBNe, Int.reduceBEq, Int.reduceLT, Int.reduceLE, Int.reduceGT, k1, k2, k3, k4, k5, k6]
            simpa [tms, hb', u64V, List.map_append] using hw
        · have hb' := of_decide_eq_false hb
          simp +contextual -implicitDefEqProofs (maxSteps := 2000000) only [↓wP, wQ, wQ1, wQ2, wQ3, wR, boxE, partsOf, ↓reduceIte, Nat.reduceEqDiff, Nat.reduceAdd, Nat.reduceSub, Nat.reduceLeDiff, Nat.reduceLT, Nat.reduceMul, reduceCtorEq, Int.reduceBNe, Int.reduceBEq, Int.reduceLT, Int.reduceLE, Int.reduceGT, k1, k2, k3, k4, k5, k6, hv3]
          simpa [tms, hb', u64V, List.map_append] using k7
    · clear h1 h2 h3 h4 hv3
      intro env σ n ⟨k3, k4, k5, k6, k7⟩ k1 k2
      simp +contextual -implicitDefEqProofs (maxSteps := 2000000) only [↓wP, wQ, wQ1, wQ2, wQ3, wR, boxE, partsOf, ↓reduceIte, Nat.reduceEqDiff, Nat.reduceAdd, Nat.reduceSub, Nat.reduceLeDiff, Nat.reduceLT, Nat.reduceMul, reduceCtorEq, Int.reduceBNe, Int.reduceBEq, Int.reduceLT, Int.reduceLE, Int.reduceGT, k3, k4, k5]
      rw [← List.take_append_getElem hj]
      rw [timL_snoc]
      simpa [List.map_append] using k7
    · simp +contextual -implicitDefEqProofs (maxSteps := 2000000) only [↓wP, wQ, wQ1, wQ2, wQ3, wR, boxE, partsOf, ↓reduceIte, Nat.reduceEqDiff, Nat.reduceAdd, Nat.reduceSub, Nat.reduceLeDiff, Nat.reduceLT, Nat.reduceMul, reduceCtorEq, Int.reduceBNe, Int.reduceBEq, Int.reduceLT, Int.reduceLE, Int.reduceGT, h1, h2, h3, hv3]
      refine h4.loc (fun i hi => ?_) (by omega)
      have a1 : i ≠ n := by omega
      simp only [upd_get, a1, if_false]
  · intro env σ n ⟨h3, h4⟩ h1 h2
    simp +contextual -implicitDefEqProofs (maxSteps := 2000000) only [↓wP, wQ, wQ1, wQ2, wQ3, wR, boxE, partsOf, ↓reduceIte, Nat.reduceEqDiff, Nat.reduceAdd, Nat.reduceSub, Nat.reduceLeDiff, Nat.reduceLT, Nat.reduceMul, reduceCtorEq, Int.reduceBNe, Int.reduceBEq, Int.reduceLT, Int.reduceLE, Int.reduceGT]
    rw [List.take_length] at h4
    exact h4.giv (fun x hx => by obtain ⟨t, -, rfl⟩ := List.mem_map.1 hx; rfl) (fun x hx cs => by obtain ⟨t, -, rfl⟩ := List.mem_map.1 hx; simp [u64V])
  · refine ⟨rfl, 0, rfl, ?_, by omega⟩
    simp [timL, upd]; exact ⟨rfl, rfl, rfl⟩

theorem f12 (o : Option (List Ver)) (hl : (lst o).length ≤ 97) (fs : Bool) (σ : Sto) (n lk : Nat) :
    callE T fs 12 [slV 3 verV o] σ n lk = some (.ref n 0 ((timL (lst o)).map u64V).length 1, upd σ n (some (.row 1 ((timL (lst o)).map u64V))), n + 1) :=
  callE_own (by decide) (r12 o hl) (by simp [Tr, Tr_slV]) (fun x hx => by obtain ⟨t, -, rfl⟩ := List.mem_map.1 hx; rfl) fs σ n lk

end Go.Q.S4
end

section
/- The arguments of seat 08's statements, as trees. -/
set_option linter.unusedSimpArgs false
set_option linter.unusedVariables false
namespace Go.Q.S4
open Go.Q Go.Proofs

def eU64 : Enc Try.prog 29 Int := Enc.int .u64 Try.underlying29
def eI32 : Enc Try.prog 21 Int := Enc.int .i32 Try.underlying21
def eVec : Enc Try.prog 32 (Option (List Int)) := Enc.slice eI32 Try.underlying32 1 (by kernel_rfl) (by decide) 4 (by kernel_rfl)
def eU64s : Enc Try.prog 23 (Option (List Int)) := Enc.slice eU64 Try.underlying23 1 (by kernel_rfl) (by decide) 8 (by kernel_rfl)

def WfU (x : Int) : Prop := 0 ≤ x ∧ x < 18446744073709551616
def WfI32 (x : Int) : Prop := -2147483648 ≤ x ∧ x < 2147483648
def OkVec (o : Option (List Int)) : Prop := (lst o).length ≤ maxLen ∧ (lst o).length * 4 ≤ reachBytes ∧ ∀ b ∈ lst o, WfI32 b
def OkVer (x : Ver) : Prop := WfU x.b ∧ WfU x.e ∧ OkVec x.v

theorem wf_u64 {x : Int} (h : (Lit.int .u64 x).wf = true) : WfU x := by
  simp [Lit.wf, IntKind.min, IntKind.max, IntKind.signed, IntKind.bits] at h
  unfold WfU; omega
theorem wf_i32 {x : Int} (h : (Lit.int .i32 x).wf = true) : WfI32 x := by
  simp [Lit.wf, IntKind.min, IntKind.max, IntKind.signed, IntKind.bits] at h
  unfold WfI32; omega

theorem okVec {o : Option (List Int)} (h : eVec.ok o) : OkVec o := by
  cases o with
  | none => exact ⟨by simp [lst], by simp [lst], by simp [lst]⟩
  | some l =>
    obtain ⟨h1, h2, h3⟩ := h l rfl
    exact ⟨h1, h2, fun b hb => wf_i32 (h3 b hb)⟩

def eVer : Enc Try.prog 34 Ver := Enc.map
  (Enc.struct (EncF.cons (off := 0) (sz := 1) eU64 rfl (by kernel_rfl) (EncF.cons (sz := 1) eU64 rfl (by kernel_rfl) (EncF.cons (sz := 1) eVec rfl (by kernel_rfl) EncF.nil))) Try.underlying34 (by kernel_rfl))
  (fun x => ⟨x.1, x.2.1, x.2.2.1⟩) verV OkVer
  (fun a _ => by
    obtain ⟨b, e, v, u⟩ := a
    cases v <;> rfl)
  (fun a h => ⟨wf_u64 h.1, wf_u64 h.2.1, okVec h.2.2.1⟩)
def eChain : Enc Try.prog 22 (Option (List Ver)) := Enc.slice eVer Try.underlying22 3 (by kernel_rfl) (by decide) 40 (by kernel_rfl)

def OkChain (o : Option (List Ver)) : Prop := (lst o).length ≤ maxLen ∧ (lst o).length * 40 ≤ reachBytes ∧ ∀ b ∈ lst o, OkVer b
def OkU64s (o : Option (List Int)) : Prop := (lst o).length ≤ maxLen ∧ (lst o).length * 8 ≤ reachBytes ∧ ∀ b ∈ lst o, WfU b

theorem okChain {o : Option (List Ver)} (h : eChain.ok o) : OkChain o := by
  cases o with
  | none => exact ⟨by simp [lst], by simp [lst], by simp [lst]⟩
  | some l => exact h l rfl
theorem okU64s {o : Option (List Int)} (h : eU64s.ok o) : OkU64s o := by
  cases o with
  | none => exact ⟨by simp [lst], by simp [lst], by simp [lst]⟩
  | some l =>
    obtain ⟨h1, h2, h3⟩ := h l rfl
    exact ⟨h1, h2, fun b hb => wf_u64 (h3 b hb)⟩
theorem smChain {o : Option (List Ver)} (h : OkChain o) : Sm o := by
  refine ⟨by have := h.1; unfold maxLen at this; omega, fun x hx => ?_⟩
  have := (h.2.2 x hx).2.2.1
  unfold maxLen at this; omega

def eChains : Enc Try.prog 50 (Option (List (Option (List Ver)))) := Enc.slice eChain Try.underlying50 1 (by kernel_rfl) (by decide) 24 (by kernel_rfl)
theorem okChains {o : Option (List (Option (List Ver)))} (h : eChains.ok o) : (lst o).length < 9223372036854775808 ∧ ∀ x ∈ lst o, OkChain x := by
  cases o with
  | none => exact ⟨by simp [lst], by simp [lst]⟩
  | some l =>
    obtain ⟨h1, h2, h3⟩ := h l rfl
    exact ⟨by rw [lst_some]; unfold maxLen at h1; omega, fun b hb => okChain (h3 b hb)⟩
theorem smU64s {o : Option (List Int)} (h : OkU64s o) : (lst o).length < 9223372036854775808 := by
  have := h.1; unfold maxLen at this; omega

/-- Two floors. -/
def eFloors : Enc Try.prog 53 (Int × Int) := Enc.map (Enc.array eU64 2 Try.underlying53 1 (by kernel_rfl) (by kernel_rfl)) (fun l => (l[0]?.getD 0, l[1]?.getD 0)) (fun x => .agg [.int .u64 x.1, .int .u64 x.2]) (fun _ => True)
  (fun l h => by
    obtain ⟨h1, -⟩ := h
    match l, h1 with
    | [a, b], _ => rfl) (fun _ _ => trivial)

def eInt : Enc Try.prog 3 Int := Enc.int .i64 Try.underlying3
def WfI (x : Int) : Prop := -9223372036854775808 ≤ x ∧ x < 9223372036854775808
theorem wf_i64 {x : Int} (h : (Lit.int .i64 x).wf = true) : WfI x := by
  simp [Lit.wf, IntKind.min, IntKind.max, IntKind.signed, IntKind.bits] at h
  unfold WfI; omega
def OkOp (x : OpV) : Prop := WfI x.k ∧ WfU x.ts ∧ OkVec x.v
def eBool : Enc Try.prog 4 Bool := Enc.bool Try.underlying4
def eOp : Enc Try.prog 38 OpV := Enc.map
  (Enc.struct (EncF.cons (off := 0) (sz := 1) eInt rfl (by kernel_rfl) (EncF.cons (sz := 1) eU64 rfl (by kernel_rfl) (EncF.cons (sz := 1) eBool rfl (by kernel_rfl) (EncF.cons (sz := 1) eVec rfl (by kernel_rfl) EncF.nil)))) Try.underlying38 (by kernel_rfl))
  (fun x => ⟨x.1, x.2.1, x.2.2.1, x.2.2.2.1⟩) opV OkOp
  (fun a _ => by
    obtain ⟨b, e, w, v, u⟩ := a
    cases v <;> rfl)
  (fun a h => ⟨wf_i64 h.1, wf_u64 h.2.1, okVec h.2.2.2.1⟩)

def eOps : Enc Try.prog 36 (Option (List OpV)) := Enc.slice eOp Try.underlying36 4 (by kernel_rfl) (by decide) 48 (by kernel_rfl)
theorem okOps {o : Option (List OpV)} (h : eOps.ok o) : (lst o).length < 9223372036854775808 ∧ ∀ x ∈ lst o, (lst x.v).length < 9223372036854775808 := by
  cases o with
  | none => exact ⟨by simp [lst], by simp [lst]⟩
  | some l =>
    obtain ⟨h1, h2, h3⟩ := h l rfl
    refine ⟨by rw [lst_some]; unfold maxLen at h1; omega, fun b hb => ?_⟩
    have := (h3 b hb).2.2.1
    unfold maxLen at this; omega

end Go.Q.S4
end

section
/- More functions of seat 08: equality, what may be, last traces. -/
set_option linter.unusedSimpArgs false
set_option linter.unusedVariables false
namespace Go.Q.S4
open Go.Q

theorem eq_drop {α : Type} [BEq α] {a b : List α} {j : Nat} (ha : j < a.length) (hb : j < b.length) : (a.drop j == b.drop j) = (a[j] == b[j] && a.drop (j + 1) == b.drop (j + 1)) := by
  rw [List.drop_eq_getElem_cons ha, List.drop_eq_getElem_cons hb]
  rfl

theorem eq_len {α : Type} [BEq α] : ∀ {a b : List α}, a.length ≠ b.length → (a == b) = false
  | [], [], h => absurd rfl h
  | [], _ :: _, _ => rfl
  | _ :: _, [], _ => rfl
  | x :: a, y :: b, h => by
    show (x == y && a == b) = false
    rw [eq_len (a := a) (b := b) (by simpa using h)]
    simp

theorem r38 (a b : Option (List Int)) (ha : (lst a).length < 9223372036854775808) : res T 38 [slV 1 i32V a, slV 1 i32V b] = some (.bool (lst a == lst b)) := by
  refine run_res (run_pure (fn := g38) rfl rfl (by decide) ?_)
  simp only [g38, b38]
  simp +contextual -implicitDefEqProofs (maxSteps := 2000000) only [↓wP, wQ, wQ1, wQ2, wQ3, wR, boxE, partsOf, ↓reduceIte, Nat.reduceEqDiff, Nat.reduceAdd, Nat.reduceSub, Nat.reduceLeDiff, Nat.reduceLT, Nat.reduceMul, reduceCtorEq, Int.reduceBNe, Int.reduceBEq, Int.reduceLT, Int.reduceLE, Int.reduceGT]
  by_cases hl : (lst a).length = (lst b).length
  · have hd : (((lst a).length : Int) != ((lst b).length : Int)) = false := by simp [hl]
    simp +contextual -implicitDefEqProofs (maxSteps := 2000000) only [↓wP, wQ, wQ1, wQ2, wQ3, wR, boxE, partsOf, ↓reduceIte, Nat.reduceEqDiff, Nat.reduceAdd, Nat.reduceSub, Nat.reduceLeDiff, Nat.reduceLT, Nat.reduceMul, reduceCtorEq, Int.reduceBNe, Int.reduceBEq, Int.reduceLT, Int.reduceLE, Int.reduceGT, hd]
    refine WC_for (lst a).length 0 (fun (j : Nat) env _ _ => env 0 = slV 1 i32V a ∧ env 1 = slV 1 i32V b ∧ (lst a == lst b) = ((lst a).drop j == (lst b).drop j)) (by omega) (by decide) (by decide) (fun _ _ => rfl) (fun _ _ _ => rfl) ?_ ?_ _ _ _ rfl rfl ?_
    · intro j env σ n hj h1 h2 ⟨h3, h4, h5⟩
      simp only [vl_tmp] at h2
      have hjb : j < (lst b).length := by omega
      have hx : (lst a)[j]? = some (lst a)[j] := List.getElem?_eq_getElem hj
      have hy : (lst b)[j]? = some (lst b)[j] := List.getElem?_eq_getElem hjb
      rw [eq_drop hj hjb] at h5
      simp +contextual -implicitDefEqProofs (maxSteps := 2000000) only [↓wP, wQ, wQ1, wQ2, wQ3, wR, boxE, partsOf, ↓reduceIte, Nat.reduceEqDiff, Nat.reduceAdd, Nat.reduceSub, Nat.reduceLeDiff, Nat.reduceLT, Nat.reduceMul, reduceCtorEq, Int.reduceBNe, Int.reduceBEq, Int.reduceLT, Int.reduceLE, Int.reduceGT, h1, h2, h3, h4, hx, hy, i32V]
      refine condC_split (fun hb => ?_) (fun hb => ?_)
      · have e1 : ((lst a)[j] == (lst b)[j]) = false := by simpa using hb
        rw [e1, Bool.false_and] at h5
        simp +contextual -implicitDefEqProofs (maxSteps := 2000000) only [↓wP, wQ, wQ1, wQ2, wQ3, wR, boxE, partsOf, ↓reduceIte, Nat.reduceEqDiff, Nat.reduceAdd, Nat.reduceSub, Nat.reduceLeDiff, Nat.reduceLT, Nat.reduceMul, reduceCtorEq, Int.reduceBNe, Int.reduceBEq, Int.reduceLT, Int.reduceLE, Int.reduceGT, h5]
      · have e1 : ((lst a)[j] == (lst b)[j]) = true := by simpa using hb
        rw [e1, Bool.true_and] at h5
        simp +contextual -implicitDefEqProofs (maxSteps := 2000000) only [↓wP, wQ, wQ1, wQ2, wQ3, wR, boxE, partsOf, ↓reduceIte, Nat.reduceEqDiff, Nat.reduceAdd, Nat.reduceSub, Nat.reduceLeDiff, Nat.reduceLT, Nat.reduceMul, reduceCtorEq, Int.reduceBNe, Int.reduceBEq, Int.reduceLT, Int.reduceLE, Int.reduceGT, h1, h2, h3, h4, h5]
    · intro env σ n ⟨h3, h4, h5⟩ h1 h2
      have e : (lst b).drop (lst a).length = [] := by rw [hl, List.drop_length]
      rw [List.drop_length, e] at h5
      simp +contextual -implicitDefEqProofs (maxSteps := 2000000) only [↓wP, wQ, wQ1, wQ2, wQ3, wR, boxE, partsOf, ↓reduceIte, Nat.reduceEqDiff, Nat.reduceAdd, Nat.reduceSub, Nat.reduceLeDiff, Nat.reduceLT, Nat.reduceMul, reduceCtorEq, Int.reduceBNe, Int.reduceBEq, Int.reduceLT, Int.reduceLE, Int.reduceGT, h5]
    · exact ⟨rfl, rfl, by simp⟩
  · have hd : (((lst a).length : Int) != ((lst b).length : Int)) = true := by simp; omega
    have h5 := eq_len (a := lst a) (b := lst b) hl
    simp +contextual -implicitDefEqProofs (maxSteps := 2000000) only [↓wP, wQ, wQ1, wQ2, wQ3, wR, boxE, partsOf, ↓reduceIte, Nat.reduceEqDiff, Nat.reduceAdd, Nat.reduceSub, Nat.reduceLeDiff, Nat.reduceLT, Nat.reduceMul, reduceCtorEq, Int.reduceBNe, Int.reduceBEq, Int.reduceLT, Int.reduceLE, Int.reduceGT, hd, h5]

theorem f38 (a b : Option (List Int)) (ha : (lst a).length < 9223372036854775808) (fs : Bool) (σ : Sto) (n lk : Nat) : callE T fs 38 [slV 1 i32V a, slV 1 i32V b] σ n lk = some (.bool (lst a == lst b), σ, n) :=
  callE_tr (by decide) (r38 a b ha) (by simp [Tr, Tr_slV]) rfl fs σ n lk

theorem r19 (a b : Option (List Int)) (ha : (lst a).length < 9223372036854775808) : res T 19 [slV 1 i32V a, slV 1 i32V b] = some (.bool (lst a == lst b)) := by
  refine run_res (run_pure (fn := g19) rfl rfl (by decide) ?_)
  simp only [g19, b19]
  have h := f38 a b ha
  simp +contextual -implicitDefEqProofs (maxSteps := 2000000) only [↓wP, wQ, wQ1, wQ2, wQ3, wR, boxE, partsOf, ↓reduceIte, Nat.reduceEqDiff, Nat.reduceAdd, Nat.reduceSub, Nat.reduceLeDiff, Nat.reduceLT, Nat.reduceMul, reduceCtorEq, Int.reduceBNe, Int.reduceBEq, Int.reduceLT, Int.reduceLE, Int.reduceGT, h]

theorem f19 (a b : Option (List Int)) (ha : (lst a).length < 9223372036854775808) (fs : Bool) (σ : Sto) (n lk : Nat) : callE T fs 19 [slV 1 i32V a, slV 1 i32V b] σ n lk = some (.bool (lst a == lst b), σ, n) :=
  callE_tr (by decide) (r19 a b ha) (by simp [Tr, Tr_slV]) rfl fs σ n lk

theorem r37 (a b : Option (List Int)) (ha : (lst a).length < 9223372036854775808) : res T 37 [slV 1 i32V a, slV 1 i32V b] = some (.bool (lst a == lst b)) := by
  refine run_res (run_pure (fn := g37) rfl rfl (by decide) ?_)
  simp only [g37, b37]
  simp +contextual -implicitDefEqProofs (maxSteps := 2000000) only [↓wP, wQ, wQ1, wQ2, wQ3, wR, boxE, partsOf, ↓reduceIte, Nat.reduceEqDiff, Nat.reduceAdd, Nat.reduceSub, Nat.reduceLeDiff, Nat.reduceLT, Nat.reduceMul, reduceCtorEq, Int.reduceBNe, Int.reduceBEq, Int.reduceLT, Int.reduceLE, Int.reduceGT]
  by_cases hl : (lst a).length = (lst b).length
  · have hd : (((lst a).length : Int) != ((lst b).length : Int)) = false := by simp [hl]
    simp +contextual -implicitDefEqProofs (maxSteps := 2000000) only [↓wP, wQ, wQ1, wQ2, wQ3, wR, boxE, partsOf, ↓reduceIte, Nat.reduceEqDiff, Nat.reduceAdd, Nat.reduceSub, Nat.reduceLeDiff, Nat.reduceLT, Nat.reduceMul, reduceCtorEq, Int.reduceBNe, Int.reduceBEq, Int.reduceLT, Int.reduceLE, Int.reduceGT, hd]
    refine WC_loopI 0 (fun (j : Nat) env _ _ => j ≤ (lst a).length ∧ env 5 = .int .i64 (j : Int) ∧ env 0 = slV 1 i32V a ∧ env 1 = slV 1 i32V b ∧ (lst a == lst b) = ((lst a).drop j == (lst b).drop j))
      (fun j => (lst a).length - j) ?_ 0 _ _ _ ⟨Nat.zero_le _, rfl, rfl, rfl, by simp⟩
    intro j env σ n ⟨h0, h1, h3, h4, h5⟩
    by_cases hj : j < (lst a).length
    · have hd : decide ((j : Int) < ((lst a).length : Int)) = true := by simp [hj]
      have hw : IntKind.i64.wrap ((j : Int) + 1) = ((j + 1 : Nat) : Int) := by rw [wrap_i64] <;> omega
      have hjb : j < (lst b).length := by omega
      have hx : (lst a)[j]? = some (lst a)[j] := List.getElem?_eq_getElem hj
      have hy : (lst b)[j]? = some (lst b)[j] := List.getElem?_eq_getElem hjb
      rw [eq_drop hj hjb] at h5
      simp +contextual -implicitDefEqProofs (maxSteps := 2000000) only [↓wP, wQ, wQ1, wQ2, wQ3, wR, boxE, partsOf, ↓reduceIte, Nat.reduceEqDiff, Nat.reduceAdd, Nat.reduceSub, Nat.reduceLeDiff, Nat.reduceLT, Nat.reduceMul, reduceCtorEq, Int.reduceBNe, Int.reduceBEq, Int.reduceLT, Int.reduceLE, Int.reduceGT, h1, h3, h4, hx, hy, i32V, hd]
      refine condC_split (fun hb => ?_) (fun hb => ?_)
      · have e1 : ((lst a)[j] == (lst b)[j]) = false := by simpa using hb
        rw [e1, Bool.false_and] at h5
        simp +contextual -implicitDefEqProofs (maxSteps := 2000000) only [↓wP, wQ, wQ1, wQ2, wQ3, wR, boxE, partsOf, ↓reduceIte, Nat.reduceEqDiff, Nat.reduceAdd, Nat.reduceSub, Nat.reduceLeDiff, Nat.reduceLT, Nat.reduceMul, reduceCtorEq, Int.reduceBNe, Int.reduceBEq, Int.reduceLT, Int.reduceLE, Int.reduceGT, h5]
      · have e1 : ((lst a)[j] == (lst b)[j]) = true := by simpa using hb
        rw [e1, Bool.true_and] at h5
        simp +contextual -implicitDefEqProofs (maxSteps := 2000000) only [↓wP, wQ, wQ1, wQ2, wQ3, wR, boxE, partsOf, ↓reduceIte, Nat.reduceEqDiff, Nat.reduceAdd, Nat.reduceSub, Nat.reduceLeDiff, Nat.reduceLT, Nat.reduceMul, reduceCtorEq, Int.reduceBNe, Int.reduceBEq, Int.reduceLT, Int.reduceLE, Int.reduceGT, h1, h3, h4, hw]
        exact ⟨j + 1, by omega, by omega, rfl, h5⟩
    · have hd : decide ((j : Int) < ((lst a).length : Int)) = false := by simp; omega
      have e1 : (lst a).drop j = [] := by rw [List.drop_eq_nil_iff]; omega
      have e2 : (lst b).drop j = [] := by rw [List.drop_eq_nil_iff]; omega
      rw [e1, e2] at h5
      simp +contextual -implicitDefEqProofs (maxSteps := 2000000) only [↓wP, wQ, wQ1, wQ2, wQ3, wR, boxE, partsOf, ↓reduceIte, Nat.reduceEqDiff, Nat.reduceAdd, Nat.reduceSub, Nat.reduceLeDiff, Nat.reduceLT, Nat.reduceMul, reduceCtorEq, Int.reduceBNe, Int.reduceBEq, Int.reduceLT, Int.reduceLE, Int.reduceGT, h1, h3, h4, hd, h5]
  · have hd : (((lst a).length : Int) != ((lst b).length : Int)) = true := by simp; omega
    have h5 := eq_len (a := lst a) (b := lst b) hl
    simp +contextual -implicitDefEqProofs (maxSteps := 2000000) only [↓wP, wQ, wQ1, wQ2, wQ3, wR, boxE, partsOf, ↓reduceIte, Nat.reduceEqDiff, Nat.reduceAdd, Nat.reduceSub, Nat.reduceLeDiff, Nat.reduceLT, Nat.reduceMul, reduceCtorEq, Int.reduceBNe, Int.reduceBEq, Int.reduceLT, Int.reduceLE, Int.reduceGT, hd, h5]

theorem f37 (a b : Option (List Int)) (ha : (lst a).length < 9223372036854775808) (fs : Bool) (σ : Sto) (n lk : Nat) : callE T fs 37 [slV 1 i32V a, slV 1 i32V b] σ n lk = some (.bool (lst a == lst b), σ, n) :=
  callE_tr (by decide) (r37 a b ha) (by simp [Tr, Tr_slV]) rfl fs σ n lk

theorem r40 (a : Option (List Int)) (ha : (lst a).length < 9223372036854775808) : res T 40 [slV 1 i32V a] = some (.bool (okV a)) := by
  refine run_res (run_pure (fn := g40) rfl rfl (by decide) ?_)
  simp only [g40, b40]
  simp +contextual -implicitDefEqProofs (maxSteps := 2000000) only [↓wP, wQ, wQ1, wQ2, wQ3, wR, boxE, partsOf, ↓reduceIte, Nat.reduceEqDiff, Nat.reduceAdd, Nat.reduceSub, Nat.reduceLeDiff, Nat.reduceLT, Nat.reduceMul, reduceCtorEq, Int.reduceBNe, Int.reduceBEq, Int.reduceLT, Int.reduceLE, Int.reduceGT]
  refine WC_loopI 0 (fun (j : Nat) env _ _ => j ≤ (lst a).length ∧ env 3 = .int .i64 (j : Int) ∧ env 0 = slV 1 i32V a ∧ (lst a).all okI = ((lst a).drop j).all okI)
    (fun j => (lst a).length - j) ?_ 0 _ _ _ ⟨Nat.zero_le _, rfl, rfl, by simp⟩
  intro j env σ n ⟨h0, h1, h3, h5⟩
  by_cases hj : j < (lst a).length
  · have hd : decide ((j : Int) < ((lst a).length : Int)) = true := by simp [hj]
    have hw : IntKind.i64.wrap ((j : Int) + 1) = ((j + 1 : Nat) : Int) := by rw [wrap_i64] <;> omega
    have hx : (lst a)[j]? = some (lst a)[j] := List.getElem?_eq_getElem hj
    rw [List.drop_eq_getElem_cons hj, List.all_cons] at h5
    simp +contextual -implicitDefEqProofs (maxSteps := 2000000) only [↓wP, wQ, wQ1, wQ2, wQ3, wR, boxE, partsOf, ↓reduceIte, Nat.reduceEqDiff, Nat.reduceAdd, Nat.reduceSub, Nat.reduceLeDiff, Nat.reduceLT, Nat.reduceMul, reduceCtorEq, Int.reduceBNe, Int.reduceBEq, Int.reduceLT, Int.reduceLE, Int.reduceGT, h1, h3, hx, i32V, hd]
    refine condC_split (fun hb => ?_) (fun hb => ?_)
    · have e1 : okI (lst a)[j] = false := by simp [okI] at hb ⊢; omega
      rw [e1, Bool.false_and] at h5
      have h6 : okV a = false := by simp [okV, h5]
      simp +contextual -implicitDefEqProofs (maxSteps := 2000000) only [↓wP, wQ, wQ1, wQ2, wQ3, wR, boxE, partsOf, ↓reduceIte, Nat.reduceEqDiff, Nat.reduceAdd, Nat.reduceSub, Nat.reduceLeDiff, Nat.reduceLT, Nat.reduceMul, reduceCtorEq, Int.reduceBNe, Int.reduceBEq, Int.reduceLT, Int.reduceLE, Int.reduceGT, h6]
    · have e1 : okI (lst a)[j] = true := by simp [okI] at hb ⊢; omega
      rw [e1, Bool.true_and] at h5
      simp +contextual -implicitDefEqProofs (maxSteps := 2000000) only [↓wP, wQ, wQ1, wQ2, wQ3, wR, boxE, partsOf, ↓reduceIte, Nat.reduceEqDiff, Nat.reduceAdd, Nat.reduceSub, Nat.reduceLeDiff, Nat.reduceLT, Nat.reduceMul, reduceCtorEq, Int.reduceBNe, Int.reduceBEq, Int.reduceLT, Int.reduceLE, Int.reduceGT, h1, h3, hw]
      exact ⟨j + 1, by omega, by omega, rfl, h5⟩
  · have hd : decide ((j : Int) < ((lst a).length : Int)) = false := by simp; omega
    have e1 : (lst a).drop j = [] := by rw [List.drop_eq_nil_iff]; omega
    rw [e1, List.all_nil] at h5
    have h6 : okV a = (decide (1 ≤ ((lst a).length : Int)) && decide (((lst a).length : Int) ≤ 4)) := by
      unfold okV
      rw [h5, Bool.and_true]
      congr 1 <;> exact decide_eq_decide.2 (by omega)
    simp +contextual -implicitDefEqProofs (maxSteps := 2000000) only [↓wP, wQ, wQ1, wQ2, wQ3, wR, boxE, partsOf, ↓reduceIte, Nat.reduceEqDiff, Nat.reduceAdd, Nat.reduceSub, Nat.reduceLeDiff, Nat.reduceLT, Nat.reduceMul, reduceCtorEq, Int.reduceBNe, Int.reduceBEq, Int.reduceLT, Int.reduceLE, Int.reduceGT, h1, h3, hd, h6]

theorem f40 (a : Option (List Int)) (ha : (lst a).length < 9223372036854775808) (fs : Bool) (σ : Sto) (n lk : Nat) : callE T fs 40 [slV 1 i32V a] σ n lk = some (.bool (okV a), σ, n) :=
  callE_tr (by decide) (r40 a ha) (by simp [Tr, Tr_slV]) rfl fs σ n lk

def verEq (x y : Ver) : Bool := x.b == y.b && x.e == y.e && lst x.v == lst y.v
instance : BEq Ver := ⟨verEq⟩
theorem ver_beq (x y : Ver) : (x == y) = (x.b == y.b && x.e == y.e && lst x.v == lst y.v) := rfl

def mx (x y : Int) : Int := if x < y then y else x
theorem mx_fold (x y : Int) : (if x < y then y else x) = mx x y := rfl

theorem r17 (a b : Option (List Ver)) (ha : Sm a) : res T 17 [slV 3 verV a, slV 3 verV b] = some (.bool (lst a == lst b)) := by
  refine run_res (run_pure (fn := g17) rfl rfl (by decide) ?_)
  simp only [g17, b17]
  simp +contextual -implicitDefEqProofs (maxSteps := 2000000) only [↓wP, wQ, wQ1, wQ2, wQ3, wR, boxE, partsOf, ↓reduceIte, Nat.reduceEqDiff, Nat.reduceAdd, Nat.reduceSub, Nat.reduceLeDiff, Nat.reduceLT, Nat.reduceMul, reduceCtorEq, Int.reduceBNe, Int.reduceBEq, Int.reduceLT, Int.reduceLE, Int.reduceGT]
  by_cases hl : (lst a).length = (lst b).length
  · have hd : (((lst a).length : Int) != ((lst b).length : Int)) = false := by simp [hl]
    simp +contextual -implicitDefEqProofs (maxSteps := 2000000) only [↓wP, wQ, wQ1, wQ2, wQ3, wR, boxE, partsOf, ↓reduceIte, Nat.reduceEqDiff, Nat.reduceAdd, Nat.reduceSub, Nat.reduceLeDiff, Nat.reduceLT, Nat.reduceMul, reduceCtorEq, Int.reduceBNe, Int.reduceBEq, Int.reduceLT, Int.reduceLE, Int.reduceGT, hd]
    refine WC_for (lst a).length 0 (fun (j : Nat) env _ _ => env 0 = slV 3 verV a ∧ env 1 = slV 3 verV b ∧ (lst a == lst b) = ((lst a).drop j == (lst b).drop j))
      (by have := ha.1; omega) (by decide) (by decide) (fun _ _ => rfl) (fun _ _ _ => rfl) ?_ ?_ _ _ _ rfl rfl ?_
    · intro j env σ n hj h1 h2 ⟨h3, h4, h5⟩
      simp only [vl_tmp] at h2
      have hjb : j < (lst b).length := by omega
      have hx : (lst a)[j]? = some (lst a)[j] := List.getElem?_eq_getElem hj
      have hy : (lst b)[j]? = some (lst b)[j] := List.getElem?_eq_getElem hjb
      have h37 := f37 (lst a)[j].v (lst b)[j].v (ha.2 _ (List.getElem_mem hj))
      rw [eq_drop hj hjb] at h5
      simp +contextual -implicitDefEqProofs (maxSteps := 2000000) only [↓wP, wQ, wQ1, wQ2, wQ3, wR, boxE, partsOf, ↓reduceIte, Nat.reduceEqDiff, Nat.reduceAdd, Nat.reduceSub, Nat.reduceLeDiff, Nat.reduceLT, Nat.reduceMul, reduceCtorEq, Int.reduceBNe, Int.reduceBEq, Int.reduceLT, Int.reduceLE, Int.reduceGT, h1, h2, h3, h4, hx, hy, verV, h37]
      refine condC_split (fun hb => ?_) (fun hb => ?_)
      · have e1 : ((lst a)[j] == (lst b)[j]) = false := by
          rw [ver_beq]
          simp only [bne] at hb
          revert hb
          generalize ((lst a)[j].b == (lst b)[j].b) = p
          generalize ((lst a)[j].e == (lst b)[j].e) = q
          generalize (lst (lst a)[j].v == lst (lst b)[j].v) = r
          cases p <;> cases q <;> cases r <;> simp
        rw [e1, Bool.false_and] at h5
        simp +contextual -implicitDefEqProofs (maxSteps := 2000000) only [↓wP, wQ, wQ1, wQ2, wQ3, wR, boxE, partsOf, ↓reduceIte, Nat.reduceEqDiff, Nat.reduceAdd, Nat.reduceSub, Nat.reduceLeDiff, Nat.reduceLT, Nat.reduceMul, reduceCtorEq, Int.reduceBNe, Int.reduceBEq, Int.reduceLT, Int.reduceLE, Int.reduceGT, h5]
      · have e1 : ((lst a)[j] == (lst b)[j]) = true := by
          rw [ver_beq]
          simp only [bne] at hb
          revert hb
          generalize ((lst a)[j].b == (lst b)[j].b) = p
          generalize ((lst a)[j].e == (lst b)[j].e) = q
          generalize (lst (lst a)[j].v == lst (lst b)[j].v) = r
          cases p <;> cases q <;> cases r <;> simp
        rw [e1, Bool.true_and] at h5
        simp +contextual -implicitDefEqProofs (maxSteps := 2000000) only [↓wP, wQ, wQ1, wQ2, wQ3, wR, boxE, partsOf, ↓reduceIte, Nat.reduceEqDiff, Nat.reduceAdd, Nat.reduceSub, Nat.reduceLeDiff, Nat.reduceLT, Nat.reduceMul, reduceCtorEq, Int.reduceBNe, Int.reduceBEq, Int.reduceLT, Int.reduceLE, Int.reduceGT, h1, h2, h3, h4, h5]
    · intro env σ n ⟨h3, h4, h5⟩ h1 h2
      have e : (lst b).drop (lst a).length = [] := by rw [hl, List.drop_length]
      rw [List.drop_length, e] at h5
      simp +contextual -implicitDefEqProofs (maxSteps := 2000000) only [↓wP, wQ, wQ1, wQ2, wQ3, wR, boxE, partsOf, ↓reduceIte, Nat.reduceEqDiff, Nat.reduceAdd, Nat.reduceSub, Nat.reduceLeDiff, Nat.reduceLT, Nat.reduceMul, reduceCtorEq, Int.reduceBNe, Int.reduceBEq, Int.reduceLT, Int.reduceLE, Int.reduceGT, h5]
      rfl
    · exact ⟨rfl, rfl, by simp⟩
  · have hd : (((lst a).length : Int) != ((lst b).length : Int)) = true := by simp; omega
    have h5 := eq_len (a := lst a) (b := lst b) hl
    simp +contextual -implicitDefEqProofs (maxSteps := 2000000) only [↓wP, wQ, wQ1, wQ2, wQ3, wR, boxE, partsOf, ↓reduceIte, Nat.reduceEqDiff, Nat.reduceAdd, Nat.reduceSub, Nat.reduceLeDiff, Nat.reduceLT, Nat.reduceMul, reduceCtorEq, Int.reduceBNe, Int.reduceBEq, Int.reduceLT, Int.reduceLE, Int.reduceGT, hd, h5]

theorem f17 (a b : Option (List Ver)) (ha : Sm a) (fs : Bool) (σ : Sto) (n lk : Nat) : callE T fs 17 [slV 3 verV a, slV 3 verV b] σ n lk = some (.bool (lst a == lst b), σ, n) :=
  callE_tr (by decide) (r17 a b ha) (by simp [Tr, Tr_slV]) rfl fs σ n lk

theorem r42 (b e : Int) (v : Option (List Int)) (b' e' : Int) (v' : Option (List Int)) (hv : (lst v).length < 9223372036854775808) : res T 42 [.agg [.int .u64 b, .int .u64 e, slV 1 i32V v], .agg [.int .u64 b', .int .u64 e', slV 1 i32V v']] = some (.bool (verEq ⟨b, e, v⟩ ⟨b', e', v'⟩)) := by
  refine run_res (run_pure (fn := g42) rfl rfl (by decide) ?_)
  simp only [g42, b42]
  have h := f19 v v' hv
  simp +contextual -implicitDefEqProofs (maxSteps := 2000000) only [↓wP, wQ, wQ1, wQ2, wQ3, wR, boxE, partsOf, ↓reduceIte, Nat.reduceEqDiff, Nat.reduceAdd, Nat.reduceSub, Nat.reduceLeDiff, Nat.reduceLT, Nat.reduceMul, reduceCtorEq, Int.reduceBNe, Int.reduceBEq, Int.reduceLT, Int.reduceLE, Int.reduceGT, h]
  rfl

theorem f42 (b e : Int) (v : Option (List Int)) (b' e' : Int) (v' : Option (List Int)) (hv : (lst v).length < 9223372036854775808) (fs : Bool) (σ : Sto) (n lk : Nat) : callE T fs 42 [.agg [.int .u64 b, .int .u64 e, slV 1 i32V v], .agg [.int .u64 b', .int .u64 e', slV 1 i32V v']] σ n lk = some (.bool (verEq ⟨b, e, v⟩ ⟨b', e', v'⟩), σ, n) :=
  callE_tr (by decide) (r42 b e v b' e' v' hv) (by simp [Tr, Tr_slV]) rfl fs σ n lk

theorem r41 (a b : Option (List Ver)) (ha : Sm a) : res T 41 [slV 3 verV a, slV 3 verV b, .fn 42 []] = some (.bool (lst a == lst b)) := by
  refine run_res (run_pure (fn := g41) rfl rfl (by decide) ?_)
  simp only [g41, b41]
  simp +contextual -implicitDefEqProofs (maxSteps := 2000000) only [↓wP, wQ, wQ1, wQ2, wQ3, wR, boxE, partsOf, ↓reduceIte, Nat.reduceEqDiff, Nat.reduceAdd, Nat.reduceSub, Nat.reduceLeDiff, Nat.reduceLT, Nat.reduceMul, reduceCtorEq, Int.reduceBNe, Int.reduceBEq, Int.reduceLT, Int.reduceLE, Int.reduceGT]
  by_cases hl : (lst a).length = (lst b).length
  · have hd : (((lst a).length : Int) != ((lst b).length : Int)) = false := by simp [hl]
    simp +contextual -implicitDefEqProofs (maxSteps := 2000000) only [↓wP, wQ, wQ1, wQ2, wQ3, wR, boxE, partsOf, ↓reduceIte, Nat.reduceEqDiff, Nat.reduceAdd, Nat.reduceSub, Nat.reduceLeDiff, Nat.reduceLT, Nat.reduceMul, reduceCtorEq, Int.reduceBNe, Int.reduceBEq, Int.reduceLT, Int.reduceLE, Int.reduceGT, hd]
    refine WC_for (lst a).length 0 (fun (j : Nat) env _ _ => env 15 = slV 3 verV a ∧ env 1 = slV 3 verV b ∧ env 2 = .fn 42 [] ∧ (lst a == lst b) = ((lst a).drop j == (lst b).drop j))
      (by have := ha.1; omega) (by decide) (by decide) (fun _ _ => rfl) (fun _ _ _ => rfl) ?_ ?_ _ _ _ rfl rfl ?_
    · intro j env σ n hj h1 h2 ⟨h3, h4, h6, h5⟩
      simp only [vl_tmp] at h2
      have hjb : j < (lst b).length := by omega
      have hx : (lst a)[j]? = some (lst a)[j] := List.getElem?_eq_getElem hj
      have hy : (lst b)[j]? = some (lst b)[j] := List.getElem?_eq_getElem hjb
      have h42 := f42 (lst a)[j].b (lst a)[j].e (lst a)[j].v (lst b)[j].b (lst b)[j].e (lst b)[j].v (ha.2 _ (List.getElem_mem hj))
      rw [eq_drop hj hjb] at h5
      have he : verEq ⟨(lst a)[j].b, (lst a)[j].e, (lst a)[j].v⟩ ⟨(lst b)[j].b, (lst b)[j].e, (lst b)[j].v⟩ = ((lst a)[j] == (lst b)[j]) := rfl
      rw [he] at h42
      simp +contextual -implicitDefEqProofs (maxSteps := 2000000) only [↓wP, wQ, wQ1, wQ2, wQ3, wR, boxE, partsOf, ↓reduceIte, Nat.reduceEqDiff, Nat.reduceAdd, Nat.reduceSub, Nat.reduceLeDiff, Nat.reduceLT, Nat.reduceMul, reduceCtorEq, Int.reduceBNe, Int.reduceBEq, Int.reduceLT, Int.reduceLE, Int.reduceGT, h1, h2, h3, h4, h6, hx, hy, verV, h42]
      refine condC_split (fun hb => ?_) (fun hb => ?_)
      · have e1 : ((lst a)[j] == (lst b)[j]) = false := by simpa using hb
        rw [e1, Bool.false_and] at h5
        simp +contextual -implicitDefEqProofs (maxSteps := 2000000) only [↓wP, wQ, wQ1, wQ2, wQ3, wR, boxE, partsOf, ↓reduceIte, Nat.reduceEqDiff, Nat.reduceAdd, Nat.reduceSub, Nat.reduceLeDiff, Nat.reduceLT, Nat.reduceMul, reduceCtorEq, Int.reduceBNe, Int.reduceBEq, Int.reduceLT, Int.reduceLE, Int.reduceGT, h5]
      · have e1 : ((lst a)[j] == (lst b)[j]) = true := by simpa using hb
        rw [e1, Bool.true_and] at h5
        simp +contextual -implicitDefEqProofs (maxSteps := 2000000) only [↓wP, wQ, wQ1, wQ2, wQ3, wR, boxE, partsOf, ↓reduceIte, Nat.reduceEqDiff, Nat.reduceAdd, Nat.reduceSub, Nat.reduceLeDiff, Nat.reduceLT, Nat.reduceMul, reduceCtorEq, Int.reduceBNe, Int.reduceBEq, Int.reduceLT, Int.reduceLE, Int.reduceGT, h1, h2, h3, h4, h5, h6]
    · intro env σ n ⟨h3, h4, h6, h5⟩ h1 h2
      have e : (lst b).drop (lst a).length = [] := by rw [hl, List.drop_length]
      rw [List.drop_length, e] at h5
      simp +contextual -implicitDefEqProofs (maxSteps := 2000000) only [↓wP, wQ, wQ1, wQ2, wQ3, wR, boxE, partsOf, ↓reduceIte, Nat.reduceEqDiff, Nat.reduceAdd, Nat.reduceSub, Nat.reduceLeDiff, Nat.reduceLT, Nat.reduceMul, reduceCtorEq, Int.reduceBNe, Int.reduceBEq, Int.reduceLT, Int.reduceLE, Int.reduceGT, h5]
      rfl
    · exact ⟨rfl, rfl, rfl, by simp⟩
  · have hd : (((lst a).length : Int) != ((lst b).length : Int)) = true := by simp; omega
    have h5 := eq_len (a := lst a) (b := lst b) hl
    simp +contextual -implicitDefEqProofs (maxSteps := 2000000) only [↓wP, wQ, wQ1, wQ2, wQ3, wR, boxE, partsOf, ↓reduceIte, Nat.reduceEqDiff, Nat.reduceAdd, Nat.reduceSub, Nat.reduceLeDiff, Nat.reduceLT, Nat.reduceMul, reduceCtorEq, Int.reduceBNe, Int.reduceBEq, Int.reduceLT, Int.reduceLE, Int.reduceGT, hd, h5]

theorem f41 (a b : Option (List Ver)) (ha : Sm a) (fs : Bool) (σ : Sto) (n lk : Nat) : callE T fs 41 [slV 3 verV a, slV 3 verV b, .fn 42 []] σ n lk = some (.bool (lst a == lst b), σ, n) :=
  callE_tr (by decide) (r41 a b ha) (by simp [Tr, Tr_slV]) rfl fs σ n lk

theorem r24 (a b : Option (List Ver)) (ha : Sm a) : res T 24 [slV 3 verV a, slV 3 verV b] = some (.bool (lst a == lst b)) := by
  refine run_res (run_pure (fn := g24) rfl rfl (by decide) ?_)
  simp only [g24, b24]
  have h := f41 a b ha
  simp +contextual -implicitDefEqProofs (maxSteps := 2000000) only [↓wP, wQ, wQ1, wQ2, wQ3, wR, boxE, partsOf, ↓reduceIte, Nat.reduceEqDiff, Nat.reduceAdd, Nat.reduceSub, Nat.reduceLeDiff, Nat.reduceLT, Nat.reduceMul, reduceCtorEq, Int.reduceBNe, Int.reduceBEq, Int.reduceLT, Int.reduceLE, Int.reduceGT, h]

theorem f24 (a b : Option (List Ver)) (ha : Sm a) (fs : Bool) (σ : Sto) (n lk : Nat) : callE T fs 24 [slV 3 verV a, slV 3 verV b] σ n lk = some (.bool (lst a == lst b), σ, n) :=
  callE_tr (by decide) (r24 a b ha) (by simp [Tr, Tr_slV]) rfl fs σ n lk

def lastR (l : List Ver) : Int := l.foldl (fun n v => mx (mx n v.b) v.e) 0
def lastC (l : List Ver) : Int := match l.getLast? with
  | some v => mx v.b v.e
  | none => 0

theorem r25 (o : Option (List Ver)) (hs : Sm o) : res T 25 [slV 3 verV o] = some (.int .u64 (lastR (lst o))) := by
  refine run_res (run_pure (fn := g25) rfl rfl (by decide) ?_)
  simp only [g25, b25]
  simp +contextual -implicitDefEqProofs (maxSteps := 2000000) only [↓wP, wQ, wQ1, wQ2, wQ3, wR, boxE, partsOf, ↓reduceIte, Nat.reduceEqDiff, Nat.reduceAdd, Nat.reduceSub, Nat.reduceLeDiff, Nat.reduceLT, Nat.reduceMul, reduceCtorEq, Int.reduceBNe, Int.reduceBEq, Int.reduceLT, Int.reduceLE, Int.reduceGT]
  refine WC_for (lst o).length 0 (fun (j : Nat) env _ _ => env 6 = slV 3 verV o ∧ env 3 = .int .u64 (lastR ((lst o).take j)))
    (by have := hs.1; omega) (by decide) (by decide) (fun _ _ => rfl) (fun _ _ _ => rfl) ?_ ?_ _ _ _ rfl rfl ?_
  · intro j env σ n hj h1 h2 ⟨h3, h4⟩
    simp only [vl_tmp] at h2
    have hx : (lst o)[j]? = some (lst o)[j] := List.getElem?_eq_getElem hj
    have hn : lastR ((lst o).take (j + 1)) = mx (mx (lastR ((lst o).take j)) (lst o)[j].b) (lst o)[j].e := by
      unfold lastR
      rw [← List.take_append_getElem hj, List.foldl_append]
      rfl
    simp +contextual -implicitDefEqProofs (maxSteps := 2000000) only [↓wP, wQ, wQ1, wQ2, wQ3, wR, boxE, partsOf, ↓reduceIte, Nat.reduceEqDiff, Nat.reduceAdd, Nat.reduceSub, Nat.reduceLeDiff, Nat.reduceLT, Nat.reduceMul, reduceCtorEq, Int.reduceBNe, Int.reduceBEq, Int.reduceLT, Int.reduceLE, Int.reduceGT, h1, h2, h3, h4, hx, verV, mx_fold, hn]
  · intro env σ n ⟨h3, h4⟩ h1 h2
    rw [List.take_length] at h4
    simp +contextual -implicitDefEqProofs (maxSteps := 2000000) only [↓wP, wQ, wQ1, wQ2, wQ3, wR, boxE, partsOf, ↓reduceIte, Nat.reduceEqDiff, Nat.reduceAdd, Nat.reduceSub, Nat.reduceLeDiff, Nat.reduceLT, Nat.reduceMul, reduceCtorEq, Int.reduceBNe, Int.reduceBEq, Int.reduceLT, Int.reduceLE, Int.reduceGT, h4]
  · exact ⟨rfl, rfl⟩

theorem f25 (o : Option (List Ver)) (hs : Sm o) (fs : Bool) (σ : Sto) (n lk : Nat) : callE T fs 25 [slV 3 verV o] σ n lk = some (.int .u64 (lastR (lst o)), σ, n) :=
  callE_tr (by decide) (r25 o hs) (by simp [Tr, Tr_slV]) rfl fs σ n lk

theorem r43 (b e : Int) (v : Option (List Int)) (t : Int) : res T 43 [.agg [.int .u64 b, .int .u64 e, slV 1 i32V v], .int .u64 t] = some (.bool (vis ⟨b, e, v⟩ t)) := by
  refine run_res (run_pure (fn := g43) rfl rfl (by decide) ?_)
  simp only [g43, b43]
  simp +contextual -implicitDefEqProofs (maxSteps := 2000000) only [↓wP, wQ, wQ1, wQ2, wQ3, wR, boxE, partsOf, ↓reduceIte, Nat.reduceEqDiff, Nat.reduceAdd, Nat.reduceSub, Nat.reduceLeDiff, Nat.reduceLT, Nat.reduceMul, reduceCtorEq, Int.reduceBNe, Int.reduceBEq, Int.reduceLT, Int.reduceLE, Int.reduceGT]
  rfl

theorem f43 (b e : Int) (v : Option (List Int)) (t : Int) (fs : Bool) (σ : Sto) (n lk : Nat) : callE T fs 43 [.agg [.int .u64 b, .int .u64 e, slV 1 i32V v], .int .u64 t] σ n lk = some (.bool (vis ⟨b, e, v⟩ t), σ, n) :=
  callE_tr (by decide) (r43 b e v t) (by simp [Tr, Tr_slV]) rfl fs σ n lk

theorem r26 (o : Option (List Ver)) (t : Int) (hs : Sm o) : res T 26 [slV 3 verV o, .int .u64 t] = some (.tup [.int .i64 (if 0 ≤ posV o t then posV o t else 0), .bool (decide (0 ≤ posV o t))]) := by
  refine run_res (run_pure (fn := g26) rfl rfl (by decide) ?_)
  simp only [g26, b26]
  simp +contextual -implicitDefEqProofs (maxSteps := 2000000) only [↓wP, wQ, wQ1, wQ2, wQ3, wR, boxE, partsOf, ↓reduceIte, Nat.reduceEqDiff, Nat.reduceAdd, Nat.reduceSub, Nat.reduceLeDiff, Nat.reduceLT, Nat.reduceMul, reduceCtorEq, Int.reduceBNe, Int.reduceBEq, Int.reduceLT, Int.reduceLE, Int.reduceGT]
  refine WC_for (lst o).length 0 (fun (j : Nat) env _ _ => env 8 = slV 3 verV o ∧ env 1 = .int .u64 t ∧ (lst o).findIdx? (fun x => vis x t) = (((lst o).drop j).findIdx? (fun x => vis x t)).map (· + j))
    (by have := hs.1; omega) (by decide) (by decide) (fun _ _ => rfl) (fun _ _ _ => rfl) ?_ ?_ _ _ _ rfl rfl ?_
  · intro j env σ n hj h1 h2 ⟨h3, h4, h5⟩
    simp only [vl_tmp] at h2
    have hx : (lst o)[j]? = some (lst o)[j] := List.getElem?_eq_getElem hj
    have h43 := f43 (lst o)[j].b (lst o)[j].e (lst o)[j].v t
    rw [List.drop_eq_getElem_cons hj, List.findIdx?_cons] at h5
    simp +contextual -implicitDefEqProofs (maxSteps := 2000000) only [↓wP, wQ, wQ1, wQ2, wQ3, wR, boxE, partsOf, ↓reduceIte, Nat.reduceEqDiff, Nat.reduceAdd, Nat.reduceSub, Nat.reduceLeDiff, Nat.reduceLT, Nat.reduceMul, reduceCtorEq, Int.reduceBNe, Int.reduceBEq, Int.reduceLT, Int.reduceLE, Int.reduceGT, h1, h2, h3, h4, hx, verV, h43]
    refine condC_split (fun hb => ?_) (fun hb => ?_)
    · have hb : vis (lst o)[j] t = true := hb
      have hp : posV o t = (j : Int) := by simp [posV, idxF, h5, hb]
      have h0 : (0 : Int) ≤ (j : Int) := by omega
      simp +contextual -implicitDefEqProofs (maxSteps := 2000000) only [↓wP, wQ, wQ1, wQ2, wQ3, wR, boxE, partsOf, ↓reduceIte, Nat.reduceEqDiff, Nat.reduceAdd, Nat.reduceSub, Nat.reduceLeDiff, Nat.reduceLT, Nat.reduceMul, reduceCtorEq, Int.reduceBNe, Int.reduceBEq, Int.reduceLT, Int.reduceLE, Int.reduceGT, hp, h0]
    · have hb : vis (lst o)[j] t = false := hb
      simp +contextual -implicitDefEqProofs (maxSteps := 2000000) only [↓wP, wQ, wQ1, wQ2, wQ3, wR, boxE, partsOf, ↓reduceIte, Nat.reduceEqDiff, Nat.reduceAdd, Nat.reduceSub, Nat.reduceLeDiff, Nat.reduceLT, Nat.reduceMul, reduceCtorEq, Int.reduceBNe, Int.reduceBEq, Int.reduceLT, Int.reduceLE, Int.reduceGT, h1, h2, h3, h4]
      rw [h5, hb]
      simp only [Bool.false_eq_true, if_false, Option.map_map, Function.comp_def]
      congr 1; funext i; omega
  · intro env σ n ⟨h3, h4, h5⟩ h1 h2
    have hp : posV o t = -1 := by simp [posV, idxF, h5]
    have h0 : ¬ (0 : Int) ≤ -1 := by omega
    simp +contextual -implicitDefEqProofs (maxSteps := 2000000) only [↓wP, wQ, wQ1, wQ2, wQ3, wR, boxE, partsOf, ↓reduceIte, Nat.reduceEqDiff, Nat.reduceAdd, Nat.reduceSub, Nat.reduceLeDiff, Nat.reduceLT, Nat.reduceMul, reduceCtorEq, Int.reduceBNe, Int.reduceBEq, Int.reduceLT, Int.reduceLE, Int.reduceGT, hp, h0]
  · exact ⟨rfl, rfl, by simp⟩

theorem f26 (o : Option (List Ver)) (t : Int) (hs : Sm o) (fs : Bool) (σ : Sto) (n lk : Nat) : callE T fs 26 [slV 3 verV o, .int .u64 t] σ n lk = some (.tup [.int .i64 (if 0 ≤ posV o t then posV o t else 0), .bool (decide (0 ≤ posV o t))], σ, n) :=
  callE_tr (by decide) (r26 o t hs) (by simp [Tr, Tr_slV]) rfl fs σ n lk

theorem r39 (o : Option (List Ver)) (hs : Sm o) : res T 39 [slV 3 verV o] = some (.int .u64 (lastC (lst o))) := by
  refine run_res (run_pure (fn := g39) rfl rfl (by decide) ?_)
  simp only [g39, b39]
  simp +contextual -implicitDefEqProofs (maxSteps := 2000000) only [↓wP, wQ, wQ1, wQ2, wQ3, wR, boxE, partsOf, ↓reduceIte, Nat.reduceEqDiff, Nat.reduceAdd, Nat.reduceSub, Nat.reduceLeDiff, Nat.reduceLT, Nat.reduceMul, reduceCtorEq, Int.reduceBNe, Int.reduceBEq, Int.reduceLT, Int.reduceLE, Int.reduceGT]
  by_cases h0 : (lst o).length = 0
  · have e : lst o = [] := List.length_eq_zero_iff.1 h0
    have hl : lastC (lst o) = 0 := by rw [e]; rfl
    have hd : (((lst o).length : Int) == 0) = true := by simpa using h0
    simp +contextual -implicitDefEqProofs (maxSteps := 2000000) only [↓wP, wQ, wQ1, wQ2, wQ3, wR, boxE, partsOf, ↓reduceIte, Nat.reduceEqDiff, Nat.reduceAdd, Nat.reduceSub, Nat.reduceLeDiff, Nat.reduceLT, Nat.reduceMul, reduceCtorEq, Int.reduceBNe, Int.reduceBEq, Int.reduceLT, Int.reduceLE, Int.reduceGT, hd, hl]
  · have hd : (((lst o).length : Int) == 0) = false := by simpa using h0
    have hw : IntKind.i64.wrap (((lst o).length : Int) - 1) = (((lst o).length - 1 : Nat) : Int) := by have := hs.1; rw [wrap_i64] <;> omega
    have hx : (lst o)[(lst o).length - 1]? = some (lst o)[(lst o).length - 1] := List.getElem?_eq_getElem (by omega)
    have hl : lastC (lst o) = mx (lst o)[(lst o).length - 1].b (lst o)[(lst o).length - 1].e := by
      unfold lastC
      rw [List.getLast?_eq_getElem?, hx]
    simp +contextual -implicitDefEqProofs (maxSteps := 2000000) only [↓wP, wQ, wQ1, wQ2, wQ3, wR, boxE, partsOf, ↓reduceIte, Nat.reduceEqDiff, Nat.reduceAdd, Nat.reduceSub, Nat.reduceLeDiff, Nat.reduceLT, Nat.reduceMul, reduceCtorEq, Int.reduceBNe, Int.reduceBEq, Int.reduceLT, Int.reduceLE, Int.reduceGT, hd, hw, hx, verV, mx_fold, hl]

theorem f39 (o : Option (List Ver)) (hs : Sm o) (fs : Bool) (σ : Sto) (n lk : Nat) : callE T fs 39 [slV 3 verV o] σ n lk = some (.int .u64 (lastC (lst o)), σ, n) :=
  callE_tr (by decide) (r39 o hs) (by simp [Tr, Tr_slV]) rfl fs σ n lk

theorem r21 (o : Option (List Ver)) (hs : Sm o) : res T 21 [slV 3 verV o] = some (.int .u64 (if okC o = true then lastC (lst o) else 0)) := by
  refine run_res (run_pure (fn := g21) rfl rfl (by decide) ?_)
  simp only [g21, b21]
  have h11 := f11 o hs
  have h39 := f39 o hs
  cases hc : okC o <;> simp +contextual -implicitDefEqProofs (maxSteps := 2000000) only [↓wP, wQ, wQ1, wQ2, wQ3, wR, boxE, partsOf, ↓reduceIte, Nat.reduceEqDiff, Nat.reduceAdd, Nat.reduceSub, Nat.reduceLeDiff, Nat.reduceLT, Nat.reduceMul, reduceCtorEq, Int.reduceBNe, Int.reduceBEq, Int.reduceLT, Int.reduceLE, Int.reduceGT, h11, h39, hc]

theorem f21 (o : Option (List Ver)) (hs : Sm o) (fs : Bool) (σ : Sto) (n lk : Nat) : callE T fs 21 [slV 3 verV o] σ n lk = some (.int .u64 (if okC o = true then lastC (lst o) else 0), σ, n) :=
  callE_tr (by decide) (r21 o hs) (by simp [Tr, Tr_slV]) rfl fs σ n lk

end Go.Q.S4
end

section
/- Chains whose rows are a caller's own, vectors and all. -/
set_option linter.unusedSimpArgs false
set_option linter.unusedVariables false
namespace Go.Q.S4
open Go.Q

def vref (i : Nat) (x : Ver) : V := .ref i 0 (lst x.v).length 1
def erow (x : Ver) (i : Nat) : V := .agg [.int .u64 x.b, .int .u64 x.e, vref i x]
def vown (x : Ver) : V := .own 1 ((lst x.v).map i32V)
def ownVer (x : Ver) : V := .agg [.int .u64 x.b, .int .u64 x.e, vown x]

/-- Each vector is there. -/
def AllS (l : List Ver) : Prop := ∀ x ∈ l, x.v = some (lst x.v)

/-- The vectors' rows, one by one. -/
def Vecs (σ : Sto) (L : List Ver) (ids : List Nat) : Prop := ids.length = L.length ∧ ∀ (j : Nat) (x : Ver) (i : Nat), L[j]? = some x → ids[j]? = some i → σ i = some (.row 1 ((lst x.v).map i32V))

theorem Vecs.cons {σ : Sto} {x : Ver} {L : List Ver} {i : Nat} {ids : List Nat} : Vecs σ (x :: L) (i :: ids) ↔ σ i = some (.row 1 ((lst x.v).map i32V)) ∧ Vecs σ L ids := by
  constructor
  · rintro ⟨h1, h2⟩
    exact ⟨h2 0 x i rfl rfl, by simpa using h1, fun j y k hy hk => h2 (j + 1) y k (by simpa using hy) (by simpa using hk)⟩
  · rintro ⟨h0, h1, h2⟩
    refine ⟨by simpa using h1, fun j y k hy hk => ?_⟩
    cases j with
    | zero => simp at hy hk; subst hy; subst hk; exact h0
    | succ j => exact h2 j y k (by simpa using hy) (by simpa using hk)

theorem Vecs.loc {σ σ' : Sto} {L : List Ver} {ids : List Nat} (h : Vecs σ L ids) (hs : ∀ i ∈ ids, σ' i = σ i) : Vecs σ' L ids :=
  ⟨h.1, fun j x i hx hi => (hs i (List.mem_of_getElem? hi)).trans (h.2 j x i hx hi)⟩

theorem Vecs.append {σ : Sto} {L M : List Ver} {ids jds : List Nat} (h : Vecs σ L ids) (h' : Vecs σ M jds) : Vecs σ (L ++ M) (ids ++ jds) := by
  refine ⟨by simp [h.1, h'.1], fun j x i hx hi => ?_⟩
  rw [List.getElem?_append] at hx hi
  rw [h.1] at hi
  split at hx <;> rename_i hj
  · rw [if_pos hj] at hi; exact h.2 j x i hx hi
  · rw [if_neg hj] at hi; exact h'.2 _ x i hx hi

/-- A chain in the store. -/
def Chn (σ : Sto) (m n : Nat) (v : V) (o : Option (List Ver)) : Prop := match o with
  | none => v = .nilS
  | some L => ∃ id ids, v = .ref id 0 L.length 3 ∧ σ id = some (.row 3 (L.zipWith erow ids)) ∧ (id :: ids).Nodup ∧ (∀ i ∈ id :: ids, m ≤ i ∧ i < n) ∧ Vecs σ L ids

theorem Chn.loc {σ σ' : Sto} {m n m' n' : Nat} {v : V} {o : Option (List Ver)} (h : Chn σ m n v o) (hs : ∀ i, m ≤ i → i < n → σ' i = σ i) (hm : m' ≤ m) (hn : n ≤ n') : Chn σ' m' n' v o := by
  cases o with
  | none => exact h
  | some L =>
    obtain ⟨id, ids, rfl, h1, h2, h3, h4⟩ := h
    refine ⟨id, ids, rfl, ?_, h2, fun i hi => ⟨by have := (h3 i hi).1; omega, by have := (h3 i hi).2; omega⟩, h4.loc fun i hi => ?_⟩
    · have := h3 id (by simp)
      rw [hs id this.1 this.2, h1]
    · have := h3 i (List.mem_cons_of_mem _ hi)
      exact hs i this.1 this.2

theorem zip_len {σ : Sto} {L : List Ver} {ids : List Nat} (h : Vecs σ L ids) : (L.zipWith erow ids).length = L.length := by simp [h.1]

def ownC : Option (List Ver) → V
  | none => .nilS
  | some L => .own 3 (L.map ownVer)

theorem giv_vec {σ : Sto} {x : Ver} {i : Nat} (h : σ i = some (.row 1 ((lst x.v).map i32V))) (k : Nat) : giv σ (k + 2) (vref i x) = some (vown x) ∧ gids σ (k + 2) (vref i x) = [i] := by
  constructor
  · simp only [vref, vown, giv, h, List.length_map, and_self, if_true]
    rw [mapM_id (fun y hy => by obtain ⟨t, -, rfl⟩ := List.mem_map.1 hy; rfl)]
    rfl
  · simp only [vref, gids, h]
    rw [List.flatMap_eq_nil_iff.2 fun y hy => List.flatMap_eq_nil_iff.2 fun c hc => ?_]
    obtain ⟨t, -, rfl⟩ := List.mem_map.1 hy
    simp [i32V, V.cells] at hc
    subst hc
    rfl

theorem giv_rows {σ : Sto} (k : Nat) : ∀ {L : List Ver} {ids : List Nat}, Vecs σ L ids → (L.zipWith erow ids).mapM (elemM (giv σ (k + 2))) = some (L.map ownVer) ∧ ((L.zipWith erow ids).flatMap fun x => x.cells.flatMap (gids σ (k + 2))) = ids
  | [], [], _ => ⟨rfl, rfl⟩
  | [], _ :: _, h => by simp [Vecs] at h
  | _ :: _, [], h => by simp [Vecs] at h
  | x :: L, i :: ids, h => by
    obtain ⟨h0, h1⟩ := Vecs.cons.1 h
    obtain ⟨g1, g2⟩ := giv_vec h0 k
    obtain ⟨r1, r2⟩ := giv_rows k h1
    constructor
    · rw [List.zipWith_cons_cons, List.mapM_cons, r1]
      simp only [erow, elemM, List.mapM_cons, List.mapM_nil, g1]
      rfl
    · rw [List.zipWith_cons_cons, List.flatMap_cons, r2]
      simp only [erow, V.cells, List.flatMap_cons, List.flatMap_nil, g2]
      rfl

theorem Chn.giv {σ : Sto} {m n : Nat} {v : V} {o : Option (List Ver)} (h : Chn σ m n v o) (k : Nat) : Go.Q.giv σ (k + 3) v = some (ownC o) ∧ (gids σ (k + 3) v).Nodup ∧ ∀ i ∈ gids σ (k + 3) v, m ≤ i ∧ i < n := by
  cases o with
  | none => simp only [Chn] at h; subst h; exact ⟨rfl, by simp [gids], by simp [gids]⟩
  | some L =>
    obtain ⟨id, ids, rfl, h1, h2, h3, h4⟩ := h
    obtain ⟨r1, r2⟩ := giv_rows k h4
    have hl := zip_len h4
    have e : gids σ (k + 3) (.ref id 0 L.length 3) = id :: ids := by
      simp only [gids, h1]
      rw [r2]
    refine ⟨?_, by rw [e]; exact h2, by rw [e]; exact h3⟩
    simp only [Go.Q.giv, h1, hl, and_self, if_true, r1]
    rfl

theorem frz_vec {σ : Sto} {x : Ver} {i : Nat} (hx : x.v = some (lst x.v)) (h : σ i = some (.row 1 ((lst x.v).map i32V))) (k : Nat) : Go.Q.frz σ (k + 2) (vref i x) = some (slV 1 i32V x.v) := by
  have := (Fz.ref (k := k + 1) (S := fun _ => True) h trivial (FzL.trees (fun y hy => by obtain ⟨t, -, rfl⟩ := List.mem_map.1 hy; rfl) (fun y hy c hc => by obtain ⟨t, -, rfl⟩ := List.mem_map.1 hy; simp [i32V, V.cells] at hc; subst hc; rfl))).1
  rw [List.length_map] at this
  rw [hx]
  exact this

theorem frz_rows {σ : Sto} (k : Nat) : ∀ {L : List Ver} {ids : List Nat}, Vecs σ L ids → AllS L → (L.zipWith erow ids).mapM (elemM (Go.Q.frz σ (k + 2))) = some (L.map verV)
  | [], [], _, _ => rfl
  | [], _ :: _, h, _ => by simp [Vecs] at h
  | _ :: _, [], h, _ => by simp [Vecs] at h
  | x :: L, i :: ids, h, ha => by
    obtain ⟨h0, h1⟩ := Vecs.cons.1 h
    have g1 := frz_vec (ha x (by simp)) h0 k
    have r1 := frz_rows k h1 (fun y hy => ha y (List.mem_cons_of_mem _ hy))
    rw [List.zipWith_cons_cons, List.mapM_cons, r1]
    simp only [erow, elemM, List.mapM_cons, List.mapM_nil, g1]
    rfl

theorem Chn.frz {σ : Sto} {m n : Nat} {v : V} {o : Option (List Ver)} (h : Chn σ m n v o) (ha : AllS (lst o)) (k : Nat) : Go.Q.frz σ (k + 3) v = some (slV 3 verV o) := by
  cases o with
  | none => simp only [Chn] at h; subst h; rfl
  | some L =>
    obtain ⟨id, ids, rfl, h1, h2, h3, h4⟩ := h
    rw [frz_rf, h1, elemsO_row, if_pos (by rw [zip_len h4]; omega), List.drop_zero]
    rw [show L.length = (L.zipWith erow ids).length from (zip_len h4).symm, List.take_length, Option.bind_some, frz_rows k h4 ha]
    rfl

/-- A chain of one's own, when it has come. -/
theorem thaw_rows (σ : Sto) (m : Nat) : ∀ (L : List Ver) (σ0 : Sto) (n : Nat), m ≤ n → ∃ ids σ' n', thawL σ0 n (L.map ownVer) = (L.zipWith erow ids, σ', n') ∧ Vecs σ' L ids ∧ ids.Nodup ∧ (∀ i ∈ ids, n ≤ i ∧ i < n') ∧ n' = n + L.length ∧ ∀ i, i < n → σ' i = σ0 i
  | [], σ0, n, hm => ⟨[], σ0, n, rfl, ⟨rfl, fun j x i hx => by simp at hx⟩, by simp, by simp, rfl, fun _ _ => rfl⟩
  | x :: L, σ0, n, hm => by
    obtain ⟨ids, σ', n', h1, h2, h3, h4, h5, h6⟩ := thaw_rows σ m L (upd σ0 n (some (.row 1 ((lst x.v).map i32V)))) (n + 1) (by omega)
    refine ⟨n :: ids, σ', n', ?_, Vecs.cons.2 ⟨?_, h2⟩, List.nodup_cons.2 ⟨fun hn => by have := (h4 n hn).1; omega, h3⟩, ?_, by rw [h5, List.length_cons]; omega, fun i hi => ?_⟩
    · rw [List.map_cons, thawL_cons]
      have e : thaw σ0 n (ownVer x) = (erow x n, upd σ0 n (some (.row 1 ((lst x.v).map i32V))), n + 1) := by
        have hn : thawL σ0 n ((lst x.v).map i32V) = ((lst x.v).map i32V, σ0, n) := thawL_nw 1 (fun c hc => by obtain ⟨t, -, rfl⟩ := List.mem_map.1 hc; rfl)
        simp only [ownVer, vown, thaw_agg, thawL_cons, thawL_nil, thaw_int, thaw_own, hn, erow, vref, List.length_map]
      rw [e, h1]
      rfl
    · rw [h6 n (by omega)]; simp [upd]
    · intro i hi
      rcases List.mem_cons.1 hi with rfl | hi
      · exact ⟨Nat.le_refl _, by omega⟩
      · have := h4 i hi; omega
    · rw [h6 i (by omega)]
      have : i ≠ n := by omega
      simp [upd, this]

theorem thaw_ownC (σ : Sto) (n : Nat) (o : Option (List Ver)) : ∃ v' σ' n', thaw σ n (ownC o) = (v', σ', n') ∧ Chn σ' n n' v' o ∧ n ≤ n' ∧ ∀ i, i < n → σ' i = σ i := by
  cases o with
  | none => exact ⟨_, _, _, rfl, rfl, Nat.le_refl _, fun _ _ => rfl⟩
  | some L =>
    obtain ⟨ids, σ', n', h1, h2, h3, h4, h5, h6⟩ := thaw_rows σ n L σ n (Nat.le_refl _)
    refine ⟨.ref n' 0 L.length 3, upd σ' n' (some (.row 3 (L.zipWith erow ids))), n' + 1, ?_, ⟨n', ids, rfl, by simp [upd], List.nodup_cons.2 ⟨fun hn => by have := (h4 n' hn).2; omega, h3⟩, ?_, h2.loc fun i hi => ?_⟩, by omega, fun i hi => ?_⟩
    · simp only [ownC, thaw_own, h1, List.length_map]
    · intro i hi
      rcases List.mem_cons.1 hi with rfl | hi
      · exact ⟨by omega, by omega⟩
      · have := h4 i hi; omega
    · have := h4 i hi
      have : i ≠ n' := by omega
      simp [upd, this]
    · have : i ≠ n' := by omega
      simp [upd, this, h6 i hi]

theorem thaw_ownCn (σ : Sto) (n : Nat) (o : Option (List Ver)) : (thaw σ n (ownC o)).2.2 ≤ n + (lst o).length + 1 := by
  cases o with
  | none => simp only [ownC, thaw_nilS]; omega
  | some L =>
    obtain ⟨ids, σ', n', h1, h2, h3, h4, h5, h6⟩ := thaw_rows σ n L σ n (Nat.le_refl _)
    simp only [ownC, thaw_own, h1, lst_some]
    omega

end Go.Q.S4
end

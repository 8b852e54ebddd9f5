/- The compact code of this seat's functions, printed by a program. -/
import Derived.Test.YthlgaehihnoohaaGreatQD
import Derived.Sort.Defs
import Derived.Sort.AssemblyPlain
section
namespace Go.Q.SZ
def oO (d : Nat) (x : AI) : AOp := ⟨some d, none, x⟩
def oN (x : AI) : AOp := ⟨none, none, x⟩
def mV (d s : Nat) : AOp := ⟨some d, none, .mov (.tmp s)⟩
def lD (d s : Nat) : AOp := ⟨some d, none, .load false 1 (.tmp s)⟩
def gO (d g : Nat) (b : Bool) (x : AI) : AOp := ⟨some d, some (g, b), x⟩
def pP (x : AOp) : DOp := ⟨x, true, false, false, 0, [], none⟩
def qQ (x : AOp) : DOp := ⟨x, false, false, false, 0, [], none⟩
def cI (n : Int) : Opd := .con (.int .i64 n)
def aR (x : List AOp) (y : AC) : AC := .seq (.reg x) y
def b4 : AC :=
 (aR [oO 6 (.mov (.con (.bool false)))]
 (.seq (aR [oO 15 (.call 5 []),
 oO 16 (.un .not (.tmp 15))]
 (.cond (.tmp 16)
 (aR [oO 6 (.mov (.con (.bool false)))]
 .ret)
 .skip))
 (aR [mV 17 0,
 oO 18 (.call 14 [(.tmp 17)]),
 mV 19 1,
 oO 20 (.call 15 [(.tmp 19)]),
 mV 7 18,
 mV 8 20]
 (.seq (aR [mV 21 2,
 oO 22 (.len (.tmp 21)),
 oO 23 (.mov (cI 0))]
 (.block 0 (.loop (aR [oO 24 (.bin .lss (.tmp 23) (.tmp 22))]
 (.seq (.cond (.tmp 24)
 .skip
 (.exit 0))
 (.seq (.block 1 (aR [mV 25 23,
 oO 26 (.iaddr 4 (.tmp 21) (.tmp 23)),
 oO 27 (.load true 4 (.tmp 26)),
 oO 10 (.alloc (.agg [.nilS, (.int .i64 0), (.int .u64 0), (.int .i64 0)])),
 mV 9 25,
 oN (.store 4 (.tmp 10) (.tmp 27))]
 (.seq (aR [mV 28 9,
 oO 29 (.bin .eql (.tmp 28) (cI 8))]
 (.cond (.tmp 29)
 (.exit 0)
 .skip))
 (aR [mV 31 7,
 mV 32 8,
 oO 33 (.load true 4 (.tmp 10)),
 oO 34 (.call 8 [(.tmp 33)]),
 oO 35 (.call 16 [(.tmp 31), (.tmp 32), (.tmp 34)]),
 mV 30 35,
 oO 36 (.ext (.tmp 30) 0),
 oO 37 (.ext (.tmp 30) 1),
 mV 11 36,
 mV 12 37]
 (.seq (.regd [⟨[pP (mV 39 0),
 qQ (oO 40 (.call 14 [(.tmp 39)])),
 pP (mV 41 1),
 qQ (oO 42 (.call 15 [(.tmp 41)])),
 qQ (oO 43 (.load true 4 (.tmp 10)))], 0, [oO 44 (.call 8 [(.tmp 43)]),
 oO 45 (.call 17 [(.tmp 40), (.tmp 42), (.tmp 44)]),
 mV 38 45]⟩,
 ⟨[pP (oO 46 (.ext (.tmp 38) 0)),
 pP (oO 47 (.ext (.tmp 38) 1)),
 pP (mV 13 46)], 0, [mV 14 47]⟩])
 (aR [mV 48 12,
 mV 49 14,
 oO 50 (.bin .neq (.tmp 48) (.tmp 49)),
 mV 51 50,
 gO 52 51 false (.mov (.tmp 11)),
 gO 53 51 false (.mov (.tmp 13)),
 gO 54 51 false (.call 11 [(.tmp 52), (.tmp 53)]),
 gO 55 51 false (.un .not (.tmp 54)),
 oO 56 (.pick (.tmp 51) (.con (.bool true)) (.tmp 55))]
 (.cond (.tmp 56)
 (aR [oO 6 (.mov (.con (.bool false)))]
 .ret)
 .skip)))))))
 (.reg [oO 57 (.bin .add (.tmp 23) (cI 1)),
 mV 23 57])))))))
 (aR [oO 6 (.mov (.con (.bool true)))]
 .ret)))))
def g4 : Fn := ⟨3, 58, [.tmp 6], b4⟩
def b5 : AC :=
 (aR [oO 0 (.mov (.con (.bool false)))]
 (aR [oO 9 (.lit 1 [(.con (.int .i32 0))]),
 oO 10 (.lit 1 [(.con (.int .i32 10))]),
 oO 11 (.lit 1 [(.con (.int .i32 20))]),
 oO 12 (.lit 1 [(.tmp 9), (.tmp 10), (.tmp 11)]),
 mV 1 12]
 (aR [oO 13 (.lit 1 [(.con (.int .i32 1))]),
 oO 14 (.build [(.int .u64 0), .nilS] [(0, 1, (.con (.int .u64 1))), (1, 1, (.tmp 13))]),
 oO 15 (.lit 1 [(.con (.int .i32 9))]),
 oO 16 (.build [(.int .u64 0), .nilS] [(0, 1, (.con (.int .u64 2))), (1, 1, (.tmp 15))]),
 oO 17 (.lit 1 [(.con (.int .i32 12))]),
 oO 18 (.build [(.int .u64 0), .nilS] [(0, 1, (.con (.int .u64 3))), (1, 1, (.tmp 17))]),
 oO 19 (.lit 1 [(.con (.int .i32 22))]),
 oO 20 (.build [(.int .u64 0), .nilS] [(0, 1, (.con (.int .u64 4))), (1, 1, (.tmp 19))]),
 oO 21 (.lit 2 [(.tmp 14), (.tmp 16), (.tmp 18), (.tmp 20)]),
 mV 2 21]
 (aR [mV 23 2,
 mV 24 1,
 oO 25 (.lit 1 [(.con (.int .i32 6))]),
 oO 26 (.build [.nilS, (.int .i64 0)] [(0, 1, (.tmp 25)), (1, 1, (cI 3))]),
 oO 27 (.build [.nilS, (.int .i64 0), (.int .u64 0), (.int .i64 0)] [(0, 2, (.tmp 26)), (3, 1, (cI 1))]),
 oO 28 (.call 16 [(.tmp 23), (.tmp 24), (.tmp 27)]),
 mV 22 28,
 oO 29 (.ext (.tmp 22) 0),
 oO 30 (.ext (.tmp 22) 1),
 mV 3 29,
 mV 4 30]
 (aR [mV 32 1,
 oO 33 (.lit 1 [(.con (.int .i32 6))]),
 oO 34 (.call 18 [(.tmp 32), (.tmp 33), (cI 2)]),
 mV 31 34,
 oO 35 (.ext (.tmp 31) 0),
 oO 36 (.ext (.tmp 31) 1),
 mV 5 35,
 mV 6 36]
 (aR [mV 38 2,
 oO 39 (.lit 1 [(.con (.int .i32 6))]),
 oO 40 (.build [.nilS, (.int .i64 0)] [(0, 1, (.tmp 39)), (1, 1, (cI 3))]),
 oO 41 (.build [.nilS, (.int .i64 0), (.int .u64 0), (.int .i64 0)] [(0, 2, (.tmp 40)), (3, 1, (cI 1))]),
 oO 42 (.call 16 [(.tmp 38), (.con .nilS), (.tmp 41)]),
 mV 37 42,
 oO 43 (.ext (.tmp 37) 0),
 oO 44 (.ext (.tmp 37) 1),
 mV 7 43,
 mV 8 44]
 (aR [mV 45 4,
 oO 46 (.bin .eql (.tmp 45) (cI 0)),
 mV 47 46,
 gO 48 47 true (.mov (.tmp 6)),
 gO 49 47 true (.bin .eql (.tmp 48) (cI 0)),
 oO 50 (.pick (.tmp 47) (.tmp 49) (.con (.bool false))),
 mV 51 50,
 gO 52 51 true (.mov (.tmp 8)),
 gO 53 51 true (.bin .eql (.tmp 52) (cI 240)),
 oO 54 (.pick (.tmp 51) (.tmp 53) (.con (.bool false))),
 mV 55 54,
 gO 56 55 true (.mov (.tmp 3)),
 gO 57 55 true (.len (.tmp 56)),
 gO 58 55 true (.bin .eql (.tmp 57) (cI 2)),
 oO 59 (.pick (.tmp 55) (.tmp 58) (.con (.bool false))),
 mV 60 59,
 gO 61 60 true (.mov (.tmp 3)),
 gO 62 60 true (.iaddr 2 (.tmp 61) (cI 0)),
 gO 63 60 true (.load true 2 (.tmp 62)),
 gO 64 60 true (.build [(.int .u64 0), (.int .u64 0)] [(0, 1, (.con (.int .u64 2))), (1, 1, (.con (.int .u64 9)))]),
 gO 65 60 true (.eqA false [.int, .int] (.tmp 63) (.tmp 64)),
 oO 66 (.pick (.tmp 60) (.tmp 65) (.con (.bool false))),
 mV 67 66,
 gO 68 67 true (.mov (.tmp 5)),
 gO 69 67 true (.len (.tmp 68)),
 gO 70 67 true (.bin .eql (.tmp 69) (cI 2)),
 oO 71 (.pick (.tmp 67) (.tmp 70) (.con (.bool false))),
 mV 72 71,
 gO 73 72 true (.mov (.tmp 5)),
 gO 74 72 true (.iaddr 1 (.tmp 73) (cI 0)),
 gO 75 72 true (.load false 1 (.tmp 74)),
 gO 76 72 true (.bin .eql (.tmp 75) (cI 1)),
 oO 77 (.pick (.tmp 72) (.tmp 76) (.con (.bool false))),
 mV 0 77]
 .ret)))))))
def g5 : Fn := ⟨0, 78, [.tmp 0], b5⟩
def b8 : AC :=
 (aR [oO 1 (.box (.tmp 0)),
 oO 2 (.alloc (.agg [.nilS, (.int .i64 0), (.int .u64 0), (.int .i64 0)]))]
 (aR [oO 3 (.faddr (.tmp 1) 0),
 oO 4 (.faddr (.tmp 3) 0),
 lD 5 4,
 oO 6 (.call 19 [(.tmp 5)]),
 oO 7 (.faddr (.tmp 1) 0),
 oO 8 (.faddr (.tmp 7) 0),
 oN (.store 1 (.tmp 8) (.tmp 6))]
 (aR [oO 9 (.load true 4 (.tmp 1)),
 oN (.store 4 (.tmp 2) (.tmp 9))]
 .ret)))
def g8 : Fn := ⟨1, 10, [.cell 2 true 4], b8⟩
def b11 : AC :=
 (aR [oO 4 (.mov (.con (.bool false)))]
 (.seq (aR [mV 6 0,
 oO 7 (.len (.tmp 6)),
 mV 8 1,
 oO 9 (.len (.tmp 8)),
 oO 10 (.bin .neq (.tmp 7) (.tmp 9))]
 (.cond (.tmp 10)
 (aR [oO 4 (.mov (.con (.bool false)))]
 .ret)
 .skip))
 (.seq (aR [mV 11 0,
 oO 12 (.len (.tmp 11)),
 oO 13 (.mov (cI 0))]
 (.block 0 (.loop (aR [oO 14 (.bin .lss (.tmp 13) (.tmp 12))]
 (.seq (.cond (.tmp 14)
 .skip
 (.exit 0))
 (.seq (.block 1 (aR [mV 15 13,
 mV 5 15]
 (.seq (.regd [⟨[pP (mV 16 0),
 pP (mV 17 5),
 pP (oO 18 (.iaddr 2 (.tmp 16) (.tmp 17))),
 qQ (oO 19 (.load true 2 (.tmp 18))),
 pP (mV 20 1),
 pP (mV 21 5),
 pP (oO 22 (.iaddr 2 (.tmp 20) (.tmp 21))),
 qQ (oO 23 (.load true 2 (.tmp 22)))], 0, [oO 24 (.eqA true [.int, .int] (.tmp 19) (.tmp 23))]⟩])
 (.cond (.tmp 24)
 (aR [oO 4 (.mov (.con (.bool false)))]
 .ret)
 .skip))))
 (.reg [oO 25 (.bin .add (.tmp 13) (cI 1)),
 mV 13 25])))))))
 (aR [oO 4 (.mov (.con (.bool true)))]
 .ret))))
def g11 : Fn := ⟨2, 26, [.tmp 4], b11⟩
def b12 : AC :=
 (aR [oO 1 (.box (.tmp 0)),
 oO 2 (.mov (cI 0))]
 (.seq (aR [oO 4 (.faddr (.tmp 1) 0),
 oO 5 (.faddr (.tmp 4) 1),
 lD 6 5,
 oO 7 (.bin .lss (.tmp 6) (cI 1)),
 mV 8 7,
 gO 9 8 false (.faddr (.tmp 1) 0),
 gO 10 8 false (.faddr (.tmp 9) 1),
 gO 11 8 false (.load false 1 (.tmp 10)),
 gO 12 8 false (.bin .gtr (.tmp 11) (cI 16)),
 oO 13 (.pick (.tmp 8) (.con (.bool true)) (.tmp 12))]
 (.cond (.tmp 13)
 (aR [oO 2 (.mov (cI 2))]
 .ret)
 .skip))
 (.seq (aR [oO 14 (.faddr (.tmp 1) 3),
 lD 15 14,
 oO 16 (.call 34 [(.tmp 15)]),
 mV 3 16]
 (aR [mV 17 3,
 oO 18 (.bin .neq (.tmp 17) (cI 0))]
 (.cond (.tmp 18)
 (aR [mV 19 3,
 mV 2 19]
 .ret)
 .skip)))
 (aR [oO 20 (.faddr (.tmp 1) 0),
 oO 21 (.load true 2 (.tmp 20)),
 oO 22 (.call 35 [(.tmp 21)]),
 mV 2 22]
 .ret))))
def g12 : Fn := ⟨1, 23, [.tmp 2], b12⟩
def b13 : AC :=
 (aR [oO 1 (.box (.tmp 0)),
 oO 2 (.mov (cI 0))]
 (.seq (.block 0 (aR [oO 4 (.faddr (.tmp 1) 0),
 oO 5 (.faddr (.tmp 4) 1),
 lD 6 5,
 oO 7 (.bin .lss (.tmp 6) (cI 1)),
 mV 8 7,
 gO 9 8 false (.faddr (.tmp 1) 0),
 gO 10 8 false (.faddr (.tmp 9) 1),
 gO 11 8 false (.load false 1 (.tmp 10)),
 gO 12 8 false (.bin .gtr (.tmp 11) (cI 16)),
 oO 13 (.pick (.tmp 8) (.con (.bool true)) (.tmp 12)),
 mV 14 13,
 gO 15 14 false (.faddr (.tmp 1) 3),
 gO 16 14 false (.load false 1 (.tmp 15)),
 gO 17 14 false (.bin .lss (.tmp 16) (cI 1)),
 oO 18 (.pick (.tmp 14) (.con (.bool true)) (.tmp 17)),
 mV 19 18,
 gO 20 19 false (.faddr (.tmp 1) 3),
 gO 21 19 false (.load false 1 (.tmp 20)),
 gO 22 19 false (.bin .gtr (.tmp 21) (cI 1048576)),
 oO 23 (.pick (.tmp 19) (.con (.bool true)) (.tmp 22)),
 mV 3 23]
 (.cond (.tmp 3)
 (aR [oO 2 (.mov (cI 2))]
 .ret)
 (aR [oO 25 (.faddr (.tmp 1) 0),
 oO 26 (.faddr (.tmp 25) 0),
 lD 27 26,
 oO 28 (.call 36 [(.tmp 27)]),
 oO 29 (.un .not (.tmp 28)),
 mV 24 29]
 (.cond (.tmp 24)
 (aR [oO 2 (.mov (cI 150))]
 .ret)
 .skip)))))
 (aR [oO 2 (.mov (cI 0))]
 .ret)))
def g13 : Fn := ⟨1, 30, [.tmp 2], b13⟩
def b14 : AC :=
 (aR [oO 2 (.mov (.con .nilS))]
 (aR [oO 3 (.mov (.con .nilS))]
 (.seq (aR [mV 6 0,
 oO 7 (.len (.tmp 6)),
 oO 8 (.mov (cI 0))]
 (.block 0 (.loop (aR [oO 9 (.bin .lss (.tmp 8) (.tmp 7))]
 (.seq (.cond (.tmp 9)
 .skip
 (.exit 0))
 (.seq (.block 1 (aR [mV 10 8,
 oO 11 (.iaddr 2 (.tmp 6) (.tmp 8)),
 oO 12 (.load true 2 (.tmp 11)),
 oO 5 (.alloc (.agg [(.int .u64 0), .nilS])),
 mV 4 10,
 oN (.store 2 (.tmp 5) (.tmp 12))]
 (aR [mV 13 4,
 oO 14 (.bin .lss (.tmp 13) (cI 60))]
 (.cond (.tmp 14)
 (.regd [⟨[pP (mV 15 3),
 pP (oO 16 (.faddr (.tmp 5) 0)),
 qQ (lD 17 16),
 pP (oO 18 (.faddr (.tmp 5) 1)),
 qQ (lD 19 18),
 qQ (oO 20 (.call 19 [(.tmp 19)])),
 pP (oO 21 (.build [(.int .u64 0), .nilS] [(0, 1, (.tmp 17)), (1, 1, (.tmp 20))])),
 ⟨oO 22 (.lit 2 [(.tmp 21)]), false, false, true, 0, [], none⟩], 1, [oO 23 (.append 2 32 (.tmp 15) (.tmp 22)),
 mV 3 23]⟩])
 .skip))))
 (.reg [oO 24 (.bin .add (.tmp 8) (cI 1)),
 mV 8 24])))))))
 (aR [mV 25 3,
 mV 2 25]
 .ret))))
def g14 : Fn := ⟨1, 26, [.tmp 2], b14⟩
def b15 : AC :=
 (aR [oO 2 (.mov (.con .nilS))]
 (aR [oO 3 (.mov (.con .nilS))]
 (.seq (aR [mV 6 0,
 oO 7 (.len (.tmp 6)),
 oO 8 (.mov (cI 0))]
 (.block 0 (.loop (aR [oO 9 (.bin .lss (.tmp 8) (.tmp 7))]
 (.seq (.cond (.tmp 9)
 .skip
 (.exit 0))
 (.seq (.block 1 (aR [mV 10 8,
 oO 11 (.iaddr 1 (.tmp 6) (.tmp 8)),
 lD 12 11,
 mV 4 10,
 mV 5 12]
 (aR [mV 13 4,
 oO 14 (.bin .leq (.tmp 13) (cI 6))]
 (.cond (.tmp 14)
 (.reg [mV 15 3,
 mV 16 5,
 oO 17 (.call 19 [(.tmp 16)]),
 oO 18 (.lit 1 [(.tmp 17)]),
 oO 19 (.append 1 24 (.tmp 15) (.tmp 18)),
 mV 3 19])
 .skip))))
 (.reg [oO 20 (.bin .add (.tmp 8) (cI 1)),
 mV 8 20])))))))
 (aR [mV 21 3,
 mV 2 21]
 .ret))))
def g15 : Fn := ⟨1, 22, [.tmp 2], b15⟩
def b16 : AC :=
 (aR [oO 5 (.box (.tmp 2)),
 oO 6 (.mov (.con .nilS)),
 oO 7 (.mov (cI 0))]
 (.seq (aR [oO 18 (.load true 4 (.tmp 5)),
 oO 19 (.call 12 [(.tmp 18)]),
 mV 8 19]
 (aR [mV 20 8,
 oO 21 (.bin .neq (.tmp 20) (cI 0))]
 (.cond (.tmp 21)
 (aR [mV 22 8,
 oO 6 (.mov (.con .nilS)),
 mV 7 22]
 .ret)
 .skip)))
 (.seq (aR [mV 23 1,
 oO 24 (.call 37 [(.tmp 23)]),
 mV 9 24]
 (aR [mV 25 9,
 oO 26 (.bin .neq (.tmp 25) (cI 0))]
 (.cond (.tmp 26)
 (aR [mV 27 9,
 oO 6 (.mov (.con .nilS)),
 mV 7 27]
 .ret)
 .skip)))
 (.seq (aR [mV 28 0,
 oO 29 (.call 38 [(.tmp 28), (.con (.fn 39 []))])]
 (.cond (.tmp 29)
 (aR [oO 6 (.mov (.con .nilS)),
 oO 7 (.mov (cI 170))]
 .ret)
 .skip))
 (aR [oO 30 (.faddr (.tmp 5) 0),
 oO 31 (.faddr (.tmp 30) 0),
 lD 32 31,
 oO 33 (.len (.tmp 32)),
 oO 10 (.alloc (.int .i64 0)),
 oN (.store 1 (.tmp 10) (.tmp 33))]
 (.seq (.seq (.regd [⟨[pP (mV 34 1),
 pP (oO 35 (.iaddr 1 (.tmp 34) (cI 0))),
 qQ (lD 36 35),
 pP (oO 37 (.len (.tmp 36))),
 qQ (lD 38 10)], 0, [oO 39 (.bin .neq (.tmp 37) (.tmp 38)),
 mV 40 39]⟩,
 ⟨[pP (gO 41 40 false (.mov (.tmp 0))),
 pP (gO 42 40 false (.mkfn 41 [(.tmp 10)]))], 0, [gO 43 40 false (.call 38 [(.tmp 41), (.tmp 42)]),
 oO 44 (.pick (.tmp 40) (.con (.bool true)) (.tmp 43))]⟩])
 (.cond (.tmp 44)
 (aR [oO 6 (.mov (.con .nilS)),
 oO 7 (.mov (cI 151))]
 .ret)
 .skip))
 (aR [oO 45 (.mkmap),
 oO 11 (.alloc .nilM),
 oN (.store 1 (.tmp 11) (.tmp 45))]
 (.seq (aR [oO 46 (.load true 4 (.tmp 5)),
 mV 47 1,
 oO 48 (.build [.nilS, (.int .i64 0), (.int .u64 0), (.int .i64 0), .nilS] [(0, 4, (.tmp 46)), (4, 1, (.tmp 47))]),
 oO 49 (.call 42 [(.tmp 48)])]
 (.block 0 (.rangeF (.tmp 49) [50]
 (.reg [mV 12 50])
 (.block 1 (.reg [lD 51 11,
 mV 52 12,
 oN (.mupd (.one .int) (.tmp 51) (.tmp 52) (.con (.bool true)))])))))
 (aR [oO 13 (.mov (.con .nilS))]
 (.seq (aR [mV 53 0,
 oO 54 (.len (.tmp 53)),
 oO 55 (.mov (cI 0))]
 (.block 2 (.loop (aR [oO 56 (.bin .lss (.tmp 55) (.tmp 54))]
 (.seq (.cond (.tmp 56)
 .skip
 (.exit 2))
 (.seq (.block 3 (aR [oO 57 (.iaddr 2 (.tmp 53) (.tmp 55)),
 oO 58 (.load true 2 (.tmp 57)),
 oO 15 (.alloc (.agg [(.int .u64 0), .nilS])),
 oN (.store 2 (.tmp 15) (.tmp 58))]
 (aR [mV 60 1,
 oO 61 (.faddr (.tmp 15) 1),
 lD 62 61,
 oO 63 (.call 43 [(.tmp 60), (.tmp 62)]),
 mV 59 63,
 oO 64 (.ext (.tmp 59) 0),
 oO 65 (.ext (.tmp 59) 1),
 mV 16 64,
 mV 17 65]
 (aR [mV 66 17,
 oO 67 (.bin .eql (.tmp 66) (cI 0)),
 mV 68 67,
 gO 69 68 true (.load false 1 (.tmp 11)),
 gO 70 68 true (.mov (.tmp 16)),
 gO 71 68 true (.mget false (.one .int) (.bool false) (.tmp 69) (.tmp 70)),
 oO 72 (.pick (.tmp 68) (.tmp 71) (.con (.bool false)))]
 (.cond (.tmp 72)
 (.reg [mV 73 13,
 oO 74 (.load true 2 (.tmp 15)),
 oO 75 (.lit 2 [(.tmp 74)]),
 oO 76 (.append 2 32 (.tmp 73) (.tmp 75)),
 mV 13 76])
 .skip)))))
 (.reg [oO 77 (.bin .add (.tmp 55) (cI 1)),
 mV 55 77])))))))
 (aR [mV 78 13,
 oO 79 (.faddr (.tmp 5) 0),
 oO 80 (.load true 2 (.tmp 79)),
 oO 81 (.call 44 [(.tmp 78), (.tmp 80)]),
 oO 82 (.ext (.tmp 81) 0),
 oO 83 (.ext (.tmp 81) 1),
 mV 6 82,
 mV 7 83]
 .ret)))))))))))
def g16 : Fn := ⟨3, 84, [.tmp 6, .tmp 7], b16⟩
def b17 : AC :=
 (aR [oO 5 (.box (.tmp 2)),
 oO 6 (.mov (.con .nilS)),
 oO 7 (.mov (cI 0))]
 (.seq (aR [oO 18 (.load true 4 (.tmp 5)),
 oO 19 (.call 13 [(.tmp 18)]),
 mV 8 19]
 (aR [mV 20 8,
 oO 21 (.bin .neq (.tmp 20) (cI 0))]
 (.cond (.tmp 21)
 (aR [mV 22 8,
 oO 6 (.mov (.con .nilS)),
 mV 7 22]
 .ret)
 .skip)))
 (aR [mV 23 1,
 oO 24 (.faddr (.tmp 5) 0),
 oO 25 (.faddr (.tmp 24) 0),
 lD 26 25,
 oO 27 (.call 28 [(.tmp 23), (.tmp 26)]),
 mV 9 27]
 (.seq (aR [mV 28 9,
 oO 29 (.bin .eql (.tmp 28) (cI 240)),
 mV 30 29,
 gO 31 30 false (.mov (.tmp 9)),
 gO 32 30 false (.bin .eql (.tmp 31) (cI 230)),
 oO 33 (.pick (.tmp 30) (.con (.bool true)) (.tmp 32))]
 (.cond (.tmp 33)
 (aR [mV 34 9,
 oO 6 (.mov (.con .nilS)),
 mV 7 34]
 .ret)
 .skip))
 (.seq (aR [mV 35 0,
 oO 36 (.len (.tmp 35)),
 oO 37 (.mov (cI 0))]
 (.block 0 (.loop (aR [oO 38 (.bin .lss (.tmp 37) (.tmp 36))]
 (.seq (.cond (.tmp 38)
 .skip
 (.exit 0))
 (.seq (.block 1 (aR [oO 39 (.iaddr 2 (.tmp 35) (.tmp 37)),
 oO 40 (.load true 2 (.tmp 39)),
 oO 11 (.alloc (.agg [(.int .u64 0), .nilS])),
 oN (.store 2 (.tmp 11) (.tmp 40))]
 (aR [oO 41 (.faddr (.tmp 11) 1),
 lD 42 41,
 oO 43 (.call 36 [(.tmp 42)]),
 oO 44 (.un .not (.tmp 43))]
 (.cond (.tmp 44)
 (aR [oO 6 (.mov (.con .nilS)),
 oO 7 (.mov (cI 170))]
 .ret)
 .skip))))
 (.reg [oO 45 (.bin .add (.tmp 37) (cI 1)),
 mV 37 45])))))))
 (.seq (aR [mV 46 9,
 oO 47 (.bin .neq (.tmp 46) (cI 0))]
 (.cond (.tmp 47)
 (aR [mV 48 9,
 oO 6 (.mov (.con .nilS)),
 mV 7 48]
 .ret)
 .skip))
 (.seq (aR [mV 49 0,
 oO 50 (.len (.tmp 49)),
 oO 51 (.mov (cI 0))]
 (.block 2 (.loop (aR [oO 52 (.bin .lss (.tmp 51) (.tmp 50))]
 (.seq (.cond (.tmp 52)
 .skip
 (.exit 2))
 (.seq (.block 3 (aR [oO 53 (.iaddr 2 (.tmp 49) (.tmp 51)),
 oO 54 (.load true 2 (.tmp 53)),
 oO 13 (.alloc (.agg [(.int .u64 0), .nilS])),
 oN (.store 2 (.tmp 13) (.tmp 54))]
 (aR [oO 55 (.faddr (.tmp 13) 1),
 lD 56 55,
 oO 57 (.len (.tmp 56)),
 oO 58 (.faddr (.tmp 5) 0),
 oO 59 (.faddr (.tmp 58) 0),
 lD 60 59,
 oO 61 (.len (.tmp 60)),
 oO 62 (.bin .neq (.tmp 57) (.tmp 61))]
 (.cond (.tmp 62)
 (aR [oO 6 (.mov (.con .nilS)),
 oO 7 (.mov (cI 151))]
 .ret)
 .skip))))
 (.reg [oO 63 (.bin .add (.tmp 51) (cI 1)),
 mV 51 63])))))))
 (aR [mV 64 1,
 oO 65 (.faddr (.tmp 5) 0),
 oO 66 (.faddr (.tmp 65) 0),
 lD 67 66,
 oO 68 (.faddr (.tmp 5) 3),
 lD 69 68,
 oO 70 (.call 29 [(.tmp 64), (.tmp 67), (.tmp 69)]),
 mV 14 70]
 (aR [oO 15 (.mov (.con .nilS))]
 (.seq (aR [mV 71 0,
 oO 72 (.len (.tmp 71)),
 oO 73 (.mov (cI 0))]
 (.block 4 (.loop (aR [oO 74 (.bin .lss (.tmp 73) (.tmp 72))]
 (.seq (.cond (.tmp 74)
 .skip
 (.exit 4))
 (.seq (.block 5 (aR [oO 75 (.iaddr 2 (.tmp 71) (.tmp 73)),
 oO 76 (.load true 2 (.tmp 75)),
 oO 17 (.alloc (.agg [(.int .u64 0), .nilS])),
 oN (.store 2 (.tmp 17) (.tmp 76))]
 (aR [mV 77 14,
 mV 78 1,
 oO 79 (.faddr (.tmp 17) 1),
 lD 80 79,
 oO 81 (.call 45 [(.tmp 78), (.tmp 80)]),
 oO 82 (.call 31 [(.tmp 77), (.tmp 81)])]
 (.cond (.tmp 82)
 (.reg [mV 83 15,
 oO 84 (.load true 2 (.tmp 17)),
 oO 85 (.lit 2 [(.tmp 84)]),
 oO 86 (.append 2 32 (.tmp 83) (.tmp 85)),
 mV 15 86])
 .skip))))
 (.reg [oO 87 (.bin .add (.tmp 73) (cI 1)),
 mV 73 87])))))))
 (.seq (aR [mV 88 15,
 oO 89 (.len (.tmp 88)),
 oO 90 (.bin .gtr (.tmp 89) (cI 2000))]
 (.cond (.tmp 90)
 (aR [oO 6 (.mov (.con .nilS)),
 oO 7 (.mov (cI 3))]
 .ret)
 .skip))
 (aR [mV 91 15,
 oO 92 (.faddr (.tmp 5) 0),
 oO 93 (.load true 2 (.tmp 92)),
 oO 94 (.call 33 [(.tmp 91), (.tmp 93)]),
 oO 95 (.ext (.tmp 94) 0),
 oO 96 (.ext (.tmp 94) 1),
 mV 6 95,
 mV 7 96]
 .ret))))))))))))
def g17 : Fn := ⟨3, 97, [.tmp 6, .tmp 7], b17⟩
def b18 : AC :=
 (aR [oO 6 (.mov (.con .nilS)),
 oO 7 (.mov (cI 0))]
 (.seq (aR [mV 14 2,
 oO 15 (.call 34 [(.tmp 14)]),
 mV 8 15]
 (aR [mV 16 8,
 oO 17 (.bin .neq (.tmp 16) (cI 0))]
 (.cond (.tmp 17)
 (aR [mV 18 8,
 oO 6 (.mov (.con .nilS)),
 mV 7 18]
 .ret)
 .skip)))
 (.seq (aR [mV 19 1,
 oO 20 (.call 46 [(.tmp 19)]),
 mV 9 20]
 (aR [mV 21 9,
 oO 22 (.bin .neq (.tmp 21) (cI 0))]
 (.cond (.tmp 22)
 (aR [mV 23 9,
 oO 6 (.mov (.con .nilS)),
 mV 7 23]
 .ret)
 .skip)))
 (.seq (aR [mV 24 0,
 oO 25 (.call 37 [(.tmp 24)]),
 mV 10 25]
 (aR [mV 26 10,
 oO 27 (.bin .neq (.tmp 26) (cI 0))]
 (.cond (.tmp 27)
 (aR [mV 28 10,
 oO 6 (.mov (.con .nilS)),
 mV 7 28]
 .ret)
 .skip)))
 (.seq (aR [mV 29 0,
 oO 30 (.iaddr 1 (.tmp 29) (cI 0)),
 lD 31 30,
 oO 32 (.len (.tmp 31)),
 mV 33 1,
 oO 34 (.len (.tmp 33)),
 oO 35 (.bin .neq (.tmp 32) (.tmp 34))]
 (.cond (.tmp 35)
 (aR [oO 6 (.mov (.con .nilS)),
 oO 7 (.mov (cI 151))]
 .ret)
 .skip))
 (aR [mV 36 1,
 oO 37 (.build [.nilS, (.int .i64 0)] [(0, 1, (.tmp 36))]),
 mV 38 2,
 oO 39 (.build [.nilS, (.int .i64 0), (.int .u64 0), (.int .i64 0)] [(0, 2, (.tmp 37)), (3, 1, (.tmp 38))]),
 mV 40 0,
 oO 41 (.build [.nilS, (.int .i64 0), (.int .u64 0), (.int .i64 0), .nilS] [(0, 4, (.tmp 39)), (4, 1, (.tmp 40))]),
 oO 11 (.alloc (.agg [.nilS, (.int .i64 0), (.int .u64 0), (.int .i64 0), .nilS])),
 oN (.store 5 (.tmp 11) (.tmp 41))]
 (aR [oO 12 (.alloc .nilS)]
 (.seq (aR [oO 42 (.load true 5 (.tmp 11)),
 oO 43 (.call 42 [(.tmp 42)])]
 (.block 0 (.rangeF (.tmp 43) [44]
 (.reg [mV 13 44])
 (.block 1 (.reg [lD 45 12,
 mV 46 13,
 oO 47 (.lit 1 [(.tmp 46)]),
 oO 48 (.append 1 8 (.tmp 45) (.tmp 47)),
 oN (.store 1 (.tmp 12) (.tmp 48))])))))
 (aR [lD 49 12,
 mV 6 49,
 oO 7 (.mov (cI 0))]
 .ret)))))))))
def g18 : Fn := ⟨3, 50, [.tmp 6, .tmp 7], b18⟩
def b19 : AC :=
 (aR [oO 2 (.mov (.con .nilS))]
 (aR [oO 3 (.lit 1 []),
 mV 4 0,
 mV 5 0,
 oO 6 (.len (.tmp 5)),
 oO 7 (.min [(.tmp 6), (cI 5)]),
 oO 8 (.slice 1 (.tmp 4) none (some (.tmp 7))),
 oO 9 (.append 1 4 (.tmp 3) (.tmp 8)),
 mV 2 9]
 .ret))
def g19 : Fn := ⟨1, 10, [.tmp 2], b19⟩
def b20 : AC :=
 (aR [oO 1 (.box (.tmp 0)),
 oO 2 (.mov (cI 0))]
 (.seq (aR [oO 6 (.faddr (.tmp 1) 0),
 lD 7 6,
 oO 8 (.call 47 [(.tmp 7)]),
 oO 9 (.un .not (.tmp 8)),
 mV 10 9,
 gO 11 10 false (.faddr (.tmp 1) 1),
 gO 12 10 false (.load false 1 (.tmp 11)),
 gO 13 10 false (.len (.tmp 12)),
 gO 14 10 false (.faddr (.tmp 1) 0),
 gO 15 10 false (.load false 1 (.tmp 14)),
 gO 16 10 false (.len (.tmp 15)),
 gO 17 10 false (.bin .neq (.tmp 13) (.tmp 16)),
 oO 18 (.pick (.tmp 10) (.con (.bool true)) (.tmp 17))]
 (.cond (.tmp 18)
 (aR [oO 2 (.mov (cI 230))]
 .ret)
 .skip))
 (.seq (aR [oO 19 (.faddr (.tmp 1) 1),
 lD 20 19,
 oO 21 (.len (.tmp 20)),
 oO 22 (.mov (cI 0))]
 (.block 0 (.loop (aR [oO 23 (.bin .lss (.tmp 22) (.tmp 21))]
 (.seq (.cond (.tmp 23)
 .skip
 (.exit 0))
 (.seq (.block 1 (aR [mV 24 22,
 oO 25 (.iaddr 2 (.tmp 20) (.tmp 22)),
 oO 26 (.load true 2 (.tmp 25)),
 oO 4 (.alloc (.agg [(.int .u64 0), (.int .u64 0)])),
 mV 3 24,
 oN (.store 2 (.tmp 4) (.tmp 26))]
 (.seq (.regd [⟨[⟨oO 27 (.load true 2 (.tmp 4)), false, false, false, 0, [1], none⟩,
 pP (oO 28 (.faddr (.tmp 1) 1)),
 ⟨lD 29 28, false, false, false, 0, [1], none⟩,
 pP (mV 30 3),
 pP (oO 31 (.slice 2 (.tmp 29) none (some (.tmp 30)))),
 ⟨oO 32 (.call 48 [(.tmp 31)]), false, false, false, 0, [1], none⟩,
 ⟨oO 33 (.lit 2 [(.tmp 27), (.tmp 32)]), false, false, true, 0, [1], none⟩,
 ⟨oO 34 (.call 25 [(.tmp 33)]), false, false, false, 1, [1], none⟩,
 ⟨oO 5 (.alloc (.agg [(.int .u64 0), (.int .u64 0)])), false, false, true, 1, [0], none⟩], 2, [oN (.store 2 (.tmp 5) (.tmp 34))]⟩])
 (aR [oO 35 (.load true 2 (.tmp 4)),
 oO 36 (.call 49 [(.tmp 35)]),
 oO 37 (.bin .neq (.tmp 36) (cI 0)),
 mV 38 37,
 gO 39 38 false (.load true 2 (.tmp 5)),
 gO 40 38 false (.call 50 [(.tmp 39)]),
 gO 41 38 false (.bin .gtr (.tmp 40) (cI 0)),
 oO 42 (.pick (.tmp 38) (.con (.bool true)) (.tmp 41))]
 (.cond (.tmp 42)
 (aR [oO 2 (.mov (cI 230))]
 .ret)
 .skip)))))
 (.reg [oO 43 (.bin .add (.tmp 22) (cI 1)),
 mV 22 43])))))))
 (aR [oO 2 (.mov (cI 0))]
 .ret))))
def g20 : Fn := ⟨1, 44, [.tmp 2], b20⟩
def b25 : AC :=
 (aR [oO 2 (.alloc (.agg [(.int .u64 0), (.int .u64 0)]))]
 (aR [oO 6 (.call 61 []),
 oO 3 (.alloc (.agg [(.int .u64 0), (.int .u64 0)])),
 oN (.store 2 (.tmp 3) (.tmp 6))]
 (.seq (aR [mV 7 0,
 oO 8 (.len (.tmp 7)),
 oO 9 (.mov (cI 0))]
 (.block 0 (.loop (aR [oO 10 (.bin .lss (.tmp 9) (.tmp 8))]
 (.seq (.cond (.tmp 10)
 .skip
 (.exit 0))
 (.seq (.block 1 (aR [oO 11 (.iaddr 2 (.tmp 7) (.tmp 9)),
 oO 12 (.load true 2 (.tmp 11)),
 oO 5 (.alloc (.agg [(.int .u64 0), (.int .u64 0)])),
 oN (.store 2 (.tmp 5) (.tmp 12))]
 (.reg [oO 13 (.load true 2 (.tmp 3)),
 oO 14 (.load true 2 (.tmp 5)),
 oO 15 (.call 62 [(.tmp 13), (.tmp 14)]),
 oN (.store 2 (.tmp 3) (.tmp 15))])))
 (.reg [oO 16 (.bin .add (.tmp 9) (cI 1)),
 mV 9 16])))))))
 (aR [oO 17 (.load true 2 (.tmp 3)),
 oN (.store 2 (.tmp 2) (.tmp 17))]
 .ret))))
def g25 : Fn := ⟨1, 18, [.cell 2 true 2], b25⟩
def b28 : AC :=
 (aR [oO 4 (.mov (cI 0))]
 (.seq (.block 0 (aR [mV 6 0,
 oO 7 (.len (.tmp 6)),
 oO 8 (.bin .eql (.tmp 7) (cI 0)),
 mV 5 8]
 (.cond (.tmp 5)
 (aR [oO 4 (.mov (cI 240))]
 .ret)
 (aR [mV 10 0,
 oO 11 (.call 63 [(.tmp 10)]),
 oO 12 (.un .not (.tmp 11)),
 mV 9 12]
 (.cond (.tmp 9)
 (aR [oO 4 (.mov (cI 230))]
 .ret)
 (aR [mV 14 0,
 oO 15 (.iaddr 1 (.tmp 14) (cI 0)),
 lD 16 15,
 oO 17 (.len (.tmp 16)),
 mV 18 1,
 oO 19 (.len (.tmp 18)),
 oO 20 (.bin .neq (.tmp 17) (.tmp 19)),
 mV 13 20]
 (.cond (.tmp 13)
 (aR [oO 4 (.mov (cI 151))]
 .ret)
 .skip)))))))
 (aR [oO 4 (.mov (cI 0))]
 .ret)))
def g28 : Fn := ⟨2, 21, [.tmp 4], b28⟩
def b29 : AC :=
 (aR [oO 6 (.mov (.con .nilS))]
 (aR [oO 7 (.mov (.con .nilS))]
 (.seq (.block 0 (.loop (.seq (aR [mV 10 7,
 oO 11 (.len (.tmp 10)),
 mV 12 2,
 mV 13 0,
 oO 14 (.len (.tmp 13)),
 oO 15 (.min [(.tmp 12), (.tmp 14)]),
 oO 16 (.bin .lss (.tmp 11) (.tmp 15))]
 (.cond (.tmp 16)
 .skip
 (.exit 0)))
 (.block 1 (aR [oO 8 (.mov (cI (-1)))]
 (.seq (aR [mV 17 0,
 oO 18 (.len (.tmp 17)),
 oO 19 (.mov (cI 0))]
 (.block 2 (.loop (aR [oO 20 (.bin .lss (.tmp 19) (.tmp 18))]
 (.seq (.cond (.tmp 20)
 .skip
 (.exit 2))
 (.seq (.block 3 (aR [mV 21 19,
 mV 9 21]
 (.seq (.seq (.regd [⟨[pP (mV 22 7),
 pP (mV 23 9)], 0, [oO 24 (.call 31 [(.tmp 22), (.tmp 23)]),
 mV 25 24,
 gO 26 25 false (.mov (.tmp 8)),
 gO 27 25 false (.bin .geq (.tmp 26) (cI 0)),
 gO 28 25 false (.mov (.tmp 27))]⟩,
 ⟨[pP (gO 29 28 true (.mov (.tmp 0))),
 pP (gO 30 28 true (.mov (.tmp 9))),
 pP (gO 31 28 true (.iaddr 1 (.tmp 29) (.tmp 30))),
 qQ (gO 32 28 true (.load false 1 (.tmp 31))),
 pP (gO 33 28 true (.mov (.tmp 1))),
 qQ (gO 34 28 true (.call 67 [(.tmp 32), (.tmp 33)])),
 pP (gO 35 28 true (.mov (.tmp 0))),
 pP (gO 36 28 true (.mov (.tmp 8))),
 pP (gO 37 28 true (.iaddr 1 (.tmp 35) (.tmp 36))),
 qQ (gO 38 28 true (.load false 1 (.tmp 37))),
 pP (gO 39 28 true (.mov (.tmp 1)))], 0, [gO 40 28 true (.call 67 [(.tmp 38), (.tmp 39)]),
 gO 41 28 true (.bin .geq (.tmp 34) (.tmp 40)),
 gO 42 25 false (.pick (.tmp 28) (.tmp 41) (.con (.bool false))),
 oO 43 (.pick (.tmp 25) (.con (.bool true)) (.tmp 42))]⟩])
 (.cond (.tmp 43)
 (.exit 3)
 .skip))
 (.reg [mV 44 9,
 mV 8 44]))))
 (.reg [oO 45 (.bin .add (.tmp 19) (cI 1)),
 mV 19 45])))))))
 (.reg [mV 46 7,
 mV 47 8,
 oO 48 (.lit 1 [(.tmp 47)]),
 oO 49 (.append 1 8 (.tmp 46) (.tmp 48)),
 mV 7 49])))))))
 (aR [mV 50 7,
 mV 6 50]
 .ret))))
def g29 : Fn := ⟨3, 51, [.tmp 6], b29⟩
def b31 : AC :=
 (aR [oO 4 (.mov (.con (.bool false)))]
 (.seq (aR [mV 7 0,
 oO 8 (.len (.tmp 7)),
 oO 9 (.mov (cI 0))]
 (.block 0 (.loop (aR [oO 10 (.bin .lss (.tmp 9) (.tmp 8))]
 (.seq (.cond (.tmp 10)
 .skip
 (.exit 0))
 (.seq (.block 1 (aR [oO 11 (.iaddr 1 (.tmp 7) (.tmp 9)),
 lD 12 11,
 mV 6 12]
 (aR [mV 13 6,
 mV 14 1,
 oO 15 (.bin .eql (.tmp 13) (.tmp 14))]
 (.cond (.tmp 15)
 (aR [oO 4 (.mov (.con (.bool true)))]
 .ret)
 .skip))))
 (.reg [oO 16 (.bin .add (.tmp 9) (cI 1)),
 mV 9 16])))))))
 (aR [oO 4 (.mov (.con (.bool false)))]
 .ret)))
def g31 : Fn := ⟨2, 17, [.tmp 4], b31⟩
def b33 : AC :=
 (aR [oO 3 (.box (.tmp 1)),
 oO 4 (.mov (.con .nilS)),
 oO 5 (.mov (cI 0))]
 (aR [oO 6 (.mov (.con .nilS))]
 (.seq (aR [mV 9 0,
 oO 10 (.len (.tmp 9)),
 oO 11 (.mov (cI 0))]
 (.block 0 (.loop (aR [oO 12 (.bin .lss (.tmp 11) (.tmp 10))]
 (.seq (.cond (.tmp 12)
 .skip
 (.exit 0))
 (.seq (.block 1 (aR [oO 13 (.iaddr 2 (.tmp 9) (.tmp 11)),
 oO 14 (.load true 2 (.tmp 13)),
 oO 8 (.alloc (.agg [(.int .u64 0), .nilS])),
 oN (.store 2 (.tmp 8) (.tmp 14))]
 (.seq (aR [oO 15 (.faddr (.tmp 8) 1),
 lD 16 15,
 oO 17 (.len (.tmp 16)),
 oO 18 (.faddr (.tmp 3) 0),
 lD 19 18,
 oO 20 (.len (.tmp 19)),
 oO 21 (.bin .neq (.tmp 17) (.tmp 20))]
 (.cond (.tmp 21)
 (aR [oO 4 (.mov (.con .nilS)),
 oO 5 (.mov (cI 151))]
 .ret)
 .skip))
 (.regd [⟨[pP (mV 22 6),
 pP (oO 23 (.faddr (.tmp 8) 0)),
 qQ (lD 24 23),
 pP (oO 25 (.faddr (.tmp 8) 1)),
 qQ (lD 26 25),
 pP (oO 27 (.faddr (.tmp 3) 0)),
 qQ (lD 28 27),
 qQ (oO 29 (.call 67 [(.tmp 26), (.tmp 28)])),
 pP (oO 30 (.build [(.int .u64 0), (.int .u64 0)] [(0, 1, (.tmp 24)), (1, 1, (.tmp 29))])),
 ⟨oO 31 (.lit 2 [(.tmp 30)]), false, false, true, 0, [], none⟩], 1, [oO 32 (.append 2 16 (.tmp 22) (.tmp 31)),
 mV 6 32]⟩]))))
 (.reg [oO 33 (.bin .add (.tmp 11) (cI 1)),
 mV 11 33])))))))
 (aR [mV 34 6,
 oO 35 (.faddr (.tmp 3) 1),
 lD 36 35,
 oO 37 (.call 68 [(.tmp 34), (.tmp 36)]),
 mV 4 37,
 oO 5 (.mov (cI 0))]
 .ret))))
def g33 : Fn := ⟨2, 38, [.tmp 4, .tmp 5], b33⟩
def b34 : AC :=
 (aR [oO 2 (.mov (cI 0))]
 (.seq (aR [mV 3 0,
 oO 4 (.bin .lss (.tmp 3) (cI 1)),
 mV 5 4,
 gO 6 5 false (.mov (.tmp 0)),
 gO 7 5 false (.bin .gtr (.tmp 6) (cI 1048576)),
 oO 8 (.pick (.tmp 5) (.con (.bool true)) (.tmp 7))]
 (.cond (.tmp 8)
 (aR [oO 2 (.mov (cI 2))]
 .ret)
 .skip))
 (aR [oO 2 (.mov (cI 0))]
 .ret)))
def g34 : Fn := ⟨1, 9, [.tmp 2], b34⟩
def b35 : AC :=
 (aR [oO 1 (.box (.tmp 0)),
 oO 2 (.mov (cI 0))]
 (.seq (aR [oO 3 (.faddr (.tmp 1) 1),
 lD 4 3,
 oO 5 (.bin .lss (.tmp 4) (cI 1)),
 mV 6 5,
 gO 7 6 false (.faddr (.tmp 1) 1),
 gO 8 6 false (.load false 1 (.tmp 7)),
 gO 9 6 false (.bin .gtr (.tmp 8) (cI 16)),
 oO 10 (.pick (.tmp 6) (.con (.bool true)) (.tmp 9))]
 (.cond (.tmp 10)
 (aR [oO 2 (.mov (cI 2))]
 .ret)
 .skip))
 (aR [oO 11 (.faddr (.tmp 1) 0),
 lD 12 11,
 oO 13 (.call 46 [(.tmp 12)]),
 mV 2 13]
 .ret)))
def g35 : Fn := ⟨1, 14, [.tmp 2], b35⟩
def b36 : AC :=
 (aR [oO 2 (.mov (.con (.bool false)))]
 (.seq (aR [oO 3 (.mov (cI 0))]
 (.block 0 (.loop (.seq (aR [mV 4 3,
 mV 5 0,
 oO 6 (.len (.tmp 5)),
 oO 7 (.bin .lss (.tmp 4) (.tmp 6))]
 (.cond (.tmp 7)
 .skip
 (.exit 0)))
 (.seq (.block 1 (aR [mV 10 0,
 mV 11 3,
 oO 12 (.iaddr 1 (.tmp 10) (.tmp 11)),
 lD 13 12,
 oO 14 (.bin .lss (.tmp 13) (.con (.int .i32 (-1073741823)))),
 mV 15 14,
 gO 16 15 false (.mov (.tmp 0)),
 gO 17 15 false (.mov (.tmp 3)),
 gO 18 15 false (.iaddr 1 (.tmp 16) (.tmp 17)),
 gO 19 15 false (.load false 1 (.tmp 18)),
 gO 20 15 false (.bin .gtr (.tmp 19) (.con (.int .i32 1073741823))),
 oO 21 (.pick (.tmp 15) (.con (.bool true)) (.tmp 20))]
 (.cond (.tmp 21)
 (aR [oO 2 (.mov (.con (.bool false)))]
 .ret)
 .skip)))
 (.reg [mV 8 3,
 oO 9 (.bin .add (.tmp 8) (cI 1)),
 mV 3 9]))))))
 (aR [mV 22 0,
 oO 23 (.len (.tmp 22)),
 oO 24 (.bin .geq (.tmp 23) (cI 1)),
 mV 25 24,
 gO 26 25 true (.mov (.tmp 0)),
 gO 27 25 true (.len (.tmp 26)),
 gO 28 25 true (.bin .leq (.tmp 27) (cI 4)),
 oO 29 (.pick (.tmp 25) (.tmp 28) (.con (.bool false))),
 mV 2 29]
 .ret)))
def g36 : Fn := ⟨1, 30, [.tmp 2], b36⟩
def b37 : AC :=
 (aR [oO 2 (.mov (cI 0))]
 (.seq (aR [mV 3 0,
 oO 4 (.len (.tmp 3)),
 oO 5 (.bin .eql (.tmp 4) (cI 0))]
 (.cond (.tmp 5)
 (aR [oO 2 (.mov (cI 240))]
 .ret)
 .skip))
 (aR [mV 6 0,
 mV 7 0,
 oO 8 (.len (.tmp 7)),
 oO 9 (.mksl 2 16 (.agg [(.int .u64 0), (.int .u64 0)]) (.tmp 8)),
 oO 10 (.build [.nilS, .nilS] [(0, 1, (.tmp 6)), (1, 1, (.tmp 9))]),
 oO 11 (.call 20 [(.tmp 10)]),
 mV 2 11]
 .ret)))
def g37 : Fn := ⟨1, 12, [.tmp 2], b37⟩
def b38 : AC :=
 (aR [oO 4 (.mov (.con (.bool false)))]
 (aR [mV 5 0,
 mV 6 1,
 oO 7 (.call 69 [(.tmp 5), (.tmp 6)]),
 oO 8 (.bin .geq (.tmp 7) (cI 0)),
 mV 4 8]
 .ret))
def g38 : Fn := ⟨2, 9, [.tmp 4], b38⟩
def b39 : AC :=
 (aR [oO 1 (.box (.tmp 0)),
 oO 2 (.mov (.con (.bool false)))]
 (aR [oO 3 (.load true 2 (.tmp 1)),
 oO 4 (.call 40 [(.tmp 3)]),
 oO 5 (.bin .neq (.tmp 4) (cI 0)),
 mV 2 5]
 .ret))
def g39 : Fn := ⟨1, 6, [.tmp 2], b39⟩
def b40 : AC :=
 (aR [oO 1 (.box (.tmp 0)),
 oO 2 (.mov (cI 0))]
 (.seq (aR [oO 3 (.faddr (.tmp 1) 1),
 lD 4 3,
 oO 5 (.call 46 [(.tmp 4)]),
 oO 6 (.bin .neq (.tmp 5) (cI 0))]
 (.cond (.tmp 6)
 (aR [oO 2 (.mov (cI 170))]
 .ret)
 .skip))
 (aR [oO 2 (.mov (cI 0))]
 .ret)))
def g40 : Fn := ⟨1, 7, [.tmp 2], b40⟩
def b41 : AC :=
 (aR [oO 2 (.box (.tmp 0)),
 oO 3 (.mov (.con (.bool false)))]
 (aR [oO 4 (.faddr (.tmp 2) 1),
 lD 5 4,
 oO 6 (.len (.tmp 5)),
 lD 7 1,
 oO 8 (.bin .neq (.tmp 6) (.tmp 7)),
 mV 3 8]
 .ret))
def g41 : Fn := ⟨2, 9, [.tmp 3], b41⟩
def b42 : AC :=
 (aR [oO 1 (.box (.tmp 0)),
 oO 2 (.mov (.con .nilF))]
 (aR [oO 8 (.faddr (.tmp 1) 4),
 lD 9 8,
 oO 10 (.len (.tmp 9)),
 oO 11 (.mksl 2 16 (.agg [(.int .u64 0), (.int .u64 0)]) (.tmp 10)),
 oO 3 (.alloc .nilS),
 oN (.store 1 (.tmp 3) (.tmp 11))]
 (.seq (aR [oO 12 (.faddr (.tmp 1) 4),
 lD 13 12,
 oO 14 (.len (.tmp 13)),
 oO 15 (.mov (cI 0))]
 (.block 0 (.loop (aR [oO 16 (.bin .lss (.tmp 15) (.tmp 14))]
 (.seq (.cond (.tmp 16)
 .skip
 (.exit 0))
 (.seq (.block 1 (aR [mV 17 15,
 oO 18 (.iaddr 1 (.tmp 13) (.tmp 15)),
 lD 19 18,
 mV 4 17,
 mV 5 19]
 (aR [mV 21 5,
 oO 22 (.faddr (.tmp 1) 0),
 oO 23 (.faddr (.tmp 22) 0),
 oO 24 (.faddr (.tmp 23) 0),
 lD 25 24,
 oO 26 (.call 70 [(.tmp 21), (.tmp 25)]),
 mV 20 26,
 oO 27 (.ext (.tmp 20) 0),
 oO 28 (.ext (.tmp 20) 1),
 mV 6 27,
 mV 7 28]
 (.reg [lD 29 3,
 mV 30 4,
 mV 31 4,
 oO 32 (.conv .u64 (.tmp 31)),
 mV 33 6,
 oO 34 (.build [(.int .u64 0), (.int .u64 0)] [(0, 1, (.tmp 32)), (1, 1, (.tmp 33))]),
 oO 35 (.iaddr 2 (.tmp 29) (.tmp 30)),
 oN (.store 2 (.tmp 35) (.tmp 34))]))))
 (.reg [oO 36 (.bin .add (.tmp 15) (cI 1)),
 mV 15 36])))))))
 (aR [lD 37 3,
 oO 38 (.call 71 [(.tmp 37), (.con (.fn 72 []))])]
 (aR [oO 39 (.mkfn 75 [(.tmp 3), (.tmp 1)]),
 mV 2 39]
 .ret)))))
def g42 : Fn := ⟨1, 40, [.tmp 2], b42⟩
def b43 : AC :=
 (aR [oO 4 (.mov (cI 0)),
 oO 5 (.mov (cI 0))]
 (.seq (aR [mV 11 0,
 oO 12 (.len (.tmp 11)),
 oO 13 (.bin .eql (.tmp 12) (cI 0))]
 (.cond (.tmp 13)
 (aR [oO 4 (.mov (cI 0)),
 oO 5 (.mov (cI 4))]
 .ret)
 .skip))
 (.seq (aR [mV 14 1,
 oO 15 (.lit 1 [(.tmp 14)]),
 mV 16 0,
 oO 17 (.append 1 24 (.tmp 15) (.tmp 16)),
 oO 18 (.call 76 [(.tmp 17)]),
 mV 6 18]
 (aR [mV 19 6,
 oO 20 (.bin .neq (.tmp 19) (cI 0))]
 (.cond (.tmp 20)
 (aR [mV 21 6,
 oO 4 (.mov (cI 0)),
 mV 5 21]
 .ret)
 .skip)))
 (aR [mV 22 0,
 oO 23 (.iaddr 1 (.tmp 22) (cI 0)),
 lD 24 23,
 mV 25 1,
 oO 26 (.call 77 [(.tmp 24), (.tmp 25)]),
 oO 27 (.build [(.int .u64 0), (.int .u64 0)] [(1, 1, (.tmp 26))]),
 oO 7 (.alloc (.agg [(.int .u64 0), (.int .u64 0)])),
 oN (.store 2 (.tmp 7) (.tmp 27))]
 (.seq (aR [mV 28 0,
 oO 29 (.len (.tmp 28)),
 oO 30 (.mov (cI 0))]
 (.block 0 (.loop (aR [oO 31 (.bin .lss (.tmp 30) (.tmp 29))]
 (.seq (.cond (.tmp 31)
 .skip
 (.exit 0))
 (.seq (.block 1 (aR [mV 32 30,
 oO 33 (.iaddr 1 (.tmp 28) (.tmp 30)),
 lD 34 33,
 mV 8 32,
 mV 9 34]
 (aR [mV 35 8,
 oO 36 (.conv .u64 (.tmp 35)),
 mV 37 9,
 mV 38 1,
 oO 39 (.call 77 [(.tmp 37), (.tmp 38)]),
 oO 40 (.build [(.int .u64 0), (.int .u64 0)] [(0, 1, (.tmp 36)), (1, 1, (.tmp 39))]),
 oO 10 (.alloc (.agg [(.int .u64 0), (.int .u64 0)])),
 oN (.store 2 (.tmp 10) (.tmp 40))]
 (aR [oO 41 (.load true 2 (.tmp 10)),
 oO 42 (.load true 2 (.tmp 7)),
 oO 43 (.call 78 [(.tmp 41), (.tmp 42)]),
 oO 44 (.bin .lss (.tmp 43) (cI 0))]
 (.cond (.tmp 44)
 (.reg [oO 45 (.load true 2 (.tmp 10)),
 oN (.store 2 (.tmp 7) (.tmp 45))])
 .skip)))))
 (.reg [oO 46 (.bin .add (.tmp 30) (cI 1)),
 mV 30 46])))))))
 (aR [oO 47 (.faddr (.tmp 7) 0),
 lD 48 47,
 oO 49 (.conv .i64 (.tmp 48)),
 mV 4 49,
 oO 5 (.mov (cI 0))]
 .ret))))))
def g43 : Fn := ⟨2, 50, [.tmp 4, .tmp 5], b43⟩
def b44 : AC :=
 (aR [oO 2 (.box (.tmp 0)),
 oO 3 (.box (.tmp 1)),
 oO 4 (.mov (.con .nilS)),
 oO 5 (.mov (cI 0))]
 (.seq (aR [oO 11 (.load true 2 (.tmp 3)),
 oO 12 (.call 35 [(.tmp 11)]),
 mV 6 12]
 (aR [mV 13 6,
 oO 14 (.bin .neq (.tmp 13) (cI 0))]
 (.cond (.tmp 14)
 (aR [mV 15 6,
 oO 4 (.mov (.con .nilS)),
 mV 5 15]
 .ret)
 .skip)))
 (.seq (aR [lD 16 2,
 oO 17 (.len (.tmp 16)),
 oO 18 (.mov (cI 0))]
 (.block 0 (.loop (aR [oO 19 (.bin .lss (.tmp 18) (.tmp 17))]
 (.seq (.cond (.tmp 19)
 .skip
 (.exit 0))
 (.seq (.block 1 (aR [oO 20 (.iaddr 2 (.tmp 16) (.tmp 18)),
 oO 21 (.load true 2 (.tmp 20)),
 oO 8 (.alloc (.agg [(.int .u64 0), .nilS])),
 oN (.store 2 (.tmp 8) (.tmp 21))]
 (aR [oO 22 (.load true 2 (.tmp 8)),
 oO 23 (.call 40 [(.tmp 22)]),
 mV 9 23]
 (aR [mV 24 9,
 oO 25 (.bin .neq (.tmp 24) (cI 0))]
 (.cond (.tmp 25)
 (aR [mV 26 9,
 oO 4 (.mov (.con .nilS)),
 mV 5 26]
 .ret)
 .skip)))))
 (.reg [oO 27 (.bin .add (.tmp 18) (cI 1)),
 mV 18 27])))))))
 (.seq (aR [lD 28 2,
 oO 29 (.len (.tmp 28)),
 oO 30 (.bin .gtr (.tmp 29) (cI 2000))]
 (.cond (.tmp 30)
 (aR [oO 4 (.mov (.con .nilS)),
 oO 5 (.mov (cI 3))]
 .ret)
 .skip))
 (aR [oO 31 (.load true 2 (.tmp 3)),
 oO 32 (.build [.nilS, (.int .i64 0)] [(0, 2, (.tmp 31))]),
 oO 10 (.alloc (.agg [.nilS, (.int .i64 0)])),
 oN (.store 2 (.tmp 10) (.tmp 32))]
 (aR [oO 33 (.load true 2 (.tmp 10)),
 oO 34 (.mkfn 79 [(.tmp 2)]),
 oO 35 (.load true 2 (.tmp 10)),
 oO 36 (.mkbnd 60 [(.tmp 35)]),
 oO 37 (.call 55 [(.tmp 33), (.tmp 34), (.tmp 36)]),
 oO 38 (.ext (.tmp 37) 0),
 oO 39 (.ext (.tmp 37) 1),
 mV 4 38,
 mV 5 39]
 .ret))))))
def g44 : Fn := ⟨2, 40, [.tmp 4, .tmp 5], b44⟩
def b45 : AC :=
 (aR [oO 4 (.mov (cI 0))]
 (aR [oO 5 (.mov (cI 0))]
 (.seq (aR [oO 6 (.mov (cI 1))]
 (.block 0 (.loop (.seq (aR [mV 7 6,
 mV 8 0,
 oO 9 (.len (.tmp 8)),
 oO 10 (.bin .lss (.tmp 7) (.tmp 9))]
 (.cond (.tmp 10)
 .skip
 (.exit 0)))
 (.seq (.block 1 (.seq (.regd [⟨[pP (mV 13 0),
 pP (mV 14 6),
 pP (oO 15 (.iaddr 1 (.tmp 13) (.tmp 14))),
 qQ (lD 16 15),
 pP (mV 17 1),
 qQ (oO 18 (.call 67 [(.tmp 16), (.tmp 17)])),
 pP (mV 19 0),
 pP (mV 20 5),
 pP (oO 21 (.iaddr 1 (.tmp 19) (.tmp 20))),
 qQ (lD 22 21),
 pP (mV 23 1)], 0, [oO 24 (.call 67 [(.tmp 22), (.tmp 23)]),
 oO 25 (.bin .lss (.tmp 18) (.tmp 24))]⟩])
 (.cond (.tmp 25)
 (.reg [mV 26 6,
 mV 5 26])
 .skip)))
 (.reg [mV 11 6,
 oO 12 (.bin .add (.tmp 11) (cI 1)),
 mV 6 12]))))))
 (aR [mV 27 5,
 mV 4 27]
 .ret))))
def g45 : Fn := ⟨2, 28, [.tmp 4], b45⟩
def b46 : AC :=
 (aR [oO 2 (.mov (cI 0))]
 (aR [oO 3 (.mov (.con (.fn 80 [])))]
 (.seq (aR [mV 4 0,
 oO 5 (.len (.tmp 4)),
 oO 6 (.bin .lss (.tmp 5) (cI 1)),
 mV 7 6,
 gO 8 7 false (.mov (.tmp 0)),
 gO 9 7 false (.len (.tmp 8)),
 gO 10 7 false (.bin .gtr (.tmp 9) (cI 4)),
 oO 11 (.pick (.tmp 7) (.con (.bool true)) (.tmp 10)),
 mV 12 11,
 gO 13 12 false (.mov (.tmp 0)),
 gO 14 12 false (.mov (.tmp 3)),
 gO 15 12 false (.call 81 [(.tmp 13), (.tmp 14)]),
 oO 16 (.pick (.tmp 12) (.con (.bool true)) (.tmp 15))]
 (.cond (.tmp 16)
 (aR [oO 2 (.mov (cI 150))]
 .ret)
 .skip))
 (aR [oO 2 (.mov (cI 0))]
 .ret))))
def g46 : Fn := ⟨1, 17, [.tmp 2], b46⟩
def b47 : AC :=
 (aR [oO 1 (.box (.tmp 0)),
 oO 2 (.mov (.con (.bool false)))]
 (.seq (aR [lD 4 1,
 oO 5 (.len (.tmp 4)),
 oO 6 (.bin .gtr (.tmp 5) (cI 6))]
 (.cond (.tmp 6)
 (aR [oO 2 (.mov (.con (.bool false)))]
 .ret)
 .skip))
 (aR [oO 7 (.mkfn 82 [(.tmp 1)]),
 mV 3 7]
 (aR [lD 8 1,
 mV 9 3,
 oO 10 (.call 84 [(.tmp 8), (.tmp 9)]),
 oO 11 (.un .not (.tmp 10)),
 mV 2 11]
 .ret))))
def g47 : Fn := ⟨1, 12, [.tmp 2], b47⟩
def b48 : AC :=
 (aR [oO 2 (.alloc (.agg [(.int .u64 0), (.int .u64 0)]))]
 (aR [oO 3 (.alloc (.agg [(.int .u64 0), (.int .u64 0)]))]
 (.seq (aR [mV 6 0,
 oO 7 (.len (.tmp 6)),
 oO 8 (.mov (cI 0))]
 (.block 0 (.loop (aR [oO 9 (.bin .lss (.tmp 8) (.tmp 7))]
 (.seq (.cond (.tmp 9)
 .skip
 (.exit 0))
 (.seq (.block 1 (aR [oO 10 (.iaddr 2 (.tmp 6) (.tmp 8)),
 oO 11 (.load true 2 (.tmp 10)),
 oO 5 (.alloc (.agg [(.int .u64 0), (.int .u64 0)])),
 oN (.store 2 (.tmp 5) (.tmp 11))]
 (.reg [oO 12 (.load true 2 (.tmp 3)),
 oO 13 (.load true 2 (.tmp 5)),
 oO 14 (.call 85 [(.tmp 12), (.tmp 13)]),
 oN (.store 2 (.tmp 3) (.tmp 14))])))
 (.reg [oO 15 (.bin .add (.tmp 8) (cI 1)),
 mV 8 15])))))))
 (.seq (.regd [⟨[qQ (oO 16 (.load true 2 (.tmp 3))),
 qQ (oO 17 (.call 61 []))], 0, [oO 18 (.call 62 [(.tmp 16), (.tmp 17)]),
 oN (.store 2 (.tmp 2) (.tmp 18))]⟩])
 .ret))))
def g48 : Fn := ⟨1, 19, [.cell 2 true 2], b48⟩
def b49 : AC :=
 (aR [oO 1 (.box (.tmp 0)),
 oO 2 (.mov (cI 0))]
 (.seq (.seq (.regd [⟨[qQ (oO 3 (.load true 2 (.tmp 1))),
 qQ (oO 4 (.call 61 [])),
 qQ (oO 5 (.call 86 [(.tmp 3), (.tmp 4)])),
 pP (oO 6 (.build [(.int .u64 0), (.int .u64 0)] []))], 0, [oO 7 (.eqA true [.int, .int] (.tmp 5) (.tmp 6))]⟩])
 (.cond (.tmp 7)
 (aR [oO 2 (.mov (cI 200))]
 .ret)
 .skip))
 (aR [oO 2 (.mov (cI 0))]
 .ret)))
def g49 : Fn := ⟨1, 8, [.tmp 2], b49⟩
def b50 : AC :=
 (aR [oO 1 (.box (.tmp 0)),
 oO 2 (.mov (cI 0))]
 (aR [oO 3 (.mov (cI 0))]
 (.seq (.seq (.regd [⟨[qQ (oO 6 (.load true 2 (.tmp 1))),
 qQ (oO 7 (.call 61 [])),
 qQ (oO 8 (.call 62 [(.tmp 6), (.tmp 7)])),
 pP (oO 9 (.mov (cI 0)))], 0, []⟩])
 (.block 0 (.loop (aR [oO 10 (.bin .lss (.tmp 9) (cI 2))]
 (.seq (.cond (.tmp 10)
 .skip
 (.exit 0))
 (.seq (.block 1 (aR [oO 11 (.idxA false 2 1 (.tmp 8) (.tmp 9)),
 mV 5 11]
 (.reg [mV 12 3,
 mV 13 5,
 oO 14 (.call 87 [(.tmp 13)]),
 oO 15 (.bin .add (.tmp 12) (.tmp 14)),
 mV 3 15])))
 (.reg [oO 16 (.bin .add (.tmp 9) (cI 1)),
 mV 9 16])))))))
 (aR [mV 17 3,
 mV 2 17]
 .ret))))
def g50 : Fn := ⟨1, 18, [.tmp 2], b50⟩
def b55 : AC :=
 (aR [oO 3 (.box (.tmp 0)),
 oO 5 (.box (.tmp 2)),
 oO 6 (.alloc .nilS),
 oO 7 (.alloc (.int .i64 0))]
 (aR [oO 8 (.alloc .nilS)]
 (.seq (aR [mV 13 1]
 (.block 0 (.rangeF (.tmp 13) [14, 15]
 (aR [mV 9 14]
 (.reg [mV 10 15]))
 (.block 1 (aR [lD 17 5,
 mV 18 9,
 mV 19 10,
 oO 20 (.callv (.tmp 17) [(.tmp 18), (.tmp 19)]),
 mV 16 20,
 oO 21 (.ext (.tmp 16) 0),
 oO 22 (.ext (.tmp 16) 1),
 oO 11 (.alloc (.agg [(.int .u64 0), (.int .u64 0)])),
 oN (.store 2 (.tmp 11) (.tmp 21)),
 mV 12 22]
 (.seq (aR [mV 23 12,
 oO 24 (.bin .neq (.tmp 23) (cI 0))]
 (.cond (.tmp 24)
 (aR [mV 25 12,
 oN (.store 1 (.tmp 6) (.con .nilS)),
 oN (.store 1 (.tmp 7) (.tmp 25))]
 .ret)
 .skip))
 (.reg [lD 26 8,
 oO 27 (.load true 2 (.tmp 11)),
 oO 28 (.lit 2 [(.tmp 27)]),
 oO 29 (.append 2 16 (.tmp 26) (.tmp 28)),
 oN (.store 1 (.tmp 8) (.tmp 29))])))))))
 (aR [lD 30 8,
 oO 31 (.faddr (.tmp 3) 0),
 oO 32 (.faddr (.tmp 31) 1),
 lD 33 32,
 oO 34 (.call 92 [(.tmp 30), (.tmp 33)]),
 oO 35 (.ext (.tmp 34) 0),
 oO 36 (.ext (.tmp 34) 1),
 oN (.store 1 (.tmp 6) (.tmp 35)),
 oN (.store 1 (.tmp 7) (.tmp 36))]
 .ret))))
def g55 : Fn := ⟨3, 37, [.cell 6 false 1, .cell 7 false 1], b55⟩
def b60 : AC :=
 (aR [oO 3 (.box (.tmp 0)),
 oO 6 (.alloc (.agg [(.int .u64 0), (.int .u64 0)])),
 oO 7 (.mov (cI 0))]
 (aR [oO 11 (.faddr (.tmp 3) 0),
 oO 12 (.faddr (.tmp 11) 0),
 lD 13 12,
 mV 14 2,
 oO 15 (.call 70 [(.tmp 13), (.tmp 14)]),
 mV 10 15,
 oO 16 (.ext (.tmp 10) 0),
 oO 17 (.ext (.tmp 10) 1),
 mV 8 16,
 mV 9 17]
 (aR [mV 18 1,
 mV 19 8,
 oO 20 (.build [(.int .u64 0), (.int .u64 0)] [(0, 1, (.tmp 18)), (1, 1, (.tmp 19))]),
 mV 21 9,
 oN (.store 2 (.tmp 6) (.tmp 20)),
 mV 7 21]
 .ret)))
def g60 : Fn := ⟨3, 22, [.cell 6 true 2, .tmp 7], b60⟩
def b61 : AC :=
 (aR [oO 0 (.alloc (.agg [(.int .u64 0), (.int .u64 0)]))]
 (aR [oO 1 (.call 96 [(cI 96)]),
 oN (.store 2 (.tmp 0) (.tmp 1))]
 .ret))
def g61 : Fn := ⟨0, 2, [.cell 0 true 2], b61⟩
def b62 : AC :=
 (aR [oO 2 (.box (.tmp 0)),
 oO 3 (.box (.tmp 1)),
 oO 4 (.alloc (.agg [(.int .u64 0), (.int .u64 0)]))]
 (aR [oO 5 (.load true 2 (.tmp 2)),
 oO 6 (.load true 2 (.tmp 3)),
 oO 7 (.call 97 [(.tmp 5), (.tmp 6), (.con (.fn 98 []))]),
 oN (.store 2 (.tmp 4) (.tmp 7))]
 .ret))
def g62 : Fn := ⟨2, 8, [.cell 4 true 2], b62⟩
def b63 : AC :=
 (aR [oO 2 (.mov (.con (.bool false)))]
 (aR [mV 3 0,
 oO 4 (.len (.tmp 3)),
 oO 5 (.bin .leq (.tmp 4) (cI 6)),
 mV 6 5,
 gO 7 6 true (.mov (.tmp 0)),
 gO 8 6 true (.call 99 [(.tmp 7)]),
 gO 9 6 true (.bin .eql (.tmp 8) (cI 0)),
 oO 10 (.pick (.tmp 6) (.tmp 9) (.con (.bool false))),
 mV 2 10]
 .ret))
def g63 : Fn := ⟨1, 11, [.tmp 2], b63⟩
def b67 : AC :=
 (aR [oO 4 (.mov (.con (.int .u64 0)))]
 (aR [oO 5 (.mov (.con (.int .u64 0)))]
 (.seq (aR [oO 6 (.mov (cI 0))]
 (.block 0 (.loop (.seq (aR [mV 8 6,
 mV 9 0,
 oO 10 (.len (.tmp 9)),
 oO 11 (.bin .lss (.tmp 8) (.tmp 10))]
 (.cond (.tmp 11)
 .skip
 (.exit 0)))
 (.seq (.block 1 (.seq (.regd [⟨[pP (mV 14 0),
 pP (mV 15 6),
 pP (oO 16 (.iaddr 1 (.tmp 14) (.tmp 15))),
 qQ (lD 17 16),
 pP (oO 18 (.conv .i64 (.tmp 17))),
 pP (mV 19 1),
 pP (mV 20 6),
 pP (oO 21 (.iaddr 1 (.tmp 19) (.tmp 20))),
 qQ (lD 22 21),
 pP (oO 23 (.conv .i64 (.tmp 22)))], 0, [oO 24 (.bin .sub (.tmp 18) (.tmp 23)),
 mV 7 24]⟩])
 (.seq (aR [mV 25 7,
 oO 26 (.bin .lss (.tmp 25) (cI 0))]
 (.cond (.tmp 26)
 (.reg [mV 27 7,
 oO 28 (.un .neg (.tmp 27)),
 mV 7 28])
 .skip))
 (.reg [mV 29 5,
 mV 30 7,
 oO 31 (.conv .u64 (.tmp 30)),
 mV 32 7,
 oO 33 (.conv .u64 (.tmp 32)),
 oO 34 (.bin .mul (.tmp 31) (.tmp 33)),
 oO 35 (.bin .add (.tmp 29) (.tmp 34)),
 mV 5 35]))))
 (.reg [mV 12 6,
 oO 13 (.bin .add (.tmp 12) (cI 1)),
 mV 6 13]))))))
 (aR [mV 36 5,
 mV 4 36]
 .ret))))
def g67 : Fn := ⟨2, 37, [.tmp 4], b67⟩
def b68 : AC :=
 (aR [oO 4 (.mov (.con .nilS))]
 (aR [mV 6 0,
 oO 7 (.call 104 [(.tmp 6)]),
 mV 5 7]
 (aR [mV 8 5,
 mV 9 1,
 mV 10 5,
 oO 11 (.len (.tmp 10)),
 oO 12 (.min [(.tmp 9), (.tmp 11)]),
 oO 13 (.slice 2 (.tmp 8) none (some (.tmp 12))),
 mV 4 13]
 .ret)))
def g68 : Fn := ⟨2, 14, [.tmp 4], b68⟩
def b69 : AC :=
 (aR [oO 4 (.mov (cI 0))]
 (.seq (aR [mV 6 0,
 oO 7 (.len (.tmp 6)),
 oO 8 (.mov (cI 0))]
 (.block 0 (.loop (aR [oO 9 (.bin .lss (.tmp 8) (.tmp 7))]
 (.seq (.cond (.tmp 9)
 .skip
 (.exit 0))
 (.seq (.block 1 (aR [mV 10 8,
 mV 5 10]
 (aR [mV 11 1,
 mV 12 0,
 mV 13 5,
 oO 14 (.iaddr 2 (.tmp 12) (.tmp 13)),
 oO 15 (.load true 2 (.tmp 14)),
 oO 16 (.callv (.tmp 11) [(.tmp 15)])]
 (.cond (.tmp 16)
 (aR [mV 17 5,
 mV 4 17]
 .ret)
 .skip))))
 (.reg [oO 18 (.bin .add (.tmp 8) (cI 1)),
 mV 8 18])))))))
 (aR [oO 4 (.mov (cI (-1)))]
 .ret)))
def g69 : Fn := ⟨2, 19, [.tmp 4], b69⟩
def b70 : AC :=
 (aR [oO 4 (.mov (.con (.int .u64 0))),
 oO 5 (.mov (cI 0))]
 (.seq (aR [mV 7 0,
 mV 8 1,
 oO 9 (.lit 1 [(.tmp 7), (.tmp 8)]),
 oO 10 (.call 76 [(.tmp 9)]),
 mV 6 10]
 (aR [mV 11 6,
 oO 12 (.bin .neq (.tmp 11) (cI 0))]
 (.cond (.tmp 12)
 (aR [mV 13 6,
 oO 4 (.mov (.con (.int .u64 0))),
 mV 5 13]
 .ret)
 .skip)))
 (aR [mV 14 0,
 mV 15 1,
 oO 16 (.call 77 [(.tmp 14), (.tmp 15)]),
 mV 4 16,
 oO 5 (.mov (cI 0))]
 .ret)))
def g70 : Fn := ⟨2, 17, [.tmp 4, .tmp 5], b70⟩
def b71 : AC :=
 (aR [mV 5 0,
 oO 6 (.len (.tmp 5)),
 mV 4 6]
 (.reg [mV 7 0,
 mV 8 4,
 mV 9 4,
 oO 10 (.conv .u64 (.tmp 9)),
 oO 11 (.call 106 [(.tmp 10)]),
 mV 12 1,
 oO 13 (.call 105 [(.tmp 7), (cI 0), (.tmp 8), (.tmp 11), (.tmp 12)])]))
def g71 : Fn := ⟨2, 14, [], b71⟩
def b72 : AC :=
 (aR [oO 2 (.box (.tmp 0)),
 oO 3 (.box (.tmp 1)),
 oO 4 (.mov (cI 0))]
 (.seq (.regd [⟨[pP (oO 5 (.faddr (.tmp 2) 1)),
 qQ (lD 6 5),
 pP (oO 7 (.faddr (.tmp 3) 1)),
 qQ (lD 8 7),
 qQ (oO 9 (.call 74 [(.tmp 6), (.tmp 8)])),
 pP (oO 10 (.faddr (.tmp 2) 0)),
 qQ (lD 11 10),
 pP (oO 12 (.faddr (.tmp 3) 0)),
 qQ (lD 13 12)], 0, [oO 14 (.call 74 [(.tmp 11), (.tmp 13)]),
 oO 15 (.lit 1 [(.tmp 9), (.tmp 14)]),
 oO 16 (.call 73 [(.tmp 15)]),
 mV 4 16]⟩])
 .ret))
def g72 : Fn := ⟨2, 17, [.tmp 4], b72⟩
def b73 : AC :=
 (aR [oO 2 (.mov (cI 0))]
 (aR [oO 3 (.mov (cI 0))]
 (.seq (aR [mV 6 0,
 oO 7 (.len (.tmp 6)),
 oO 8 (.mov (cI 0))]
 (.block 0 (.loop (aR [oO 9 (.bin .lss (.tmp 8) (.tmp 7))]
 (.seq (.cond (.tmp 9)
 .skip
 (.exit 0))
 (.seq (.block 1 (aR [oO 10 (.iaddr 1 (.tmp 6) (.tmp 8)),
 lD 11 10,
 mV 5 11]
 (aR [mV 12 5,
 mV 13 3,
 oO 14 (.bin .neq (.tmp 12) (.tmp 13))]
 (.cond (.tmp 14)
 (aR [mV 15 5,
 mV 2 15]
 .ret)
 .skip))))
 (.reg [oO 16 (.bin .add (.tmp 8) (cI 1)),
 mV 8 16])))))))
 (aR [mV 17 3,
 mV 2 17]
 .ret))))
def g73 : Fn := ⟨1, 18, [.tmp 2], b73⟩
def b74 : AC :=
 (aR [oO 4 (.mov (cI 0))]
 (aR [mV 7 0,
 oO 8 (.call 107 [(.tmp 7)]),
 mV 5 8]
 (aR [mV 9 1,
 oO 10 (.call 107 [(.tmp 9)]),
 mV 6 10]
 (.seq (aR [mV 11 5]
 (.cond (.tmp 11)
 (.seq (aR [mV 12 6]
 (.cond (.tmp 12)
 (aR [oO 4 (.mov (cI 0))]
 .ret)
 .skip))
 (aR [oO 4 (.mov (cI (-1)))]
 .ret))
 .skip))
 (.seq (aR [mV 13 6]
 (.cond (.tmp 13)
 (aR [oO 4 (.mov (cI 1))]
 .ret)
 .skip))
 (.seq (aR [mV 14 0,
 mV 15 1,
 oO 16 (.bin .lss (.tmp 14) (.tmp 15))]
 (.cond (.tmp 16)
 (aR [oO 4 (.mov (cI (-1)))]
 .ret)
 .skip))
 (.seq (aR [mV 17 0,
 mV 18 1,
 oO 19 (.bin .gtr (.tmp 17) (.tmp 18))]
 (.cond (.tmp 19)
 (aR [oO 4 (.mov (cI 1))]
 .ret)
 .skip))
 (aR [oO 4 (.mov (cI 0))]
 .ret))))))))
def g74 : Fn := ⟨2, 20, [.tmp 4], b74⟩
def b75 : AC :=
 (aR [lD 6 1,
 oO 7 (.len (.tmp 6)),
 oO 8 (.mov (cI 0))]
 (.block 0 (.loop (aR [oO 9 (.bin .lss (.tmp 8) (.tmp 7))]
 (.seq (.cond (.tmp 9)
 .skip
 (.exit 0))
 (.seq (.block 1 (aR [mV 10 8,
 oO 11 (.iaddr 2 (.tmp 6) (.tmp 8)),
 oO 12 (.load true 2 (.tmp 11)),
 oO 5 (.alloc (.agg [(.int .u64 0), (.int .u64 0)])),
 mV 4 10,
 oN (.store 2 (.tmp 5) (.tmp 12))]
 (aR [mV 13 4,
 oO 14 (.faddr (.tmp 2) 0),
 oO 15 (.faddr (.tmp 14) 3),
 lD 16 15,
 oO 17 (.bin .eql (.tmp 13) (.tmp 16)),
 mV 18 17,
 gO 19 18 false (.mov (.tmp 0)),
 gO 20 18 false (.faddr (.tmp 5) 0),
 gO 21 18 false (.load false 1 (.tmp 20)),
 gO 22 18 false (.conv .i64 (.tmp 21)),
 gO 23 18 false (.callv (.tmp 19) [(.tmp 22)]),
 gO 24 18 false (.un .not (.tmp 23)),
 oO 25 (.pick (.tmp 18) (.con (.bool true)) (.tmp 24))]
 (.cond (.tmp 25)
 .ret
 .skip))))
 (.reg [oO 26 (.bin .add (.tmp 8) (cI 1)),
 mV 8 26])))))))
def g75 : Fn := ⟨3, 27, [], b75⟩
def b76 : AC :=
 (aR [oO 1 (.box (.tmp 0)),
 oO 2 (.mov (cI 0))]
 (.seq (aR [lD 7 1,
 oO 8 (.len (.tmp 7)),
 oO 9 (.mov (cI 0))]
 (.block 0 (.loop (aR [oO 10 (.bin .lss (.tmp 9) (.tmp 8))]
 (.seq (.cond (.tmp 10)
 .skip
 (.exit 0))
 (.seq (.block 1 (aR [oO 11 (.iaddr 1 (.tmp 7) (.tmp 9)),
 lD 12 11,
 mV 4 12]
 (aR [mV 13 4,
 oO 14 (.call 46 [(.tmp 13)]),
 mV 5 14]
 (aR [mV 15 5,
 oO 16 (.bin .neq (.tmp 15) (cI 0))]
 (.cond (.tmp 16)
 (aR [mV 17 5,
 mV 2 17]
 .ret)
 .skip)))))
 (.reg [oO 18 (.bin .add (.tmp 9) (cI 1)),
 mV 9 18])))))))
 (aR [oO 19 (.mkfn 108 [(.tmp 1)]),
 mV 6 19]
 (.seq (aR [lD 20 1,
 mV 21 6,
 oO 22 (.call 84 [(.tmp 20), (.tmp 21)])]
 (.cond (.tmp 22)
 (aR [oO 2 (.mov (cI 151))]
 .ret)
 .skip))
 (aR [oO 2 (.mov (cI 0))]
 .ret)))))
def g76 : Fn := ⟨1, 23, [.tmp 2], b76⟩
def b77 : AC :=
 (aR [oO 4 (.mov (.con (.int .u64 0)))]
 (aR [oO 5 (.alloc (.int .u64 0)),
 oN (.store 1 (.tmp 5) (.con (.int .u64 0)))]
 (.seq (aR [mV 9 0,
 mV 10 1,
 oO 11 (.call 109 [(.tmp 9), (.tmp 10)])]
 (.block 0 (.rangeF (.tmp 11) [12, 13]
 (aR [mV 6 12]
 (.reg [mV 7 13]))
 (.block 1 (aR [mV 14 6,
 mV 15 7,
 oO 16 (.bin .sub (.tmp 14) (.tmp 15)),
 mV 17 7,
 mV 18 6,
 oO 19 (.bin .sub (.tmp 17) (.tmp 18)),
 oO 20 (.max [(.tmp 16), (.tmp 19)]),
 oO 21 (.conv .u64 (.tmp 20)),
 mV 8 21]
 (.reg [lD 22 5,
 mV 23 8,
 mV 24 8,
 oO 25 (.bin .mul (.tmp 23) (.tmp 24)),
 oO 26 (.bin .add (.tmp 22) (.tmp 25)),
 oN (.store 1 (.tmp 5) (.tmp 26))]))))))
 (aR [lD 27 5,
 mV 4 27]
 .ret))))
def g77 : Fn := ⟨2, 28, [.tmp 4], b77⟩
def b78 : AC :=
 (aR [oO 2 (.box (.tmp 0)),
 oO 3 (.box (.tmp 1)),
 oO 4 (.mov (cI 0))]
 (.seq (.regd [⟨[pP (oO 5 (.faddr (.tmp 2) 1)),
 qQ (lD 6 5),
 pP (oO 7 (.faddr (.tmp 3) 1)),
 qQ (lD 8 7),
 qQ (oO 9 (.call 74 [(.tmp 6), (.tmp 8)])),
 pP (oO 10 (.faddr (.tmp 2) 0)),
 qQ (lD 11 10),
 pP (oO 12 (.faddr (.tmp 3) 0)),
 qQ (lD 13 12)], 0, [oO 14 (.call 74 [(.tmp 11), (.tmp 13)]),
 oO 15 (.lit 1 [(.tmp 9), (.tmp 14)]),
 oO 16 (.call 73 [(.tmp 15)]),
 mV 4 16]⟩])
 .ret))
def g78 : Fn := ⟨2, 17, [.tmp 4], b78⟩
def b79 : AC :=
 (aR [lD 5 1,
 oO 6 (.len (.tmp 5)),
 oO 7 (.mov (cI 0))]
 (.block 0 (.loop (aR [oO 8 (.bin .lss (.tmp 7) (.tmp 6))]
 (.seq (.cond (.tmp 8)
 .skip
 (.exit 0))
 (.seq (.block 1 (aR [oO 9 (.iaddr 2 (.tmp 5) (.tmp 7)),
 oO 10 (.load true 2 (.tmp 9)),
 oO 4 (.alloc (.agg [(.int .u64 0), .nilS])),
 oN (.store 2 (.tmp 4) (.tmp 10))]
 (aR [mV 11 0,
 oO 12 (.faddr (.tmp 4) 0),
 lD 13 12,
 oO 14 (.faddr (.tmp 4) 1),
 lD 15 14,
 oO 16 (.callv (.tmp 11) [(.tmp 13), (.tmp 15)]),
 oO 17 (.un .not (.tmp 16))]
 (.cond (.tmp 17)
 .ret
 .skip))))
 (.reg [oO 18 (.bin .add (.tmp 7) (cI 1)),
 mV 7 18])))))))
def g79 : Fn := ⟨2, 19, [], b79⟩
def b80 : AC :=
 (aR [oO 2 (.mov (.con (.bool false)))]
 (aR [mV 3 0,
 oO 4 (.bin .lss (.tmp 3) (.con (.int .i32 (-1073741823)))),
 mV 5 4,
 gO 6 5 false (.mov (.tmp 0)),
 gO 7 5 false (.bin .gtr (.tmp 6) (.con (.int .i32 1073741823))),
 oO 8 (.pick (.tmp 5) (.con (.bool true)) (.tmp 7)),
 mV 2 8]
 .ret))
def g80 : Fn := ⟨1, 9, [.tmp 2], b80⟩
def b81 : AC :=
 (aR [oO 4 (.mov (.con (.bool false)))]
 (aR [mV 5 0,
 mV 6 1,
 oO 7 (.call 110 [(.tmp 5), (.tmp 6)]),
 oO 8 (.bin .geq (.tmp 7) (cI 0)),
 mV 4 8]
 .ret))
def g81 : Fn := ⟨2, 9, [.tmp 4], b81⟩
def b82 : AC :=
 (aR [oO 3 (.mov (.con (.bool false)))]
 (aR [mV 4 0,
 lD 5 1,
 oO 6 (.iaddr 1 (.tmp 5) (cI 0)),
 lD 7 6,
 oO 8 (.len (.tmp 7)),
 oO 9 (.call 83 [(.tmp 4), (.tmp 8)]),
 oO 10 (.bin .neq (.tmp 9) (cI 0)),
 mV 3 10]
 .ret))
def g82 : Fn := ⟨2, 11, [.tmp 3], b82⟩
def b83 : AC :=
 (aR [oO 4 (.mov (cI 0))]
 (.seq (aR [mV 6 0,
 oO 7 (.call 46 [(.tmp 6)]),
 mV 5 7]
 (aR [mV 8 5,
 oO 9 (.bin .neq (.tmp 8) (cI 0))]
 (.cond (.tmp 9)
 (aR [mV 10 5,
 mV 4 10]
 .ret)
 .skip)))
 (.seq (aR [mV 11 0,
 oO 12 (.len (.tmp 11)),
 mV 13 1,
 oO 14 (.bin .neq (.tmp 12) (.tmp 13))]
 (.cond (.tmp 14)
 (aR [oO 4 (.mov (cI 151))]
 .ret)
 .skip))
 (aR [oO 4 (.mov (cI 0))]
 .ret))))
def g83 : Fn := ⟨2, 15, [.tmp 4], b83⟩
def b84 : AC :=
 (aR [oO 4 (.mov (.con (.bool false)))]
 (aR [mV 5 0,
 mV 6 1,
 oO 7 (.call 111 [(.tmp 5), (.tmp 6)]),
 oO 8 (.bin .geq (.tmp 7) (cI 0)),
 mV 4 8]
 .ret))
def g84 : Fn := ⟨2, 9, [.tmp 4], b84⟩
def b85 : AC :=
 (aR [oO 2 (.box (.tmp 0)),
 oO 3 (.box (.tmp 1)),
 oO 4 (.alloc (.agg [(.int .u64 0), (.int .u64 0)]))]
 (aR [oO 5 (.load true 2 (.tmp 2)),
 oO 6 (.load true 2 (.tmp 3)),
 oO 7 (.call 97 [(.tmp 5), (.tmp 6), (.con (.fn 112 []))]),
 oN (.store 2 (.tmp 4) (.tmp 7))]
 .ret))
def g85 : Fn := ⟨2, 8, [.cell 4 true 2], b85⟩
def b86 : AC :=
 (aR [oO 2 (.box (.tmp 0)),
 oO 3 (.box (.tmp 1)),
 oO 4 (.alloc (.agg [(.int .u64 0), (.int .u64 0)]))]
 (aR [oO 5 (.load true 2 (.tmp 2)),
 oO 6 (.load true 2 (.tmp 3)),
 oO 7 (.call 97 [(.tmp 5), (.tmp 6), (.con (.fn 113 []))]),
 oN (.store 2 (.tmp 4) (.tmp 7))]
 .ret))
def g86 : Fn := ⟨2, 8, [.cell 4 true 2], b86⟩
def b87 : AC :=
 (aR [oO 2 (.mov (cI 0))]
 (aR [mV 3 0,
 oO 4 (.bin .shr (.tmp 3) (.con (.int .u64 1))),
 oO 5 (.bin .and (.tmp 4) (.con (.int .u64 6148914691236517205))),
 mV 6 0,
 oO 7 (.bin .and (.tmp 6) (.con (.int .u64 6148914691236517205))),
 oO 8 (.bin .add (.tmp 5) (.tmp 7)),
 mV 0 8]
 (aR [mV 9 0,
 oO 10 (.bin .shr (.tmp 9) (.con (.int .u64 2))),
 oO 11 (.bin .and (.tmp 10) (.con (.int .u64 3689348814741910323))),
 mV 12 0,
 oO 13 (.bin .and (.tmp 12) (.con (.int .u64 3689348814741910323))),
 oO 14 (.bin .add (.tmp 11) (.tmp 13)),
 mV 0 14]
 (aR [mV 15 0,
 oO 16 (.bin .shr (.tmp 15) (.con (.int .u64 4))),
 mV 17 0,
 oO 18 (.bin .add (.tmp 16) (.tmp 17)),
 oO 19 (.bin .and (.tmp 18) (.con (.int .u64 1085102592571150095))),
 mV 0 19]
 (aR [mV 20 0,
 mV 21 0,
 oO 22 (.bin .shr (.tmp 21) (.con (.int .u64 8))),
 oO 23 (.bin .add (.tmp 20) (.tmp 22)),
 mV 0 23]
 (aR [mV 24 0,
 mV 25 0,
 oO 26 (.bin .shr (.tmp 25) (.con (.int .u64 16))),
 oO 27 (.bin .add (.tmp 24) (.tmp 26)),
 mV 0 27]
 (aR [mV 28 0,
 mV 29 0,
 oO 30 (.bin .shr (.tmp 29) (.con (.int .u64 32))),
 oO 31 (.bin .add (.tmp 28) (.tmp 30)),
 mV 0 31]
 (aR [mV 32 0,
 oO 33 (.conv .i64 (.tmp 32)),
 oO 34 (.bin .and (.tmp 33) (cI 127)),
 mV 2 34]
 .ret))))))))
def g87 : Fn := ⟨1, 35, [.tmp 2], b87⟩
def b92 : AC :=
 (aR [oO 4 (.mov (.con .nilS)),
 oO 5 (.mov (cI 0))]
 (aR [mV 6 1,
 mV 7 0,
 oO 8 (.lit 1 [(.tmp 7)]),
 oO 9 (.call 115 [(.tmp 6), (.tmp 8)]),
 oO 10 (.ext (.tmp 9) 0),
 oO 11 (.ext (.tmp 9) 1),
 mV 4 10,
 mV 5 11]
 .ret))
def g92 : Fn := ⟨2, 12, [.tmp 4, .tmp 5], b92⟩
def b96 : AC :=
 (aR [oO 2 (.alloc (.agg [(.int .u64 0), (.int .u64 0)]))]
 (aR [oO 3 (.alloc (.agg [(.int .u64 0), (.int .u64 0)]))]
 (.seq (aR [oO 6 (.mov (cI 0))]
 (.block 0 (.loop (aR [oO 7 (.bin .lss (.tmp 6) (cI 2))]
 (.seq (.cond (.tmp 7)
 .skip
 (.exit 0))
 (.seq (.block 1 (aR [mV 8 6,
 mV 4 8]
 (aR [mV 9 0,
 mV 10 4,
 oO 11 (.bin .mul (cI 64) (.tmp 10)),
 oO 12 (.bin .sub (.tmp 9) (.tmp 11)),
 mV 5 12]
 (aR [mV 13 5,
 oO 14 (.bin .geq (.tmp 13) (cI 64))]
 (.cond (.tmp 14)
 (.reg [mV 15 4,
 oO 16 (.iaddrA 2 1 (.tmp 3) (.tmp 15)),
 oN (.store 1 (.tmp 16) (.con (.int .u64 18446744073709551615)))])
 (aR [mV 17 5,
 oO 18 (.bin .gtr (.tmp 17) (cI 0))]
 (.cond (.tmp 18)
 (.reg [mV 19 4,
 mV 20 5,
 oO 21 (.bin .shl (.con (.int .u64 1)) (.tmp 20)),
 oO 22 (.bin .sub (.tmp 21) (.con (.int .u64 1))),
 oO 23 (.iaddrA 2 1 (.tmp 3) (.tmp 19)),
 oN (.store 1 (.tmp 23) (.tmp 22))])
 .skip)))))))
 (.reg [oO 24 (.bin .add (.tmp 6) (cI 1)),
 mV 6 24])))))))
 (aR [oO 25 (.load true 2 (.tmp 3)),
 oN (.store 2 (.tmp 2) (.tmp 25))]
 .ret))))
def g96 : Fn := ⟨1, 26, [.cell 2 true 2], b96⟩
def b97 : AC :=
 (aR [oO 3 (.box (.tmp 0)),
 oO 4 (.box (.tmp 1)),
 oO 6 (.alloc (.agg [(.int .u64 0), (.int .u64 0)]))]
 (.seq (aR [oO 8 (.mov (cI 0))]
 (.block 0 (.loop (aR [oO 9 (.bin .lss (.tmp 8) (cI 2))]
 (.seq (.cond (.tmp 9)
 .skip
 (.exit 0))
 (.seq (.block 1 (aR [mV 10 8,
 mV 7 10]
 (.regd [⟨[pP (mV 11 7),
 pP (mV 12 2),
 pP (mV 13 7),
 pP (oO 14 (.iaddrA 2 1 (.tmp 3) (.tmp 13))),
 qQ (lD 15 14),
 pP (mV 16 7),
 pP (oO 17 (.iaddrA 2 1 (.tmp 4) (.tmp 16))),
 qQ (lD 18 17),
 qQ (oO 19 (.callv (.tmp 12) [(.tmp 15), (.tmp 18)]))], 0, [oO 20 (.iaddrA 2 1 (.tmp 3) (.tmp 11)),
 oN (.store 1 (.tmp 20) (.tmp 19))]⟩])))
 (.reg [oO 21 (.bin .add (.tmp 8) (cI 1)),
 mV 8 21])))))))
 (aR [oO 22 (.load true 2 (.tmp 3)),
 oN (.store 2 (.tmp 6) (.tmp 22))]
 .ret)))
def g97 : Fn := ⟨3, 23, [.cell 6 true 2], b97⟩
def b98 : AC :=
 (aR [oO 4 (.mov (.con (.int .u64 0)))]
 (aR [mV 5 0,
 mV 6 1,
 oO 7 (.bin .and (.tmp 5) (.tmp 6)),
 mV 4 7]
 .ret))
def g98 : Fn := ⟨2, 8, [.tmp 4], b98⟩
def b99 : AC :=
 (aR [oO 2 (.mov (cI 0))]
 (.seq (aR [oO 3 (.mov (cI 0))]
 (.block 0 (.loop (.seq (aR [mV 5 3,
 mV 6 0,
 oO 7 (.len (.tmp 6)),
 oO 8 (.bin .lss (.tmp 5) (.tmp 7))]
 (.cond (.tmp 8)
 .skip
 (.exit 0)))
 (.seq (.block 1 (aR [mV 11 0,
 mV 12 3,
 oO 13 (.iaddr 1 (.tmp 11) (.tmp 12)),
 lD 14 13,
 oO 15 (.call 36 [(.tmp 14)]),
 oO 16 (.un .not (.tmp 15))]
 (.cond (.tmp 16)
 (aR [oO 2 (.mov (cI 150))]
 .ret)
 .skip)))
 (.reg [mV 9 3,
 oO 10 (.bin .add (.tmp 9) (cI 1)),
 mV 3 10]))))))
 (.seq (aR [oO 4 (.mov (cI 0))]
 (.block 2 (.loop (.seq (aR [mV 17 4,
 mV 18 0,
 oO 19 (.len (.tmp 18)),
 oO 20 (.bin .lss (.tmp 17) (.tmp 19))]
 (.cond (.tmp 20)
 .skip
 (.exit 2)))
 (.seq (.block 3 (.seq (.regd [⟨[pP (mV 23 0),
 pP (mV 24 4),
 pP (oO 25 (.iaddr 1 (.tmp 23) (.tmp 24))),
 qQ (lD 26 25),
 pP (oO 27 (.len (.tmp 26))),
 pP (mV 28 0),
 pP (oO 29 (.iaddr 1 (.tmp 28) (cI 0))),
 qQ (lD 30 29),
 pP (oO 31 (.len (.tmp 30)))], 0, [oO 32 (.bin .neq (.tmp 27) (.tmp 31))]⟩])
 (.cond (.tmp 32)
 (aR [oO 2 (.mov (cI 151))]
 .ret)
 .skip)))
 (.reg [mV 21 4,
 oO 22 (.bin .add (.tmp 21) (cI 1)),
 mV 4 22]))))))
 (aR [oO 2 (.mov (cI 0))]
 .ret))))
def g99 : Fn := ⟨1, 33, [.tmp 2], b99⟩
def b104 : AC :=
 (aR [oO 2 (.mov (.con .nilS))]
 (aR [oO 3 (.mov (.con .nilS))]
 (.seq (aR [mV 8 0,
 oO 9 (.len (.tmp 8)),
 oO 10 (.mov (cI 0))]
 (.block 0 (.loop (aR [oO 11 (.bin .lss (.tmp 10) (.tmp 9))]
 (.seq (.cond (.tmp 11)
 .skip
 (.exit 0))
 (.seq (.block 1 (aR [oO 12 (.iaddr 2 (.tmp 8) (.tmp 10)),
 oO 13 (.load true 2 (.tmp 12)),
 oO 5 (.alloc (.agg [(.int .u64 0), (.int .u64 0)])),
 oN (.store 2 (.tmp 5) (.tmp 13))]
 (aR [oO 6 (.mov (cI 0))]
 (.seq (.block 2 (.loop (.seq (.seq (.regd [⟨[pP (mV 14 6),
 pP (mV 15 3),
 pP (oO 16 (.len (.tmp 15)))], 0, [oO 17 (.bin .lss (.tmp 14) (.tmp 16)),
 mV 18 17]⟩,
 ⟨[qQ (gO 19 18 true (.load true 2 (.tmp 5))),
 pP (gO 20 18 true (.mov (.tmp 3))),
 pP (gO 21 18 true (.mov (.tmp 6))),
 pP (gO 22 18 true (.iaddr 2 (.tmp 20) (.tmp 21))),
 qQ (gO 23 18 true (.load true 2 (.tmp 22)))], 0, [gO 24 18 true (.call 117 [(.tmp 19), (.tmp 23)]),
 gO 25 18 true (.un .not (.tmp 24)),
 oO 26 (.pick (.tmp 18) (.tmp 25) (.con (.bool false)))]⟩])
 (.cond (.tmp 26)
 .skip
 (.exit 2)))
 (.block 3 (.reg [mV 27 6,
 oO 28 (.bin .add (.tmp 27) (cI 1)),
 mV 6 28])))))
 (aR [mV 29 3,
 oO 30 (.load true 2 (.tmp 5)),
 oO 31 (.lit 2 [(.tmp 30)]),
 oO 32 (.append 2 16 (.tmp 29) (.tmp 31)),
 mV 3 32]
 (aR [mV 33 3,
 oO 34 (.len (.tmp 33)),
 oO 35 (.bin .sub (.tmp 34) (cI 1)),
 mV 7 35]
 (.block 4 (.loop (.seq (aR [mV 36 7,
 mV 37 6,
 oO 38 (.bin .gtr (.tmp 36) (.tmp 37))]
 (.cond (.tmp 38)
 .skip
 (.exit 4)))
 (.seq (.block 5 (.regd [⟨[pP (mV 41 3),
 pP (mV 42 7),
 pP (mV 43 3),
 pP (mV 44 7),
 pP (oO 45 (.bin .sub (.tmp 44) (cI 1))),
 pP (mV 46 3),
 pP (mV 47 7),
 pP (oO 48 (.bin .sub (.tmp 47) (cI 1))),
 pP (oO 49 (.iaddr 2 (.tmp 46) (.tmp 48))),
 qQ (oO 50 (.load true 2 (.tmp 49))),
 pP (mV 51 3),
 pP (mV 52 7),
 pP (oO 53 (.iaddr 2 (.tmp 51) (.tmp 52))),
 qQ (oO 54 (.load true 2 (.tmp 53))),
 pP (oO 55 (.iaddr 2 (.tmp 41) (.tmp 42))),
 ⟨oN (.store 2 (.tmp 55) (.tmp 50)), false, true, false, 0, [], none⟩], 0, [oO 56 (.iaddr 2 (.tmp 43) (.tmp 45)),
 oN (.store 2 (.tmp 56) (.tmp 54))]⟩]))
 (.reg [mV 39 7,
 oO 40 (.bin .sub (.tmp 39) (cI 1)),
 mV 7 40])))))))))))
 (.reg [oO 57 (.bin .add (.tmp 10) (cI 1)),
 mV 10 57])))))))
 (aR [mV 58 3,
 mV 2 58]
 .ret))))
def g104 : Fn := ⟨1, 59, [.tmp 2], b104⟩
def b105 : AC :=
 (aR [oO 10 (.mov (.con (.bool true)))]
 (aR [oO 11 (.mov (.con (.bool true)))]
 (.block 0 (.loop (.block 1 (aR [mV 21 2,
 mV 22 1,
 oO 23 (.bin .sub (.tmp 21) (.tmp 22)),
 mV 12 23]
 (.seq (aR [mV 24 12,
 oO 25 (.bin .leq (.tmp 24) (cI 12))]
 (.cond (.tmp 25)
 (aR [mV 26 0,
 mV 27 1,
 mV 28 2,
 mV 29 4,
 oO 30 (.call 118 [(.tmp 26), (.tmp 27), (.tmp 28), (.tmp 29)])]
 .ret)
 .skip))
 (.seq (aR [mV 31 3,
 oO 32 (.bin .eql (.tmp 31) (cI 0))]
 (.cond (.tmp 32)
 (aR [mV 33 0,
 mV 34 1,
 mV 35 2,
 mV 36 4,
 oO 37 (.call 119 [(.tmp 33), (.tmp 34), (.tmp 35), (.tmp 36)])]
 .ret)
 .skip))
 (.seq (aR [mV 38 10,
 oO 39 (.un .not (.tmp 38))]
 (.cond (.tmp 39)
 (aR [mV 40 0,
 mV 41 1,
 mV 42 2,
 mV 43 4,
 oO 44 (.call 120 [(.tmp 40), (.tmp 41), (.tmp 42), (.tmp 43)])]
 (.reg [mV 45 3,
 oO 46 (.bin .sub (.tmp 45) (cI 1)),
 mV 3 46]))
 .skip))
 (aR [mV 48 0,
 mV 49 1,
 mV 50 2,
 mV 51 4,
 oO 52 (.call 121 [(.tmp 48), (.tmp 49), (.tmp 50), (.tmp 51)]),
 mV 47 52,
 oO 53 (.ext (.tmp 47) 0),
 oO 54 (.ext (.tmp 47) 1),
 mV 13 53,
 mV 14 54]
 (.seq (aR [mV 55 14,
 oO 56 (.bin .eql (.tmp 55) (cI 2))]
 (.cond (.tmp 56)
 (aR [mV 57 0,
 mV 58 1,
 mV 59 2,
 mV 60 4,
 oO 61 (.call 122 [(.tmp 57), (.tmp 58), (.tmp 59), (.tmp 60)])]
 (aR [mV 62 2,
 oO 63 (.bin .sub (.tmp 62) (cI 1)),
 mV 64 13,
 mV 65 1,
 oO 66 (.bin .sub (.tmp 64) (.tmp 65)),
 oO 67 (.bin .sub (.tmp 63) (.tmp 66)),
 mV 13 67]
 (.reg [oO 14 (.mov (cI 1))])))
 .skip))
 (.seq (aR [mV 68 10,
 mV 69 68,
 gO 70 69 true (.mov (.tmp 11)),
 oO 71 (.pick (.tmp 69) (.tmp 70) (.con (.bool false))),
 mV 72 71,
 gO 73 72 true (.mov (.tmp 14)),
 gO 74 72 true (.bin .eql (.tmp 73) (cI 1)),
 oO 75 (.pick (.tmp 72) (.tmp 74) (.con (.bool false)))]
 (.cond (.tmp 75)
 (aR [mV 76 0,
 mV 77 1,
 mV 78 2,
 mV 79 4,
 oO 80 (.call 123 [(.tmp 76), (.tmp 77), (.tmp 78), (.tmp 79)])]
 (.cond (.tmp 80)
 .ret
 .skip))
 .skip))
 (.seq (.seq (.regd [⟨[], 0, [mV 81 1,
 oO 82 (.bin .gtr (.tmp 81) (cI 0)),
 mV 83 82]⟩,
 ⟨[pP (gO 84 83 true (.mov (.tmp 4))),
 pP (gO 85 83 true (.mov (.tmp 0))),
 pP (gO 86 83 true (.mov (.tmp 1))),
 pP (gO 87 83 true (.bin .sub (.tmp 86) (cI 1))),
 pP (gO 88 83 true (.iaddr 2 (.tmp 85) (.tmp 87))),
 qQ (gO 89 83 true (.load true 2 (.tmp 88))),
 pP (gO 90 83 true (.mov (.tmp 0))),
 pP (gO 91 83 true (.mov (.tmp 13))),
 pP (gO 92 83 true (.iaddr 2 (.tmp 90) (.tmp 91))),
 qQ (gO 93 83 true (.load true 2 (.tmp 92)))], 0, [gO 94 83 true (.callv (.tmp 84) [(.tmp 89), (.tmp 93)]),
 gO 95 83 true (.bin .lss (.tmp 94) (cI 0)),
 gO 96 83 true (.un .not (.tmp 95)),
 oO 97 (.pick (.tmp 83) (.tmp 96) (.con (.bool false)))]⟩])
 (.cond (.tmp 97)
 (aR [mV 98 0,
 mV 99 1,
 mV 100 2,
 mV 101 13,
 mV 102 4,
 oO 103 (.call 124 [(.tmp 98), (.tmp 99), (.tmp 100), (.tmp 101), (.tmp 102)]),
 mV 15 103]
 (aR [mV 104 15,
 mV 1 104]
 (.exit 1)))
 .skip))
 (aR [mV 106 0,
 mV 107 1,
 mV 108 2,
 mV 109 13,
 mV 110 4,
 oO 111 (.call 125 [(.tmp 106), (.tmp 107), (.tmp 108), (.tmp 109), (.tmp 110)]),
 mV 105 111,
 oO 112 (.ext (.tmp 105) 0),
 oO 113 (.ext (.tmp 105) 1),
 mV 16 112,
 mV 17 113]
 (aR [mV 114 17,
 mV 11 114]
 (aR [mV 115 16,
 mV 116 1,
 oO 117 (.bin .sub (.tmp 115) (.tmp 116)),
 mV 118 2,
 mV 119 16,
 oO 120 (.bin .sub (.tmp 118) (.tmp 119)),
 mV 18 117,
 mV 19 120]
 (aR [mV 121 12,
 oO 122 (.bin .quo (.tmp 121) (cI 8)),
 mV 20 122]
 (aR [mV 123 18,
 mV 124 19,
 oO 125 (.bin .lss (.tmp 123) (.tmp 124))]
 (.cond (.tmp 125)
 (aR [mV 126 18,
 mV 127 20,
 oO 128 (.bin .geq (.tmp 126) (.tmp 127)),
 mV 10 128]
 (aR [mV 129 0,
 mV 130 1,
 mV 131 16,
 mV 132 3,
 mV 133 4,
 oO 134 (.call 105 [(.tmp 129), (.tmp 130), (.tmp 131), (.tmp 132), (.tmp 133)])]
 (.reg [mV 135 16,
 oO 136 (.bin .add (.tmp 135) (cI 1)),
 mV 1 136])))
 (aR [mV 137 19,
 mV 138 20,
 oO 139 (.bin .geq (.tmp 137) (.tmp 138)),
 mV 10 139]
 (aR [mV 140 0,
 mV 141 16,
 oO 142 (.bin .add (.tmp 141) (cI 1)),
 mV 143 2,
 mV 144 3,
 mV 145 4,
 oO 146 (.call 105 [(.tmp 140), (.tmp 142), (.tmp 143), (.tmp 144), (.tmp 145)])]
 (.reg [mV 147 16,
 mV 2 147]))))))))))))))))))))))
def g105 : Fn := ⟨5, 148, [], b105⟩
def b106 : AC :=
 (aR [oO 2 (.mov (cI 0))]
 (.seq (.cond (.con (.bool false))
 (aR [mV 3 0,
 oO 4 (.conv .u32 (.tmp 3)),
 oO 5 (.call 126 [(.tmp 4)]),
 mV 2 5]
 .ret)
 .skip)
 (aR [mV 6 0,
 oO 7 (.call 127 [(.tmp 6)]),
 mV 2 7]
 .ret)))
def g106 : Fn := ⟨1, 8, [.tmp 2], b106⟩
def b107 : AC :=
 (aR [oO 2 (.mov (.con (.bool false)))]
 (aR [mV 3 0,
 mV 4 0,
 oO 5 (.bin .neq (.tmp 3) (.tmp 4)),
 mV 2 5]
 .ret))
def g107 : Fn := ⟨1, 6, [.tmp 2], b107⟩
def b108 : AC :=
 (aR [oO 3 (.mov (.con (.bool false)))]
 (aR [mV 4 0,
 oO 5 (.len (.tmp 4)),
 lD 6 1,
 oO 7 (.iaddr 1 (.tmp 6) (cI 0)),
 lD 8 7,
 oO 9 (.len (.tmp 8)),
 oO 10 (.bin .neq (.tmp 5) (.tmp 9)),
 mV 3 10]
 .ret))
def g108 : Fn := ⟨2, 11, [.tmp 3], b108⟩
def b109 : AC :=
 (aR [oO 2 (.box (.tmp 0)),
 oO 3 (.box (.tmp 1)),
 oO 4 (.mov (.con .nilF))]
 (aR [oO 5 (.mkfn 128 [(.tmp 2), (.tmp 3)]),
 mV 4 5]
 .ret))
def g109 : Fn := ⟨2, 6, [.tmp 4], b109⟩
def b110 : AC :=
 (aR [oO 4 (.mov (cI 0))]
 (.seq (aR [mV 6 0,
 oO 7 (.len (.tmp 6)),
 oO 8 (.mov (cI 0))]
 (.block 0 (.loop (aR [oO 9 (.bin .lss (.tmp 8) (.tmp 7))]
 (.seq (.cond (.tmp 9)
 .skip
 (.exit 0))
 (.seq (.block 1 (aR [mV 10 8,
 mV 5 10]
 (aR [mV 11 1,
 mV 12 0,
 mV 13 5,
 oO 14 (.iaddr 1 (.tmp 12) (.tmp 13)),
 lD 15 14,
 oO 16 (.callv (.tmp 11) [(.tmp 15)])]
 (.cond (.tmp 16)
 (aR [mV 17 5,
 mV 4 17]
 .ret)
 .skip))))
 (.reg [oO 18 (.bin .add (.tmp 8) (cI 1)),
 mV 8 18])))))))
 (aR [oO 4 (.mov (cI (-1)))]
 .ret)))
def g110 : Fn := ⟨2, 19, [.tmp 4], b110⟩
def b111 : AC :=
 (aR [oO 4 (.mov (cI 0))]
 (.seq (aR [mV 6 0,
 oO 7 (.len (.tmp 6)),
 oO 8 (.mov (cI 0))]
 (.block 0 (.loop (aR [oO 9 (.bin .lss (.tmp 8) (.tmp 7))]
 (.seq (.cond (.tmp 9)
 .skip
 (.exit 0))
 (.seq (.block 1 (aR [mV 10 8,
 mV 5 10]
 (aR [mV 11 1,
 mV 12 0,
 mV 13 5,
 oO 14 (.iaddr 1 (.tmp 12) (.tmp 13)),
 lD 15 14,
 oO 16 (.callv (.tmp 11) [(.tmp 15)])]
 (.cond (.tmp 16)
 (aR [mV 17 5,
 mV 4 17]
 .ret)
 .skip))))
 (.reg [oO 18 (.bin .add (.tmp 8) (cI 1)),
 mV 8 18])))))))
 (aR [oO 4 (.mov (cI (-1)))]
 .ret)))
def g111 : Fn := ⟨2, 19, [.tmp 4], b111⟩
def b112 : AC :=
 (aR [oO 4 (.mov (.con (.int .u64 0)))]
 (aR [mV 5 0,
 mV 6 1,
 oO 7 (.bin .or (.tmp 5) (.tmp 6)),
 mV 4 7]
 .ret))
def g112 : Fn := ⟨2, 8, [.tmp 4], b112⟩
def b113 : AC :=
 (aR [oO 4 (.mov (.con (.int .u64 0)))]
 (aR [mV 5 0,
 mV 6 1,
 oO 7 (.bin .andNot (.tmp 5) (.tmp 6)),
 mV 4 7]
 .ret))
def g113 : Fn := ⟨2, 8, [.tmp 4], b113⟩
def b115 : AC :=
 (aR [oO 4 (.mov (.con .nilS)),
 oO 5 (.mov (cI 0))]
 (.seq (aR [mV 9 0,
 oO 10 (.bin .lss (.tmp 9) (cI 1)),
 mV 11 10,
 gO 12 11 false (.mov (.tmp 0)),
 gO 13 11 false (.bin .gtr (.tmp 12) (cI 16)),
 oO 14 (.pick (.tmp 11) (.con (.bool true)) (.tmp 13))]
 (.cond (.tmp 14)
 (aR [oO 4 (.mov (.con .nilS)),
 oO 5 (.mov (cI 2))]
 .ret)
 .skip))
 (aR [oO 6 (.mov (cI 0))]
 (.seq (aR [mV 15 1,
 oO 16 (.len (.tmp 15)),
 oO 17 (.mov (cI 0))]
 (.block 0 (.loop (aR [oO 18 (.bin .lss (.tmp 17) (.tmp 16))]
 (.seq (.cond (.tmp 18)
 .skip
 (.exit 0))
 (.seq (.block 1 (aR [oO 19 (.iaddr 1 (.tmp 15) (.tmp 17)),
 lD 20 19,
 mV 8 20]
 (aR [mV 21 6,
 mV 22 8,
 oO 23 (.len (.tmp 22)),
 oO 24 (.bin .add (.tmp 21) (.tmp 23)),
 mV 6 24]
 (aR [mV 25 6,
 oO 26 (.bin .gtr (.tmp 25) (cI 2000))]
 (.cond (.tmp 26)
 (aR [oO 4 (.mov (.con .nilS)),
 oO 5 (.mov (cI 3))]
 .ret)
 .skip)))))
 (.reg [oO 27 (.bin .add (.tmp 17) (cI 1)),
 mV 17 27])))))))
 (aR [mV 28 0,
 mV 29 1,
 oO 30 (.call 130 [(.tmp 28), (.tmp 29)]),
 mV 4 30,
 oO 5 (.mov (cI 0))]
 .ret)))))
def g115 : Fn := ⟨2, 31, [.tmp 4, .tmp 5], b115⟩
def b117 : AC :=
 (aR [oO 2 (.box (.tmp 0)),
 oO 3 (.box (.tmp 1)),
 oO 4 (.mov (.con (.bool false)))]
 (aR [oO 5 (.faddr (.tmp 2) 1),
 lD 6 5,
 oO 7 (.faddr (.tmp 3) 1),
 lD 8 7,
 oO 9 (.bin .lss (.tmp 6) (.tmp 8)),
 mV 10 9,
 gO 11 10 false (.faddr (.tmp 2) 1),
 gO 12 10 false (.load false 1 (.tmp 11)),
 gO 13 10 false (.faddr (.tmp 3) 1),
 gO 14 10 false (.load false 1 (.tmp 13)),
 gO 15 10 false (.bin .eql (.tmp 12) (.tmp 14)),
 gO 16 10 false (.mov (.tmp 15)),
 gO 17 16 true (.faddr (.tmp 2) 0),
 gO 18 16 true (.load false 1 (.tmp 17)),
 gO 19 16 true (.faddr (.tmp 3) 0),
 gO 20 16 true (.load false 1 (.tmp 19)),
 gO 21 16 true (.bin .lss (.tmp 18) (.tmp 20)),
 gO 22 10 false (.pick (.tmp 16) (.tmp 21) (.con (.bool false))),
 oO 23 (.pick (.tmp 10) (.con (.bool true)) (.tmp 22)),
 mV 4 23]
 .ret))
def g117 : Fn := ⟨2, 24, [.tmp 4], b117⟩
def b118 : AC :=
 (aR [mV 10 1,
 oO 11 (.bin .add (.tmp 10) (cI 1)),
 mV 8 11]
 (.block 0 (.loop (.seq (aR [mV 12 8,
 mV 13 2,
 oO 14 (.bin .lss (.tmp 12) (.tmp 13))]
 (.cond (.tmp 14)
 .skip
 (.exit 0)))
 (.seq (.block 1 (aR [mV 17 8,
 mV 9 17]
 (.block 2 (.loop (.seq (.seq (.regd [⟨[pP (mV 18 9),
 pP (mV 19 1)], 0, [oO 20 (.bin .gtr (.tmp 18) (.tmp 19)),
 mV 21 20]⟩,
 ⟨[pP (gO 22 21 true (.mov (.tmp 3))),
 pP (gO 23 21 true (.mov (.tmp 0))),
 pP (gO 24 21 true (.mov (.tmp 9))),
 pP (gO 25 21 true (.iaddr 2 (.tmp 23) (.tmp 24))),
 qQ (gO 26 21 true (.load true 2 (.tmp 25))),
 pP (gO 27 21 true (.mov (.tmp 0))),
 pP (gO 28 21 true (.mov (.tmp 9))),
 pP (gO 29 21 true (.bin .sub (.tmp 28) (cI 1))),
 pP (gO 30 21 true (.iaddr 2 (.tmp 27) (.tmp 29))),
 qQ (gO 31 21 true (.load true 2 (.tmp 30)))], 0, [gO 32 21 true (.callv (.tmp 22) [(.tmp 26), (.tmp 31)]),
 gO 33 21 true (.bin .lss (.tmp 32) (cI 0)),
 oO 34 (.pick (.tmp 21) (.tmp 33) (.con (.bool false)))]⟩])
 (.cond (.tmp 34)
 .skip
 (.exit 2)))
 (.seq (.block 3 (.regd [⟨[pP (mV 37 0),
 pP (mV 38 9),
 pP (mV 39 0),
 pP (mV 40 9),
 pP (oO 41 (.bin .sub (.tmp 40) (cI 1))),
 pP (mV 42 0),
 pP (mV 43 9),
 pP (oO 44 (.bin .sub (.tmp 43) (cI 1))),
 pP (oO 45 (.iaddr 2 (.tmp 42) (.tmp 44))),
 qQ (oO 46 (.load true 2 (.tmp 45))),
 pP (mV 47 0),
 pP (mV 48 9),
 pP (oO 49 (.iaddr 2 (.tmp 47) (.tmp 48))),
 qQ (oO 50 (.load true 2 (.tmp 49))),
 pP (oO 51 (.iaddr 2 (.tmp 37) (.tmp 38))),
 ⟨oN (.store 2 (.tmp 51) (.tmp 46)), false, true, false, 0, [], none⟩], 0, [oO 52 (.iaddr 2 (.tmp 39) (.tmp 41)),
 oN (.store 2 (.tmp 52) (.tmp 50))]⟩]))
 (.reg [mV 35 9,
 oO 36 (.bin .sub (.tmp 35) (cI 1)),
 mV 9 36])))))))
 (.reg [mV 15 8,
 oO 16 (.bin .add (.tmp 15) (cI 1)),
 mV 8 16]))))))
def g118 : Fn := ⟨4, 53, [], b118⟩
def b119 : AC :=
 (aR [mV 13 1,
 mV 8 13]
 (aR [oO 9 (.mov (cI 0))]
 (aR [mV 14 2,
 mV 15 1,
 oO 16 (.bin .sub (.tmp 14) (.tmp 15)),
 mV 10 16]
 (.seq (aR [mV 17 10,
 oO 18 (.bin .sub (.tmp 17) (cI 1)),
 oO 19 (.bin .quo (.tmp 18) (cI 2)),
 mV 11 19]
 (.block 0 (.loop (.seq (aR [mV 20 11,
 oO 21 (.bin .geq (.tmp 20) (cI 0))]
 (.cond (.tmp 21)
 .skip
 (.exit 0)))
 (.seq (.block 1 (.reg [mV 24 0,
 mV 25 11,
 mV 26 10,
 mV 27 8,
 mV 28 3,
 oO 29 (.call 131 [(.tmp 24), (.tmp 25), (.tmp 26), (.tmp 27), (.tmp 28)])]))
 (.reg [mV 22 11,
 oO 23 (.bin .sub (.tmp 22) (cI 1)),
 mV 11 23]))))))
 (aR [mV 30 10,
 oO 31 (.bin .sub (.tmp 30) (cI 1)),
 mV 12 31]
 (.block 2 (.loop (.seq (aR [mV 32 12,
 oO 33 (.bin .geq (.tmp 32) (cI 0))]
 (.cond (.tmp 33)
 .skip
 (.exit 2)))
 (.seq (.block 3 (.seq (.regd [⟨[pP (mV 36 0),
 pP (mV 37 8),
 pP (mV 38 0),
 pP (mV 39 8),
 pP (mV 40 12),
 pP (oO 41 (.bin .add (.tmp 39) (.tmp 40))),
 pP (mV 42 0),
 pP (mV 43 8),
 pP (mV 44 12),
 pP (oO 45 (.bin .add (.tmp 43) (.tmp 44))),
 pP (oO 46 (.iaddr 2 (.tmp 42) (.tmp 45))),
 qQ (oO 47 (.load true 2 (.tmp 46))),
 pP (mV 48 0),
 pP (mV 49 8),
 pP (oO 50 (.iaddr 2 (.tmp 48) (.tmp 49))),
 qQ (oO 51 (.load true 2 (.tmp 50))),
 pP (oO 52 (.iaddr 2 (.tmp 36) (.tmp 37))),
 ⟨oN (.store 2 (.tmp 52) (.tmp 47)), false, true, false, 0, [], none⟩], 0, [oO 53 (.iaddr 2 (.tmp 38) (.tmp 41)),
 oN (.store 2 (.tmp 53) (.tmp 51))]⟩])
 (.reg [mV 54 0,
 mV 55 9,
 mV 56 12,
 mV 57 8,
 mV 58 3,
 oO 59 (.call 131 [(.tmp 54), (.tmp 55), (.tmp 56), (.tmp 57), (.tmp 58)])])))
 (.reg [mV 34 12,
 oO 35 (.bin .sub (.tmp 34) (cI 1)),
 mV 12 35]))))))))))
def g119 : Fn := ⟨4, 60, [], b119⟩
def b120 : AC :=
 (aR [mV 13 2,
 mV 14 1,
 oO 15 (.bin .sub (.tmp 13) (.tmp 14)),
 mV 8 15]
 (aR [mV 16 8,
 oO 17 (.bin .geq (.tmp 16) (cI 8))]
 (.cond (.tmp 17)
 (aR [mV 18 8,
 oO 19 (.conv .u64 (.tmp 18)),
 oO 9 (.alloc (.int .u64 0)),
 oN (.store 1 (.tmp 9) (.tmp 19))]
 (aR [mV 20 8,
 oO 21 (.call 132 [(.tmp 20)]),
 mV 10 21]
 (aR [mV 22 1,
 mV 23 8,
 oO 24 (.bin .quo (.tmp 23) (cI 4)),
 oO 25 (.bin .mul (.tmp 24) (cI 2)),
 oO 26 (.bin .add (.tmp 22) (.tmp 25)),
 oO 27 (.bin .sub (.tmp 26) (cI 1)),
 mV 11 27]
 (.block 0 (.loop (.seq (aR [mV 28 11,
 mV 29 1,
 mV 30 8,
 oO 31 (.bin .quo (.tmp 30) (cI 4)),
 oO 32 (.bin .mul (.tmp 31) (cI 2)),
 oO 33 (.bin .add (.tmp 29) (.tmp 32)),
 oO 34 (.bin .add (.tmp 33) (cI 1)),
 oO 35 (.bin .leq (.tmp 28) (.tmp 34))]
 (.cond (.tmp 35)
 .skip
 (.exit 0)))
 (.seq (.block 1 (aR [oO 38 (.call 133 [(.tmp 9)]),
 mV 39 10,
 oO 40 (.bin .sub (.tmp 39) (.con (.int .u64 1))),
 oO 41 (.bin .and (.tmp 38) (.tmp 40)),
 oO 42 (.conv .i64 (.tmp 41)),
 mV 12 42]
 (.seq (aR [mV 43 12,
 mV 44 8,
 oO 45 (.bin .geq (.tmp 43) (.tmp 44))]
 (.cond (.tmp 45)
 (.reg [mV 46 12,
 mV 47 8,
 oO 48 (.bin .sub (.tmp 46) (.tmp 47)),
 mV 12 48])
 .skip))
 (.regd [⟨[pP (mV 49 0),
 pP (mV 50 11),
 pP (mV 51 0),
 pP (mV 52 1),
 pP (mV 53 12),
 pP (oO 54 (.bin .add (.tmp 52) (.tmp 53))),
 pP (mV 55 0),
 pP (mV 56 1),
 pP (mV 57 12),
 pP (oO 58 (.bin .add (.tmp 56) (.tmp 57))),
 pP (oO 59 (.iaddr 2 (.tmp 55) (.tmp 58))),
 qQ (oO 60 (.load true 2 (.tmp 59))),
 pP (mV 61 0),
 pP (mV 62 11),
 pP (oO 63 (.iaddr 2 (.tmp 61) (.tmp 62))),
 qQ (oO 64 (.load true 2 (.tmp 63))),
 pP (oO 65 (.iaddr 2 (.tmp 49) (.tmp 50))),
 ⟨oN (.store 2 (.tmp 65) (.tmp 60)), false, true, false, 0, [], none⟩], 0, [oO 66 (.iaddr 2 (.tmp 51) (.tmp 54)),
 oN (.store 2 (.tmp 66) (.tmp 64))]⟩]))))
 (.reg [mV 36 11,
 oO 37 (.bin .add (.tmp 36) (cI 1)),
 mV 11 37]))))))))
 .skip)))
def g120 : Fn := ⟨4, 67, [], b120⟩
def b121 : AC :=
 (aR [oO 8 (.mov (cI 0)),
 oO 9 (.mov (cI 0))]
 (aR [mV 15 2,
 mV 16 1,
 oO 17 (.bin .sub (.tmp 15) (.tmp 16)),
 mV 10 17]
 (aR [oO 11 (.alloc (.int .i64 0))]
 (aR [mV 18 1,
 mV 19 10,
 oO 20 (.bin .quo (.tmp 19) (cI 4)),
 oO 21 (.bin .mul (.tmp 20) (cI 1)),
 oO 22 (.bin .add (.tmp 18) (.tmp 21)),
 mV 12 22]
 (aR [mV 23 1,
 mV 24 10,
 oO 25 (.bin .quo (.tmp 24) (cI 4)),
 oO 26 (.bin .mul (.tmp 25) (cI 2)),
 oO 27 (.bin .add (.tmp 23) (.tmp 26)),
 mV 13 27]
 (aR [mV 28 1,
 mV 29 10,
 oO 30 (.bin .quo (.tmp 29) (cI 4)),
 oO 31 (.bin .mul (.tmp 30) (cI 3)),
 oO 32 (.bin .add (.tmp 28) (.tmp 31)),
 mV 14 32]
 (.seq (aR [mV 33 10,
 oO 34 (.bin .geq (.tmp 33) (cI 8))]
 (.cond (.tmp 34)
 (.seq (aR [mV 35 10,
 oO 36 (.bin .geq (.tmp 35) (cI 50))]
 (.cond (.tmp 36)
 (aR [mV 37 0,
 mV 38 12,
 mV 39 3,
 oO 40 (.call 134 [(.tmp 37), (.tmp 38), (.tmp 11), (.tmp 39)]),
 mV 12 40]
 (aR [mV 41 0,
 mV 42 13,
 mV 43 3,
 oO 44 (.call 134 [(.tmp 41), (.tmp 42), (.tmp 11), (.tmp 43)]),
 mV 13 44]
 (.reg [mV 45 0,
 mV 46 14,
 mV 47 3,
 oO 48 (.call 134 [(.tmp 45), (.tmp 46), (.tmp 11), (.tmp 47)]),
 mV 14 48])))
 .skip))
 (.reg [mV 49 0,
 mV 50 12,
 mV 51 13,
 mV 52 14,
 mV 53 3,
 oO 54 (.call 135 [(.tmp 49), (.tmp 50), (.tmp 51), (.tmp 52), (.tmp 11), (.tmp 53)]),
 mV 13 54]))
 .skip))
 (aR [lD 55 11]
 (.block 0 (aR [oO 58 (.bin .eql (.tmp 55) (cI 0)),
 mV 57 58]
 (.cond (.tmp 57)
 (aR [mV 59 13,
 mV 8 59,
 oO 9 (.mov (cI 1))]
 .ret)
 (aR [oO 61 (.bin .eql (.tmp 55) (cI 12)),
 mV 60 61]
 (.cond (.tmp 60)
 (aR [mV 62 13,
 mV 8 62,
 oO 9 (.mov (cI 2))]
 .ret)
 (aR [mV 56 13,
 mV 8 56,
 oO 9 (.mov (cI 0))]
 .ret))))))))))))))
def g121 : Fn := ⟨4, 63, [.tmp 8, .tmp 9], b121⟩
def b122 : AC :=
 (aR [mV 10 1,
 mV 8 10]
 (aR [mV 11 2,
 oO 12 (.bin .sub (.tmp 11) (cI 1)),
 mV 9 12]
 (.block 0 (.loop (.seq (aR [mV 13 8,
 mV 14 9,
 oO 15 (.bin .lss (.tmp 13) (.tmp 14))]
 (.cond (.tmp 15)
 .skip
 (.exit 0)))
 (.block 1 (.seq (.regd [⟨[pP (mV 16 0),
 pP (mV 17 8),
 pP (mV 18 0),
 pP (mV 19 9),
 pP (mV 20 0),
 pP (mV 21 9),
 pP (oO 22 (.iaddr 2 (.tmp 20) (.tmp 21))),
 qQ (oO 23 (.load true 2 (.tmp 22))),
 pP (mV 24 0),
 pP (mV 25 8),
 pP (oO 26 (.iaddr 2 (.tmp 24) (.tmp 25))),
 qQ (oO 27 (.load true 2 (.tmp 26))),
 pP (oO 28 (.iaddr 2 (.tmp 16) (.tmp 17))),
 ⟨oN (.store 2 (.tmp 28) (.tmp 23)), false, true, false, 0, [], none⟩], 0, [oO 29 (.iaddr 2 (.tmp 18) (.tmp 19)),
 oN (.store 2 (.tmp 29) (.tmp 27))]⟩])
 (aR [mV 30 8,
 oO 31 (.bin .add (.tmp 30) (cI 1)),
 mV 8 31]
 (.reg [mV 32 9,
 oO 33 (.bin .sub (.tmp 32) (cI 1)),
 mV 9 33])))))))))
def g122 : Fn := ⟨4, 34, [], b122⟩
def b123 : AC :=
 (aR [oO 8 (.mov (.con (.bool false)))]
 (aR [mV 13 1,
 oO 14 (.bin .add (.tmp 13) (cI 1)),
 mV 9 14]
 (.seq (aR [oO 10 (.mov (cI 0))]
 (.block 0 (.loop (.seq (aR [mV 15 10,
 oO 16 (.bin .lss (.tmp 15) (cI 5))]
 (.cond (.tmp 16)
 .skip
 (.exit 0)))
 (.seq (.block 1 (.seq (.block 2 (.loop (.seq (.seq (.regd [⟨[pP (mV 19 9),
 pP (mV 20 2)], 0, [oO 21 (.bin .lss (.tmp 19) (.tmp 20)),
 mV 22 21]⟩,
 ⟨[pP (gO 23 22 true (.mov (.tmp 3))),
 pP (gO 24 22 true (.mov (.tmp 0))),
 pP (gO 25 22 true (.mov (.tmp 9))),
 pP (gO 26 22 true (.iaddr 2 (.tmp 24) (.tmp 25))),
 qQ (gO 27 22 true (.load true 2 (.tmp 26))),
 pP (gO 28 22 true (.mov (.tmp 0))),
 pP (gO 29 22 true (.mov (.tmp 9))),
 pP (gO 30 22 true (.bin .sub (.tmp 29) (cI 1))),
 pP (gO 31 22 true (.iaddr 2 (.tmp 28) (.tmp 30))),
 qQ (gO 32 22 true (.load true 2 (.tmp 31)))], 0, [gO 33 22 true (.callv (.tmp 23) [(.tmp 27), (.tmp 32)]),
 gO 34 22 true (.bin .lss (.tmp 33) (cI 0)),
 gO 35 22 true (.un .not (.tmp 34)),
 oO 36 (.pick (.tmp 22) (.tmp 35) (.con (.bool false)))]⟩])
 (.cond (.tmp 36)
 .skip
 (.exit 2)))
 (.block 3 (.reg [mV 37 9,
 oO 38 (.bin .add (.tmp 37) (cI 1)),
 mV 9 38])))))
 (.seq (aR [mV 39 9,
 mV 40 2,
 oO 41 (.bin .eql (.tmp 39) (.tmp 40))]
 (.cond (.tmp 41)
 (aR [oO 8 (.mov (.con (.bool true)))]
 .ret)
 .skip))
 (.seq (aR [mV 42 2,
 mV 43 1,
 oO 44 (.bin .sub (.tmp 42) (.tmp 43)),
 oO 45 (.bin .lss (.tmp 44) (cI 50))]
 (.cond (.tmp 45)
 (aR [oO 8 (.mov (.con (.bool false)))]
 .ret)
 .skip))
 (.seq (.regd [⟨[pP (mV 46 0),
 pP (mV 47 9),
 pP (mV 48 0),
 pP (mV 49 9),
 pP (oO 50 (.bin .sub (.tmp 49) (cI 1))),
 pP (mV 51 0),
 pP (mV 52 9),
 pP (oO 53 (.bin .sub (.tmp 52) (cI 1))),
 pP (oO 54 (.iaddr 2 (.tmp 51) (.tmp 53))),
 qQ (oO 55 (.load true 2 (.tmp 54))),
 pP (mV 56 0),
 pP (mV 57 9),
 pP (oO 58 (.iaddr 2 (.tmp 56) (.tmp 57))),
 qQ (oO 59 (.load true 2 (.tmp 58))),
 pP (oO 60 (.iaddr 2 (.tmp 46) (.tmp 47))),
 ⟨oN (.store 2 (.tmp 60) (.tmp 55)), false, true, false, 0, [], none⟩], 0, [oO 61 (.iaddr 2 (.tmp 48) (.tmp 50)),
 oN (.store 2 (.tmp 61) (.tmp 59))]⟩])
 (.seq (aR [mV 62 9,
 mV 63 1,
 oO 64 (.bin .sub (.tmp 62) (.tmp 63)),
 oO 65 (.bin .geq (.tmp 64) (cI 2))]
 (.cond (.tmp 65)
 (aR [mV 66 9,
 oO 67 (.bin .sub (.tmp 66) (cI 1)),
 mV 11 67]
 (.block 4 (.loop (.seq (aR [mV 68 11,
 oO 69 (.bin .geq (.tmp 68) (cI 1))]
 (.cond (.tmp 69)
 .skip
 (.exit 4)))
 (.seq (.block 5 (.seq (.seq (.regd [⟨[pP (mV 72 3),
 pP (mV 73 0),
 pP (mV 74 11),
 pP (oO 75 (.iaddr 2 (.tmp 73) (.tmp 74))),
 qQ (oO 76 (.load true 2 (.tmp 75))),
 pP (mV 77 0),
 pP (mV 78 11),
 pP (oO 79 (.bin .sub (.tmp 78) (cI 1))),
 pP (oO 80 (.iaddr 2 (.tmp 77) (.tmp 79))),
 qQ (oO 81 (.load true 2 (.tmp 80)))], 0, [oO 82 (.callv (.tmp 72) [(.tmp 76), (.tmp 81)]),
 oO 83 (.bin .lss (.tmp 82) (cI 0)),
 oO 84 (.un .not (.tmp 83))]⟩])
 (.cond (.tmp 84)
 (.exit 4)
 .skip))
 (.regd [⟨[pP (mV 85 0),
 pP (mV 86 11),
 pP (mV 87 0),
 pP (mV 88 11),
 pP (oO 89 (.bin .sub (.tmp 88) (cI 1))),
 pP (mV 90 0),
 pP (mV 91 11),
 pP (oO 92 (.bin .sub (.tmp 91) (cI 1))),
 pP (oO 93 (.iaddr 2 (.tmp 90) (.tmp 92))),
 qQ (oO 94 (.load true 2 (.tmp 93))),
 pP (mV 95 0),
 pP (mV 96 11),
 pP (oO 97 (.iaddr 2 (.tmp 95) (.tmp 96))),
 qQ (oO 98 (.load true 2 (.tmp 97))),
 pP (oO 99 (.iaddr 2 (.tmp 85) (.tmp 86))),
 ⟨oN (.store 2 (.tmp 99) (.tmp 94)), false, true, false, 0, [], none⟩], 0, [oO 100 (.iaddr 2 (.tmp 87) (.tmp 89)),
 oN (.store 2 (.tmp 100) (.tmp 98))]⟩])))
 (.reg [mV 70 11,
 oO 71 (.bin .sub (.tmp 70) (cI 1)),
 mV 11 71]))))))
 .skip))
 (aR [mV 101 2,
 mV 102 9,
 oO 103 (.bin .sub (.tmp 101) (.tmp 102)),
 oO 104 (.bin .geq (.tmp 103) (cI 2))]
 (.cond (.tmp 104)
 (aR [mV 105 9,
 oO 106 (.bin .add (.tmp 105) (cI 1)),
 mV 12 106]
 (.block 6 (.loop (.seq (aR [mV 107 12,
 mV 108 2,
 oO 109 (.bin .lss (.tmp 107) (.tmp 108))]
 (.cond (.tmp 109)
 .skip
 (.exit 6)))
 (.seq (.block 7 (.seq (.seq (.regd [⟨[pP (mV 112 3),
 pP (mV 113 0),
 pP (mV 114 12),
 pP (oO 115 (.iaddr 2 (.tmp 113) (.tmp 114))),
 qQ (oO 116 (.load true 2 (.tmp 115))),
 pP (mV 117 0),
 pP (mV 118 12),
 pP (oO 119 (.bin .sub (.tmp 118) (cI 1))),
 pP (oO 120 (.iaddr 2 (.tmp 117) (.tmp 119))),
 qQ (oO 121 (.load true 2 (.tmp 120)))], 0, [oO 122 (.callv (.tmp 112) [(.tmp 116), (.tmp 121)]),
 oO 123 (.bin .lss (.tmp 122) (cI 0)),
 oO 124 (.un .not (.tmp 123))]⟩])
 (.cond (.tmp 124)
 (.exit 6)
 .skip))
 (.regd [⟨[pP (mV 125 0),
 pP (mV 126 12),
 pP (mV 127 0),
 pP (mV 128 12),
 pP (oO 129 (.bin .sub (.tmp 128) (cI 1))),
 pP (mV 130 0),
 pP (mV 131 12),
 pP (oO 132 (.bin .sub (.tmp 131) (cI 1))),
 pP (oO 133 (.iaddr 2 (.tmp 130) (.tmp 132))),
 qQ (oO 134 (.load true 2 (.tmp 133))),
 pP (mV 135 0),
 pP (mV 136 12),
 pP (oO 137 (.iaddr 2 (.tmp 135) (.tmp 136))),
 qQ (oO 138 (.load true 2 (.tmp 137))),
 pP (oO 139 (.iaddr 2 (.tmp 125) (.tmp 126))),
 ⟨oN (.store 2 (.tmp 139) (.tmp 134)), false, true, false, 0, [], none⟩], 0, [oO 140 (.iaddr 2 (.tmp 127) (.tmp 129)),
 oN (.store 2 (.tmp 140) (.tmp 138))]⟩])))
 (.reg [mV 110 12,
 oO 111 (.bin .add (.tmp 110) (cI 1)),
 mV 12 111]))))))
 .skip))))))))
 (.reg [mV 17 10,
 oO 18 (.bin .add (.tmp 17) (cI 1)),
 mV 10 18]))))))
 (aR [oO 8 (.mov (.con (.bool false)))]
 .ret))))
def g123 : Fn := ⟨4, 141, [.tmp 8], b123⟩
def b124 : AC :=
 (aR [oO 10 (.mov (cI 0))]
 (.seq (.regd [⟨[pP (mV 13 0),
 pP (mV 14 1),
 pP (mV 15 0),
 pP (mV 16 3),
 pP (mV 17 0),
 pP (mV 18 3),
 pP (oO 19 (.iaddr 2 (.tmp 17) (.tmp 18))),
 qQ (oO 20 (.load true 2 (.tmp 19))),
 pP (mV 21 0),
 pP (mV 22 1),
 pP (oO 23 (.iaddr 2 (.tmp 21) (.tmp 22))),
 qQ (oO 24 (.load true 2 (.tmp 23))),
 pP (oO 25 (.iaddr 2 (.tmp 13) (.tmp 14))),
 ⟨oN (.store 2 (.tmp 25) (.tmp 20)), false, true, false, 0, [], none⟩], 0, [oO 26 (.iaddr 2 (.tmp 15) (.tmp 16)),
 oN (.store 2 (.tmp 26) (.tmp 24))]⟩])
 (aR [mV 27 1,
 oO 28 (.bin .add (.tmp 27) (cI 1)),
 mV 29 2,
 oO 30 (.bin .sub (.tmp 29) (cI 1)),
 mV 11 28,
 mV 12 30]
 (.seq (.block 0 (.loop (.block 1 (.seq (.block 2 (.loop (.seq (.seq (.regd [⟨[pP (mV 31 11),
 pP (mV 32 12)], 0, [oO 33 (.bin .leq (.tmp 31) (.tmp 32)),
 mV 34 33]⟩,
 ⟨[pP (gO 35 34 true (.mov (.tmp 4))),
 pP (gO 36 34 true (.mov (.tmp 0))),
 pP (gO 37 34 true (.mov (.tmp 1))),
 pP (gO 38 34 true (.iaddr 2 (.tmp 36) (.tmp 37))),
 qQ (gO 39 34 true (.load true 2 (.tmp 38))),
 pP (gO 40 34 true (.mov (.tmp 0))),
 pP (gO 41 34 true (.mov (.tmp 11))),
 pP (gO 42 34 true (.iaddr 2 (.tmp 40) (.tmp 41))),
 qQ (gO 43 34 true (.load true 2 (.tmp 42)))], 0, [gO 44 34 true (.callv (.tmp 35) [(.tmp 39), (.tmp 43)]),
 gO 45 34 true (.bin .lss (.tmp 44) (cI 0)),
 gO 46 34 true (.un .not (.tmp 45)),
 oO 47 (.pick (.tmp 34) (.tmp 46) (.con (.bool false)))]⟩])
 (.cond (.tmp 47)
 .skip
 (.exit 2)))
 (.block 3 (.reg [mV 48 11,
 oO 49 (.bin .add (.tmp 48) (cI 1)),
 mV 11 49])))))
 (.seq (.block 4 (.loop (.seq (.seq (.regd [⟨[pP (mV 50 11),
 pP (mV 51 12)], 0, [oO 52 (.bin .leq (.tmp 50) (.tmp 51)),
 mV 53 52]⟩,
 ⟨[pP (gO 54 53 true (.mov (.tmp 4))),
 pP (gO 55 53 true (.mov (.tmp 0))),
 pP (gO 56 53 true (.mov (.tmp 1))),
 pP (gO 57 53 true (.iaddr 2 (.tmp 55) (.tmp 56))),
 qQ (gO 58 53 true (.load true 2 (.tmp 57))),
 pP (gO 59 53 true (.mov (.tmp 0))),
 pP (gO 60 53 true (.mov (.tmp 12))),
 pP (gO 61 53 true (.iaddr 2 (.tmp 59) (.tmp 60))),
 qQ (gO 62 53 true (.load true 2 (.tmp 61)))], 0, [gO 63 53 true (.callv (.tmp 54) [(.tmp 58), (.tmp 62)]),
 gO 64 53 true (.bin .lss (.tmp 63) (cI 0)),
 oO 65 (.pick (.tmp 53) (.tmp 64) (.con (.bool false)))]⟩])
 (.cond (.tmp 65)
 .skip
 (.exit 4)))
 (.block 5 (.reg [mV 66 12,
 oO 67 (.bin .sub (.tmp 66) (cI 1)),
 mV 12 67])))))
 (.seq (aR [mV 68 11,
 mV 69 12,
 oO 70 (.bin .gtr (.tmp 68) (.tmp 69))]
 (.cond (.tmp 70)
 (.exit 0)
 .skip))
 (.seq (.regd [⟨[pP (mV 71 0),
 pP (mV 72 11),
 pP (mV 73 0),
 pP (mV 74 12),
 pP (mV 75 0),
 pP (mV 76 12),
 pP (oO 77 (.iaddr 2 (.tmp 75) (.tmp 76))),
 qQ (oO 78 (.load true 2 (.tmp 77))),
 pP (mV 79 0),
 pP (mV 80 11),
 pP (oO 81 (.iaddr 2 (.tmp 79) (.tmp 80))),
 qQ (oO 82 (.load true 2 (.tmp 81))),
 pP (oO 83 (.iaddr 2 (.tmp 71) (.tmp 72))),
 ⟨oN (.store 2 (.tmp 83) (.tmp 78)), false, true, false, 0, [], none⟩], 0, [oO 84 (.iaddr 2 (.tmp 73) (.tmp 74)),
 oN (.store 2 (.tmp 84) (.tmp 82))]⟩])
 (aR [mV 85 11,
 oO 86 (.bin .add (.tmp 85) (cI 1)),
 mV 11 86]
 (.reg [mV 87 12,
 oO 88 (.bin .sub (.tmp 87) (cI 1)),
 mV 12 88])))))))))
 (aR [mV 89 11,
 mV 10 89]
 .ret)))))
def g124 : Fn := ⟨5, 90, [.tmp 10], b124⟩
def b125 : AC :=
 (aR [oO 10 (.mov (cI 0)),
 oO 11 (.mov (.con (.bool false)))]
 (.seq (.regd [⟨[pP (mV 14 0),
 pP (mV 15 1),
 pP (mV 16 0),
 pP (mV 17 3),
 pP (mV 18 0),
 pP (mV 19 3),
 pP (oO 20 (.iaddr 2 (.tmp 18) (.tmp 19))),
 qQ (oO 21 (.load true 2 (.tmp 20))),
 pP (mV 22 0),
 pP (mV 23 1),
 pP (oO 24 (.iaddr 2 (.tmp 22) (.tmp 23))),
 qQ (oO 25 (.load true 2 (.tmp 24))),
 pP (oO 26 (.iaddr 2 (.tmp 14) (.tmp 15))),
 ⟨oN (.store 2 (.tmp 26) (.tmp 21)), false, true, false, 0, [], none⟩], 0, [oO 27 (.iaddr 2 (.tmp 16) (.tmp 17)),
 oN (.store 2 (.tmp 27) (.tmp 25))]⟩])
 (aR [mV 28 1,
 oO 29 (.bin .add (.tmp 28) (cI 1)),
 mV 30 2,
 oO 31 (.bin .sub (.tmp 30) (cI 1)),
 mV 12 29,
 mV 13 31]
 (.seq (.block 0 (.loop (.seq (.seq (.regd [⟨[pP (mV 32 12),
 pP (mV 33 13)], 0, [oO 34 (.bin .leq (.tmp 32) (.tmp 33)),
 mV 35 34]⟩,
 ⟨[pP (gO 36 35 true (.mov (.tmp 4))),
 pP (gO 37 35 true (.mov (.tmp 0))),
 pP (gO 38 35 true (.mov (.tmp 12))),
 pP (gO 39 35 true (.iaddr 2 (.tmp 37) (.tmp 38))),
 qQ (gO 40 35 true (.load true 2 (.tmp 39))),
 pP (gO 41 35 true (.mov (.tmp 0))),
 pP (gO 42 35 true (.mov (.tmp 1))),
 pP (gO 43 35 true (.iaddr 2 (.tmp 41) (.tmp 42))),
 qQ (gO 44 35 true (.load true 2 (.tmp 43)))], 0, [gO 45 35 true (.callv (.tmp 36) [(.tmp 40), (.tmp 44)]),
 gO 46 35 true (.bin .lss (.tmp 45) (cI 0)),
 oO 47 (.pick (.tmp 35) (.tmp 46) (.con (.bool false)))]⟩])
 (.cond (.tmp 47)
 .skip
 (.exit 0)))
 (.block 1 (.reg [mV 48 12,
 oO 49 (.bin .add (.tmp 48) (cI 1)),
 mV 12 49])))))
 (.seq (.block 2 (.loop (.seq (.seq (.regd [⟨[pP (mV 50 12),
 pP (mV 51 13)], 0, [oO 52 (.bin .leq (.tmp 50) (.tmp 51)),
 mV 53 52]⟩,
 ⟨[pP (gO 54 53 true (.mov (.tmp 4))),
 pP (gO 55 53 true (.mov (.tmp 0))),
 pP (gO 56 53 true (.mov (.tmp 13))),
 pP (gO 57 53 true (.iaddr 2 (.tmp 55) (.tmp 56))),
 qQ (gO 58 53 true (.load true 2 (.tmp 57))),
 pP (gO 59 53 true (.mov (.tmp 0))),
 pP (gO 60 53 true (.mov (.tmp 1))),
 pP (gO 61 53 true (.iaddr 2 (.tmp 59) (.tmp 60))),
 qQ (gO 62 53 true (.load true 2 (.tmp 61)))], 0, [gO 63 53 true (.callv (.tmp 54) [(.tmp 58), (.tmp 62)]),
 gO 64 53 true (.bin .lss (.tmp 63) (cI 0)),
 gO 65 53 true (.un .not (.tmp 64)),
 oO 66 (.pick (.tmp 53) (.tmp 65) (.con (.bool false)))]⟩])
 (.cond (.tmp 66)
 .skip
 (.exit 2)))
 (.block 3 (.reg [mV 67 13,
 oO 68 (.bin .sub (.tmp 67) (cI 1)),
 mV 13 68])))))
 (.seq (aR [mV 69 12,
 mV 70 13,
 oO 71 (.bin .gtr (.tmp 69) (.tmp 70))]
 (.cond (.tmp 71)
 (.seq (.regd [⟨[pP (mV 72 0),
 pP (mV 73 13),
 pP (mV 74 0),
 pP (mV 75 1),
 pP (mV 76 0),
 pP (mV 77 1),
 pP (oO 78 (.iaddr 2 (.tmp 76) (.tmp 77))),
 qQ (oO 79 (.load true 2 (.tmp 78))),
 pP (mV 80 0),
 pP (mV 81 13),
 pP (oO 82 (.iaddr 2 (.tmp 80) (.tmp 81))),
 qQ (oO 83 (.load true 2 (.tmp 82))),
 pP (oO 84 (.iaddr 2 (.tmp 72) (.tmp 73))),
 ⟨oN (.store 2 (.tmp 84) (.tmp 79)), false, true, false, 0, [], none⟩], 0, [oO 85 (.iaddr 2 (.tmp 74) (.tmp 75)),
 oN (.store 2 (.tmp 85) (.tmp 83))]⟩])
 (aR [mV 86 13,
 mV 10 86,
 oO 11 (.mov (.con (.bool true)))]
 .ret))
 .skip))
 (.seq (.regd [⟨[pP (mV 87 0),
 pP (mV 88 12),
 pP (mV 89 0),
 pP (mV 90 13),
 pP (mV 91 0),
 pP (mV 92 13),
 pP (oO 93 (.iaddr 2 (.tmp 91) (.tmp 92))),
 qQ (oO 94 (.load true 2 (.tmp 93))),
 pP (mV 95 0),
 pP (mV 96 12),
 pP (oO 97 (.iaddr 2 (.tmp 95) (.tmp 96))),
 qQ (oO 98 (.load true 2 (.tmp 97))),
 pP (oO 99 (.iaddr 2 (.tmp 87) (.tmp 88))),
 ⟨oN (.store 2 (.tmp 99) (.tmp 94)), false, true, false, 0, [], none⟩], 0, [oO 100 (.iaddr 2 (.tmp 89) (.tmp 90)),
 oN (.store 2 (.tmp 100) (.tmp 98))]⟩])
 (aR [mV 101 12,
 oO 102 (.bin .add (.tmp 101) (cI 1)),
 mV 12 102]
 (aR [mV 103 13,
 oO 104 (.bin .sub (.tmp 103) (cI 1)),
 mV 13 104]
 (.seq (.block 4 (.loop (.block 5 (.seq (.block 6 (.loop (.seq (.seq (.regd [⟨[pP (mV 105 12),
 pP (mV 106 13)], 0, [oO 107 (.bin .leq (.tmp 105) (.tmp 106)),
 mV 108 107]⟩,
 ⟨[pP (gO 109 108 true (.mov (.tmp 4))),
 pP (gO 110 108 true (.mov (.tmp 0))),
 pP (gO 111 108 true (.mov (.tmp 12))),
 pP (gO 112 108 true (.iaddr 2 (.tmp 110) (.tmp 111))),
 qQ (gO 113 108 true (.load true 2 (.tmp 112))),
 pP (gO 114 108 true (.mov (.tmp 0))),
 pP (gO 115 108 true (.mov (.tmp 1))),
 pP (gO 116 108 true (.iaddr 2 (.tmp 114) (.tmp 115))),
 qQ (gO 117 108 true (.load true 2 (.tmp 116)))], 0, [gO 118 108 true (.callv (.tmp 109) [(.tmp 113), (.tmp 117)]),
 gO 119 108 true (.bin .lss (.tmp 118) (cI 0)),
 oO 120 (.pick (.tmp 108) (.tmp 119) (.con (.bool false)))]⟩])
 (.cond (.tmp 120)
 .skip
 (.exit 6)))
 (.block 7 (.reg [mV 121 12,
 oO 122 (.bin .add (.tmp 121) (cI 1)),
 mV 12 122])))))
 (.seq (.block 8 (.loop (.seq (.seq (.regd [⟨[pP (mV 123 12),
 pP (mV 124 13)], 0, [oO 125 (.bin .leq (.tmp 123) (.tmp 124)),
 mV 126 125]⟩,
 ⟨[pP (gO 127 126 true (.mov (.tmp 4))),
 pP (gO 128 126 true (.mov (.tmp 0))),
 pP (gO 129 126 true (.mov (.tmp 13))),
 pP (gO 130 126 true (.iaddr 2 (.tmp 128) (.tmp 129))),
 qQ (gO 131 126 true (.load true 2 (.tmp 130))),
 pP (gO 132 126 true (.mov (.tmp 0))),
 pP (gO 133 126 true (.mov (.tmp 1))),
 pP (gO 134 126 true (.iaddr 2 (.tmp 132) (.tmp 133))),
 qQ (gO 135 126 true (.load true 2 (.tmp 134)))], 0, [gO 136 126 true (.callv (.tmp 127) [(.tmp 131), (.tmp 135)]),
 gO 137 126 true (.bin .lss (.tmp 136) (cI 0)),
 gO 138 126 true (.un .not (.tmp 137)),
 oO 139 (.pick (.tmp 126) (.tmp 138) (.con (.bool false)))]⟩])
 (.cond (.tmp 139)
 .skip
 (.exit 8)))
 (.block 9 (.reg [mV 140 13,
 oO 141 (.bin .sub (.tmp 140) (cI 1)),
 mV 13 141])))))
 (.seq (aR [mV 142 12,
 mV 143 13,
 oO 144 (.bin .gtr (.tmp 142) (.tmp 143))]
 (.cond (.tmp 144)
 (.exit 4)
 .skip))
 (.seq (.regd [⟨[pP (mV 145 0),
 pP (mV 146 12),
 pP (mV 147 0),
 pP (mV 148 13),
 pP (mV 149 0),
 pP (mV 150 13),
 pP (oO 151 (.iaddr 2 (.tmp 149) (.tmp 150))),
 qQ (oO 152 (.load true 2 (.tmp 151))),
 pP (mV 153 0),
 pP (mV 154 12),
 pP (oO 155 (.iaddr 2 (.tmp 153) (.tmp 154))),
 qQ (oO 156 (.load true 2 (.tmp 155))),
 pP (oO 157 (.iaddr 2 (.tmp 145) (.tmp 146))),
 ⟨oN (.store 2 (.tmp 157) (.tmp 152)), false, true, false, 0, [], none⟩], 0, [oO 158 (.iaddr 2 (.tmp 147) (.tmp 148)),
 oN (.store 2 (.tmp 158) (.tmp 156))]⟩])
 (aR [mV 159 12,
 oO 160 (.bin .add (.tmp 159) (cI 1)),
 mV 12 160]
 (.reg [mV 161 13,
 oO 162 (.bin .sub (.tmp 161) (cI 1)),
 mV 13 162])))))))))
 (.seq (.regd [⟨[pP (mV 163 0),
 pP (mV 164 13),
 pP (mV 165 0),
 pP (mV 166 1),
 pP (mV 167 0),
 pP (mV 168 1),
 pP (oO 169 (.iaddr 2 (.tmp 167) (.tmp 168))),
 qQ (oO 170 (.load true 2 (.tmp 169))),
 pP (mV 171 0),
 pP (mV 172 13),
 pP (oO 173 (.iaddr 2 (.tmp 171) (.tmp 172))),
 qQ (oO 174 (.load true 2 (.tmp 173))),
 pP (oO 175 (.iaddr 2 (.tmp 163) (.tmp 164))),
 ⟨oN (.store 2 (.tmp 175) (.tmp 170)), false, true, false, 0, [], none⟩], 0, [oO 176 (.iaddr 2 (.tmp 165) (.tmp 166)),
 oN (.store 2 (.tmp 176) (.tmp 174))]⟩])
 (aR [mV 177 13,
 mV 10 177,
 oO 11 (.mov (.con (.bool false)))]
 .ret))))))))))))
def g125 : Fn := ⟨5, 178, [.tmp 10, .tmp 11], b125⟩
def b126 : AC :=
 (aR [oO 2 (.mov (cI 0))]
 (.seq (aR [mV 3 0,
 oO 4 (.bin .geq (.tmp 3) (.con (.int .u32 65536)))]
 (.cond (.tmp 4)
 (aR [mV 5 0,
 oO 6 (.bin .shr (.tmp 5) (.con (.int .u64 16))),
 mV 0 6]
 (.reg [oO 2 (.mov (cI 16))]))
 .skip))
 (.seq (aR [mV 7 0,
 oO 8 (.bin .geq (.tmp 7) (.con (.int .u32 256)))]
 (.cond (.tmp 8)
 (aR [mV 9 0,
 oO 10 (.bin .shr (.tmp 9) (.con (.int .u64 8))),
 mV 0 10]
 (.reg [mV 11 2,
 oO 12 (.bin .add (.tmp 11) (cI 8)),
 mV 2 12]))
 .skip))
 (aR [mV 13 2,
 mV 14 0,
 oO 15 (.conv .u8 (.tmp 14)),
 ⟨(some 16), none, .idxS (.con (.str ⟨#[0, 1, 2, 2, 3, 3, 3, 3, 4, 4, 4, 4, 4, 4, 4, 4, 5, 5, 5, 5, 5, 5, 5, 5, 5, 5, 5, 5, 5, 5, 5, 5, 6, 6, 6, 6, 6, 6, 6, 6, 6, 6, 6, 6, 6, 6, 6, 6, 6, 6, 6, 6, 6, 6, 6, 6, 6, 6, 6, 6, 6, 6, 6, 6, 7, 7, 7, 7, 7, 7, 7, 7, 7, 7, 7, 7, 7, 7, 7, 7, 7, 7, 7, 7, 7, 7, 7, 7, 7, 7, 7, 7, 7, 7, 7, 7, 7, 7, 7, 7, 7, 7, 7, 7, 7, 7, 7, 7, 7, 7, 7, 7, 7, 7, 7, 7, 7, 7, 7, 7, 7, 7, 7, 7, 7, 7, 7, 7, 8, 8, 8, 8, 8, 8, 8, 8, 8, 8, 8, 8, 8, 8, 8, 8, 8, 8, 8, 8, 8, 8, 8, 8, 8, 8, 8, 8, 8, 8, 8, 8, 8, 8, 8, 8, 8, 8, 8, 8, 8, 8, 8, 8, 8, 8, 8, 8, 8, 8, 8, 8, 8, 8, 8, 8, 8, 8, 8, 8, 8, 8, 8, 8, 8, 8, 8, 8, 8, 8, 8, 8, 8, 8, 8, 8, 8, 8, 8, 8, 8, 8, 8, 8, 8, 8, 8, 8, 8, 8, 8, 8, 8, 8, 8, 8, 8, 8, 8, 8, 8, 8, 8, 8, 8, 8, 8, 8, 8, 8, 8, 8, 8, 8, 8, 8, 8, 8, 8, 8, 8, 8, 8, 8, 8, 8, 8, 8]⟩)) (.tmp 15)⟩,
 oO 17 (.conv .i64 (.tmp 16)),
 oO 18 (.bin .add (.tmp 13) (.tmp 17)),
 mV 2 18]
 .ret))))
def g126 : Fn := ⟨1, 19, [.tmp 2], b126⟩
def b127 : AC :=
 (aR [oO 2 (.mov (cI 0))]
 (.seq (aR [mV 3 0,
 oO 4 (.bin .geq (.tmp 3) (.con (.int .u64 4294967296)))]
 (.cond (.tmp 4)
 (aR [mV 5 0,
 oO 6 (.bin .shr (.tmp 5) (.con (.int .u64 32))),
 mV 0 6]
 (.reg [oO 2 (.mov (cI 32))]))
 .skip))
 (.seq (aR [mV 7 0,
 oO 8 (.bin .geq (.tmp 7) (.con (.int .u64 65536)))]
 (.cond (.tmp 8)
 (aR [mV 9 0,
 oO 10 (.bin .shr (.tmp 9) (.con (.int .u64 16))),
 mV 0 10]
 (.reg [mV 11 2,
 oO 12 (.bin .add (.tmp 11) (cI 16)),
 mV 2 12]))
 .skip))
 (.seq (aR [mV 13 0,
 oO 14 (.bin .geq (.tmp 13) (.con (.int .u64 256)))]
 (.cond (.tmp 14)
 (aR [mV 15 0,
 oO 16 (.bin .shr (.tmp 15) (.con (.int .u64 8))),
 mV 0 16]
 (.reg [mV 17 2,
 oO 18 (.bin .add (.tmp 17) (cI 8)),
 mV 2 18]))
 .skip))
 (aR [mV 19 2,
 mV 20 0,
 oO 21 (.conv .u8 (.tmp 20)),
 ⟨(some 22), none, .idxS (.con (.str ⟨#[0, 1, 2, 2, 3, 3, 3, 3, 4, 4, 4, 4, 4, 4, 4, 4, 5, 5, 5, 5, 5, 5, 5, 5, 5, 5, 5, 5, 5, 5, 5, 5, 6, 6, 6, 6, 6, 6, 6, 6, 6, 6, 6, 6, 6, 6, 6, 6, 6, 6, 6, 6, 6, 6, 6, 6, 6, 6, 6, 6, 6, 6, 6, 6, 7, 7, 7, 7, 7, 7, 7, 7, 7, 7, 7, 7, 7, 7, 7, 7, 7, 7, 7, 7, 7, 7, 7, 7, 7, 7, 7, 7, 7, 7, 7, 7, 7, 7, 7, 7, 7, 7, 7, 7, 7, 7, 7, 7, 7, 7, 7, 7, 7, 7, 7, 7, 7, 7, 7, 7, 7, 7, 7, 7, 7, 7, 7, 7, 8, 8, 8, 8, 8, 8, 8, 8, 8, 8, 8, 8, 8, 8, 8, 8, 8, 8, 8, 8, 8, 8, 8, 8, 8, 8, 8, 8, 8, 8, 8, 8, 8, 8, 8, 8, 8, 8, 8, 8, 8, 8, 8, 8, 8, 8, 8, 8, 8, 8, 8, 8, 8, 8, 8, 8, 8, 8, 8, 8, 8, 8, 8, 8, 8, 8, 8, 8, 8, 8, 8, 8, 8, 8, 8, 8, 8, 8, 8, 8, 8, 8, 8, 8, 8, 8, 8, 8, 8, 8, 8, 8, 8, 8, 8, 8, 8, 8, 8, 8, 8, 8, 8, 8, 8, 8, 8, 8, 8, 8, 8, 8, 8, 8, 8, 8, 8, 8, 8, 8, 8, 8, 8, 8, 8, 8, 8, 8]⟩)) (.tmp 21)⟩,
 oO 23 (.conv .i64 (.tmp 22)),
 oO 24 (.bin .add (.tmp 19) (.tmp 23)),
 mV 2 24]
 .ret)))))
def g127 : Fn := ⟨1, 25, [.tmp 2], b127⟩
def b128 : AC :=
 (aR [lD 6 1,
 oO 7 (.len (.tmp 6)),
 oO 8 (.mov (cI 0))]
 (.block 0 (.loop (aR [oO 9 (.bin .lss (.tmp 8) (.tmp 7))]
 (.seq (.cond (.tmp 9)
 .skip
 (.exit 0))
 (.seq (.block 1 (aR [mV 10 8,
 oO 11 (.iaddr 1 (.tmp 6) (.tmp 8)),
 lD 12 11,
 mV 4 10,
 mV 5 12]
 (aR [mV 13 0,
 mV 14 5,
 oO 15 (.conv .i64 (.tmp 14)),
 lD 16 2,
 mV 17 4,
 oO 18 (.iaddr 1 (.tmp 16) (.tmp 17)),
 lD 19 18,
 oO 20 (.conv .i64 (.tmp 19)),
 oO 21 (.callv (.tmp 13) [(.tmp 15), (.tmp 20)]),
 oO 22 (.un .not (.tmp 21))]
 (.cond (.tmp 22)
 .ret
 .skip))))
 (.reg [oO 23 (.bin .add (.tmp 8) (cI 1)),
 mV 8 23])))))))
def g128 : Fn := ⟨3, 24, [], b128⟩
def b130 : AC :=
 (aR [oO 2 (.box (.tmp 0)),
 oO 4 (.mov (.con .nilS))]
 (aR [oO 9 (.build [.nilS] []),
 oO 10 (.box (.tmp 9)),
 oO 5 (.alloc .nilP),
 oN (.store 1 (.tmp 5) (.tmp 10))]
 (aR [oO 11 (.mkfn 136 [(.tmp 5), (.tmp 2)]),
 oO 6 (.alloc .nilF),
 oN (.store 1 (.tmp 6) (.tmp 11))]
 (.seq (aR [mV 12 1,
 oO 13 (.call 138 [(.tmp 12)])]
 (.block 0 (.rangeF (.tmp 13) [14]
 (.reg [oO 7 (.alloc (.agg [(.int .u64 0), (.int .u64 0)])),
 oN (.store 2 (.tmp 7) (.tmp 14))])
 (.block 1 (.seq (aR [lD 15 6,
 oO 16 (.load true 2 (.tmp 7)),
 oO 17 (.callv (.tmp 15) [(.tmp 16)]),
 oO 18 (.un .not (.tmp 17))]
 (.cond (.tmp 18)
 (.exit 1)
 .skip))
 (aR [lD 19 5,
 oO 20 (.mkif 179 (.tmp 19)),
 oO 21 (.load true 2 (.tmp 7)),
 oO 22 (.mkif 58 (.tmp 21)),
 oO 23 (.call 139 [(.tmp 20), (.tmp 22)])]
 (.seq (.regd [⟨[qQ (lD 24 5),
 pP (oO 25 (.nilck (.tmp 24))),
 pP (oO 26 (.faddr (.tmp 25) 0)),
 qQ (lD 27 26),
 qQ (oO 28 (.call 137 [(.tmp 27)])),
 qQ (lD 29 2)], 0, [oO 30 (.bin .gtr (.tmp 28) (.tmp 29))]⟩])
 (.cond (.tmp 30)
 (.reg [lD 31 5,
 oO 32 (.mkif 179 (.tmp 31)),
 oO 33 (.call 140 [(.tmp 32)])])
 .skip))))))))
 (aR [lD 34 5,
 oO 35 (.nilck (.tmp 34)),
 oO 36 (.faddr (.tmp 35) 0),
 lD 37 36,
 oO 38 (.call 141 [(.tmp 37)]),
 mV 8 38]
 (aR [mV 39 8,
 oO 40 (.call 71 [(.tmp 39), (.con (.fn 78 []))])]
 (aR [mV 41 8,
 mV 4 41]
 .ret)))))))
def g130 : Fn := ⟨2, 42, [.tmp 4], b130⟩
def b131 : AC :=
 (aR [mV 12 1,
 mV 10 12]
 (.block 0 (.loop (.block 1 (aR [mV 13 10,
 oO 14 (.bin .mul (cI 2) (.tmp 13)),
 oO 15 (.bin .add (.tmp 14) (cI 1)),
 mV 11 15]
 (.seq (aR [mV 16 11,
 mV 17 2,
 oO 18 (.bin .geq (.tmp 16) (.tmp 17))]
 (.cond (.tmp 18)
 (.exit 0)
 .skip))
 (.seq (.seq (.regd [⟨[pP (mV 19 11),
 pP (oO 20 (.bin .add (.tmp 19) (cI 1))),
 pP (mV 21 2)], 0, [oO 22 (.bin .lss (.tmp 20) (.tmp 21)),
 mV 23 22]⟩,
 ⟨[pP (gO 24 23 true (.mov (.tmp 4))),
 pP (gO 25 23 true (.mov (.tmp 0))),
 pP (gO 26 23 true (.mov (.tmp 3))),
 pP (gO 27 23 true (.mov (.tmp 11))),
 pP (gO 28 23 true (.bin .add (.tmp 26) (.tmp 27))),
 pP (gO 29 23 true (.iaddr 2 (.tmp 25) (.tmp 28))),
 qQ (gO 30 23 true (.load true 2 (.tmp 29))),
 pP (gO 31 23 true (.mov (.tmp 0))),
 pP (gO 32 23 true (.mov (.tmp 3))),
 pP (gO 33 23 true (.mov (.tmp 11))),
 pP (gO 34 23 true (.bin .add (.tmp 32) (.tmp 33))),
 pP (gO 35 23 true (.bin .add (.tmp 34) (cI 1))),
 pP (gO 36 23 true (.iaddr 2 (.tmp 31) (.tmp 35))),
 qQ (gO 37 23 true (.load true 2 (.tmp 36)))], 0, [gO 38 23 true (.callv (.tmp 24) [(.tmp 30), (.tmp 37)]),
 gO 39 23 true (.bin .lss (.tmp 38) (cI 0)),
 oO 40 (.pick (.tmp 23) (.tmp 39) (.con (.bool false)))]⟩])
 (.cond (.tmp 40)
 (.reg [mV 41 11,
 oO 42 (.bin .add (.tmp 41) (cI 1)),
 mV 11 42])
 .skip))
 (.seq (.seq (.regd [⟨[pP (mV 43 4),
 pP (mV 44 0),
 pP (mV 45 3),
 pP (mV 46 10),
 pP (oO 47 (.bin .add (.tmp 45) (.tmp 46))),
 pP (oO 48 (.iaddr 2 (.tmp 44) (.tmp 47))),
 qQ (oO 49 (.load true 2 (.tmp 48))),
 pP (mV 50 0),
 pP (mV 51 3),
 pP (mV 52 11),
 pP (oO 53 (.bin .add (.tmp 51) (.tmp 52))),
 pP (oO 54 (.iaddr 2 (.tmp 50) (.tmp 53))),
 qQ (oO 55 (.load true 2 (.tmp 54)))], 0, [oO 56 (.callv (.tmp 43) [(.tmp 49), (.tmp 55)]),
 oO 57 (.bin .lss (.tmp 56) (cI 0)),
 oO 58 (.un .not (.tmp 57))]⟩])
 (.cond (.tmp 58)
 .ret
 .skip))
 (.seq (.regd [⟨[pP (mV 59 0),
 pP (mV 60 3),
 pP (mV 61 10),
 pP (oO 62 (.bin .add (.tmp 60) (.tmp 61))),
 pP (mV 63 0),
 pP (mV 64 3),
 pP (mV 65 11),
 pP (oO 66 (.bin .add (.tmp 64) (.tmp 65))),
 pP (mV 67 0),
 pP (mV 68 3),
 pP (mV 69 11),
 pP (oO 70 (.bin .add (.tmp 68) (.tmp 69))),
 pP (oO 71 (.iaddr 2 (.tmp 67) (.tmp 70))),
 qQ (oO 72 (.load true 2 (.tmp 71))),
 pP (mV 73 0),
 pP (mV 74 3),
 pP (mV 75 10),
 pP (oO 76 (.bin .add (.tmp 74) (.tmp 75))),
 pP (oO 77 (.iaddr 2 (.tmp 73) (.tmp 76))),
 qQ (oO 78 (.load true 2 (.tmp 77))),
 pP (oO 79 (.iaddr 2 (.tmp 59) (.tmp 62))),
 ⟨oN (.store 2 (.tmp 79) (.tmp 72)), false, true, false, 0, [], none⟩], 0, [oO 80 (.iaddr 2 (.tmp 63) (.tmp 66)),
 oN (.store 2 (.tmp 80) (.tmp 78))]⟩])
 (.reg [mV 81 11,
 mV 10 81]))))))))))
def g131 : Fn := ⟨5, 82, [], b131⟩
def b132 : AC :=
 (aR [oO 2 (.mov (.con (.int .u64 0)))]
 (aR [mV 3 0,
 oO 4 (.conv .u64 (.tmp 3)),
 oO 5 (.call 106 [(.tmp 4)]),
 oO 6 (.bin .shl (.con (.int .u64 1)) (.tmp 5)),
 mV 2 6]
 .ret))
def g132 : Fn := ⟨1, 7, [.tmp 2], b132⟩
def b133 : AC :=
 (aR [oO 2 (.mov (.con (.int .u64 0)))]
 (.seq (.regd [⟨[pP (mV 3 0),
 pP (oO 4 (.nilck (.tmp 3))),
 qQ (lD 5 4),
 pP (mV 6 0),
 pP (oO 7 (.nilck (.tmp 6))),
 qQ (lD 8 7),
 pP (oO 9 (.bin .shl (.tmp 8) (.con (.int .u64 13))))], 0, [oO 10 (.bin .xor (.tmp 5) (.tmp 9)),
 oO 11 (.nilck (.tmp 3)),
 oN (.store 1 (.tmp 11) (.tmp 10))]⟩])
 (.seq (.regd [⟨[pP (mV 12 0),
 pP (oO 13 (.nilck (.tmp 12))),
 qQ (lD 14 13),
 pP (mV 15 0),
 pP (oO 16 (.nilck (.tmp 15))),
 qQ (lD 17 16),
 pP (oO 18 (.bin .shr (.tmp 17) (.con (.int .u64 7))))], 0, [oO 19 (.bin .xor (.tmp 14) (.tmp 18)),
 oO 20 (.nilck (.tmp 12)),
 oN (.store 1 (.tmp 20) (.tmp 19))]⟩])
 (.seq (.regd [⟨[pP (mV 21 0),
 pP (oO 22 (.nilck (.tmp 21))),
 qQ (lD 23 22),
 pP (mV 24 0),
 pP (oO 25 (.nilck (.tmp 24))),
 qQ (lD 26 25),
 pP (oO 27 (.bin .shl (.tmp 26) (.con (.int .u64 17))))], 0, [oO 28 (.bin .xor (.tmp 23) (.tmp 27)),
 oO 29 (.nilck (.tmp 21)),
 oN (.store 1 (.tmp 29) (.tmp 28))]⟩])
 (aR [mV 30 0,
 oO 31 (.nilck (.tmp 30)),
 lD 32 31,
 mV 2 32]
 .ret)))))
def g133 : Fn := ⟨1, 33, [.tmp 2], b133⟩
def b134 : AC :=
 (aR [oO 8 (.mov (cI 0))]
 (aR [mV 9 0,
 mV 10 1,
 oO 11 (.bin .sub (.tmp 10) (cI 1)),
 mV 12 1,
 mV 13 1,
 oO 14 (.bin .add (.tmp 13) (cI 1)),
 mV 15 2,
 mV 16 3,
 oO 17 (.call 135 [(.tmp 9), (.tmp 11), (.tmp 12), (.tmp 14), (.tmp 15), (.tmp 16)]),
 mV 8 17]
 .ret))
def g134 : Fn := ⟨4, 18, [.tmp 8], b134⟩
def b135 : AC :=
 (aR [oO 12 (.mov (cI 0))]
 (aR [mV 14 0,
 mV 15 1,
 mV 16 2,
 mV 17 4,
 mV 18 5,
 oO 19 (.call 142 [(.tmp 14), (.tmp 15), (.tmp 16), (.tmp 17), (.tmp 18)]),
 mV 13 19,
 oO 20 (.ext (.tmp 13) 0),
 oO 21 (.ext (.tmp 13) 1),
 mV 1 20,
 mV 2 21]
 (aR [mV 23 0,
 mV 24 2,
 mV 25 3,
 mV 26 4,
 mV 27 5,
 oO 28 (.call 142 [(.tmp 23), (.tmp 24), (.tmp 25), (.tmp 26), (.tmp 27)]),
 mV 22 28,
 oO 29 (.ext (.tmp 22) 0),
 oO 30 (.ext (.tmp 22) 1),
 mV 2 29,
 mV 3 30]
 (aR [mV 32 0,
 mV 33 1,
 mV 34 2,
 mV 35 4,
 mV 36 5,
 oO 37 (.call 142 [(.tmp 32), (.tmp 33), (.tmp 34), (.tmp 35), (.tmp 36)]),
 mV 31 37,
 oO 38 (.ext (.tmp 31) 0),
 oO 39 (.ext (.tmp 31) 1),
 mV 1 38,
 mV 2 39]
 (aR [mV 40 2,
 mV 12 40]
 .ret)))))
def g135 : Fn := ⟨6, 41, [.tmp 12], b135⟩
def b136 : AC :=
 (aR [oO 3 (.box (.tmp 0)),
 oO 4 (.mov (.con (.bool false)))]
 (.seq (.regd [⟨[qQ (lD 5 1),
 pP (oO 6 (.nilck (.tmp 5))),
 pP (oO 7 (.faddr (.tmp 6) 0)),
 qQ (lD 8 7),
 qQ (oO 9 (.call 137 [(.tmp 8)])),
 qQ (lD 10 2)], 0, [oO 11 (.bin .lss (.tmp 9) (.tmp 10)),
 mV 12 11]⟩,
 ⟨[qQ (gO 13 12 false (.load true 2 (.tmp 3))),
 qQ (gO 14 12 false (.load false 1 (.tmp 1))),
 pP (gO 15 12 false (.nilck (.tmp 14))),
 pP (gO 16 12 false (.faddr (.tmp 15) 0)),
 qQ (gO 17 12 false (.load false 1 (.tmp 16))),
 pP (gO 18 12 false (.iaddr 2 (.tmp 17) (cI 0))),
 qQ (gO 19 12 false (.load true 2 (.tmp 18)))], 0, [gO 20 12 false (.call 78 [(.tmp 13), (.tmp 19)]),
 gO 21 12 false (.bin .lss (.tmp 20) (cI 0)),
 oO 22 (.pick (.tmp 12) (.con (.bool true)) (.tmp 21)),
 mV 4 22]⟩])
 .ret))
def g136 : Fn := ⟨3, 23, [.tmp 4], b136⟩
def b137 : AC :=
 (aR [oO 2 (.mov (cI 0))]
 (aR [mV 3 0,
 oO 4 (.len (.tmp 3)),
 mV 2 4]
 .ret))
def g137 : Fn := ⟨1, 5, [.tmp 2], b137⟩
def b138 : AC :=
 (aR [oO 1 (.box (.tmp 0)),
 oO 2 (.mov (.con .nilF))]
 (aR [oO 3 (.mkfn 143 [(.tmp 1)]),
 mV 2 3]
 .ret))
def g138 : Fn := ⟨1, 4, [.tmp 2], b138⟩
def b139 : AC :=
 (aR [mV 4 0,
 mV 5 1,
 oO 6 (.inv (.tmp 4) [(179, 164, none)] [(.tmp 5)])]
 (.reg [mV 7 0,
 mV 8 0,
 oO 9 (.inv (.tmp 8) [(17, 159, none), (179, 137, some (false, 1, 0)), (180, 137, none)] []),
 oO 10 (.bin .sub (.tmp 9) (cI 1)),
 oO 11 (.call 144 [(.tmp 7), (.tmp 10)])]))
def g139 : Fn := ⟨2, 12, [], b139⟩
def b140 : AC :=
 (aR [oO 2 (.mov (.con .nilI))]
 (aR [mV 4 0,
 oO 5 (.inv (.tmp 4) [(17, 159, none), (179, 137, some (false, 1, 0)), (180, 137, none)] []),
 oO 6 (.bin .sub (.tmp 5) (cI 1)),
 mV 3 6]
 (aR [mV 7 0,
 mV 8 3,
 oO 9 (.inv (.tmp 7) [(179, 165, some (false, 1, 0)), (180, 165, none)] [(cI 0), (.tmp 8)])]
 (aR [mV 10 0,
 mV 11 3,
 oO 12 (.call 145 [(.tmp 10), (cI 0), (.tmp 11)])]
 (aR [mV 13 0,
 oO 14 (.inv (.tmp 13) [(179, 163, none)] []),
 mV 2 14]
 .ret)))))
def g140 : Fn := ⟨1, 15, [.tmp 2], b140⟩
def b141 : AC :=
 (aR [oO 2 (.mov (.con .nilS))]
 (.seq (aR [mV 3 0,
 oO 4 (.eqN false (.tmp 3))]
 (.cond (.tmp 4)
 (aR [oO 2 (.mov (.con .nilS))]
 .ret)
 .skip))
 (aR [oO 5 (.lit 2 []),
 mV 6 0,
 oO 7 (.append 2 16 (.tmp 5) (.tmp 6)),
 mV 2 7]
 .ret)))
def g141 : Fn := ⟨1, 8, [.tmp 2], b141⟩
def b142 : AC :=
 (aR [oO 10 (.mov (cI 0)),
 oO 11 (.mov (cI 0))]
 (.seq (.seq (.regd [⟨[pP (mV 12 4),
 pP (mV 13 0),
 pP (mV 14 2),
 pP (oO 15 (.iaddr 2 (.tmp 13) (.tmp 14))),
 qQ (oO 16 (.load true 2 (.tmp 15))),
 pP (mV 17 0),
 pP (mV 18 1),
 pP (oO 19 (.iaddr 2 (.tmp 17) (.tmp 18))),
 qQ (oO 20 (.load true 2 (.tmp 19)))], 0, [oO 21 (.callv (.tmp 12) [(.tmp 16), (.tmp 20)]),
 oO 22 (.bin .lss (.tmp 21) (cI 0))]⟩])
 (.cond (.tmp 22)
 (aR [mV 23 3,
 oO 24 (.nilck (.tmp 23)),
 lD 25 24,
 oO 26 (.bin .add (.tmp 25) (cI 1)),
 oO 27 (.nilck (.tmp 23)),
 oN (.store 1 (.tmp 27) (.tmp 26))]
 (aR [mV 28 2,
 mV 29 1,
 mV 10 28,
 mV 11 29]
 .ret))
 .skip))
 (aR [mV 30 1,
 mV 31 2,
 mV 10 30,
 mV 11 31]
 .ret)))
def g142 : Fn := ⟨5, 32, [.tmp 10, .tmp 11], b142⟩
def b143 : AC :=
 (aR [lD 7 1,
 oO 8 (.len (.tmp 7)),
 oO 9 (.mov (cI 0))]
 (.block 0 (.loop (aR [oO 10 (.bin .lss (.tmp 9) (.tmp 8))]
 (.seq (.cond (.tmp 10)
 .skip
 (.exit 0))
 (.seq (.block 1 (aR [oO 11 (.iaddr 1 (.tmp 7) (.tmp 9)),
 lD 12 11,
 mV 4 12]
 (aR [mV 13 4,
 oO 14 (.len (.tmp 13)),
 oO 15 (.mov (cI 0))]
 (.block 2 (.loop (aR [oO 16 (.bin .lss (.tmp 15) (.tmp 14))]
 (.seq (.cond (.tmp 16)
 .skip
 (.exit 2))
 (.seq (.block 3 (aR [oO 17 (.iaddr 2 (.tmp 13) (.tmp 15)),
 oO 18 (.load true 2 (.tmp 17)),
 oO 6 (.alloc (.agg [(.int .u64 0), (.int .u64 0)])),
 oN (.store 2 (.tmp 6) (.tmp 18))]
 (aR [mV 19 0,
 oO 20 (.load true 2 (.tmp 6)),
 oO 21 (.callv (.tmp 19) [(.tmp 20)]),
 oO 22 (.un .not (.tmp 21))]
 (.cond (.tmp 22)
 .ret
 .skip))))
 (.reg [oO 23 (.bin .add (.tmp 15) (cI 1)),
 mV 15 23])))))))))
 (.reg [oO 24 (.bin .add (.tmp 9) (cI 1)),
 mV 9 24])))))))
def g143 : Fn := ⟨2, 25, [], b143⟩
def b144 : AC :=
 (.block 0 (.loop (.block 1 (aR [mV 5 1,
 oO 6 (.bin .sub (.tmp 5) (cI 1)),
 oO 7 (.bin .quo (.tmp 6) (cI 2)),
 mV 4 7]
 (.seq (aR [mV 8 4,
 mV 9 1,
 oO 10 (.bin .eql (.tmp 8) (.tmp 9)),
 mV 11 10,
 gO 12 11 false (.mov (.tmp 0)),
 gO 13 11 false (.mov (.tmp 1)),
 gO 14 11 false (.mov (.tmp 4)),
 gO 15 11 false (.inv (.tmp 12) [(179, 162, none)] [(.tmp 13), (.tmp 14)]),
 gO 16 11 false (.un .not (.tmp 15)),
 oO 17 (.pick (.tmp 11) (.con (.bool true)) (.tmp 16))]
 (.cond (.tmp 17)
 (.exit 0)
 .skip))
 (aR [mV 18 0,
 mV 19 4,
 mV 20 1,
 oO 21 (.inv (.tmp 18) [(179, 165, some (false, 1, 0)), (180, 165, none)] [(.tmp 19), (.tmp 20)])]
 (.reg [mV 22 4,
 mV 1 22])))))))
def g144 : Fn := ⟨2, 23, [], b144⟩
def b145 : AC :=
 (aR [oO 6 (.mov (.con (.bool false)))]
 (aR [mV 11 1,
 mV 7 11]
 (.seq (.block 0 (.loop (.block 1 (aR [mV 12 7,
 oO 13 (.bin .mul (cI 2) (.tmp 12)),
 oO 14 (.bin .add (.tmp 13) (cI 1)),
 mV 8 14]
 (.seq (aR [mV 15 8,
 mV 16 2,
 oO 17 (.bin .geq (.tmp 15) (.tmp 16)),
 mV 18 17,
 gO 19 18 false (.mov (.tmp 8)),
 gO 20 18 false (.bin .lss (.tmp 19) (cI 0)),
 oO 21 (.pick (.tmp 18) (.con (.bool true)) (.tmp 20))]
 (.cond (.tmp 21)
 (.exit 0)
 .skip))
 (aR [mV 22 8,
 mV 9 22]
 (.seq (aR [mV 23 8,
 oO 24 (.bin .add (.tmp 23) (cI 1)),
 mV 10 24]
 (aR [mV 25 10,
 mV 26 2,
 oO 27 (.bin .lss (.tmp 25) (.tmp 26)),
 mV 28 27,
 gO 29 28 true (.mov (.tmp 0)),
 gO 30 28 true (.mov (.tmp 10)),
 gO 31 28 true (.mov (.tmp 8)),
 gO 32 28 true (.inv (.tmp 29) [(179, 162, none)] [(.tmp 30), (.tmp 31)]),
 oO 33 (.pick (.tmp 28) (.tmp 32) (.con (.bool false)))]
 (.cond (.tmp 33)
 (.reg [mV 34 10,
 mV 9 34])
 .skip)))
 (.seq (aR [mV 35 0,
 mV 36 9,
 mV 37 7,
 oO 38 (.inv (.tmp 35) [(179, 162, none)] [(.tmp 36), (.tmp 37)]),
 oO 39 (.un .not (.tmp 38))]
 (.cond (.tmp 39)
 (.exit 0)
 .skip))
 (aR [mV 40 0,
 mV 41 7,
 mV 42 9,
 oO 43 (.inv (.tmp 40) [(179, 165, some (false, 1, 0)), (180, 165, none)] [(.tmp 41), (.tmp 42)])]
 (.reg [mV 44 9,
 mV 7 44]))))))))))
 (aR [mV 45 7,
 mV 46 1,
 oO 47 (.bin .gtr (.tmp 45) (.tmp 46)),
 mV 6 47]
 .ret))))
def g145 : Fn := ⟨3, 48, [.tmp 6], b145⟩
def b162 : AC :=
 (aR [oO 6 (.mov (.con (.bool false)))]
 (.seq (.regd [⟨[pP (mV 7 0),
 pP (oO 8 (.nilck (.tmp 7))),
 pP (oO 9 (.faddr (.tmp 8) 0)),
 qQ (lD 10 9),
 pP (mV 11 1),
 pP (oO 12 (.iaddr 2 (.tmp 10) (.tmp 11))),
 qQ (oO 13 (.load true 2 (.tmp 12))),
 pP (mV 14 0),
 pP (oO 15 (.nilck (.tmp 14))),
 pP (oO 16 (.faddr (.tmp 15) 0)),
 qQ (lD 17 16),
 pP (mV 18 2),
 pP (oO 19 (.iaddr 2 (.tmp 17) (.tmp 18))),
 qQ (oO 20 (.load true 2 (.tmp 19)))], 0, [oO 21 (.call 78 [(.tmp 13), (.tmp 20)]),
 oO 22 (.bin .gtr (.tmp 21) (cI 0)),
 mV 6 22]⟩])
 .ret))
def g162 : Fn := ⟨3, 23, [.tmp 6], b162⟩
def b163 : AC :=
 (aR [oO 2 (.mov (.con .nilI))]
 (aR [mV 5 0,
 oO 6 (.nilck (.tmp 5)),
 oO 7 (.faddr (.tmp 6) 0),
 lD 8 7,
 oO 9 (.len (.tmp 8)),
 oO 10 (.bin .sub (.tmp 9) (cI 1)),
 mV 3 10]
 (aR [mV 11 0,
 oO 12 (.nilck (.tmp 11)),
 oO 13 (.faddr (.tmp 12) 0),
 lD 14 13,
 mV 15 3,
 oO 16 (.iaddr 2 (.tmp 14) (.tmp 15)),
 oO 17 (.load true 2 (.tmp 16)),
 oO 4 (.alloc (.agg [(.int .u64 0), (.int .u64 0)])),
 oN (.store 2 (.tmp 4) (.tmp 17))]
 (aR [mV 18 0,
 mV 19 0,
 oO 20 (.nilck (.tmp 19)),
 oO 21 (.faddr (.tmp 20) 0),
 lD 22 21,
 mV 23 3,
 oO 24 (.slice 2 (.tmp 22) none (some (.tmp 23))),
 oO 25 (.nilck (.tmp 18)),
 oO 26 (.faddr (.tmp 25) 0),
 oN (.store 1 (.tmp 26) (.tmp 24))]
 (aR [oO 27 (.load true 2 (.tmp 4)),
 oO 28 (.mkif 58 (.tmp 27)),
 mV 2 28]
 .ret)))))
def g163 : Fn := ⟨1, 29, [.tmp 2], b163⟩
def b164 : AC :=
 (aR [mV 7 1,
 oO 8 (.tas true 58 (.agg [(.int .u64 0), (.int .u64 0)]) (.tmp 7)),
 mV 6 8,
 oO 9 (.ext (.tmp 6) 0),
 oO 10 (.ext (.tmp 6) 1),
 oO 4 (.alloc (.agg [(.int .u64 0), (.int .u64 0)])),
 oN (.store 2 (.tmp 4) (.tmp 9)),
 mV 5 10]
 (aR [mV 11 5]
 (.cond (.tmp 11)
 (.regd [⟨[pP (mV 12 0),
 pP (mV 13 0),
 pP (oO 14 (.nilck (.tmp 13))),
 pP (oO 15 (.faddr (.tmp 14) 0)),
 ⟨lD 16 15, false, false, false, 0, [0], none⟩,
 qQ (oO 17 (.load true 2 (.tmp 4))),
 ⟨oO 18 (.lit 2 [(.tmp 17)]), false, false, true, 0, [], none⟩,
 ⟨oO 19 (.append 2 16 (.tmp 16) (.tmp 18)), false, true, true, 1, [], none⟩], 2, [oO 20 (.nilck (.tmp 12)),
 oO 21 (.faddr (.tmp 20) 0),
 oN (.store 1 (.tmp 21) (.tmp 19))]⟩])
 .skip)))
def g164 : Fn := ⟨2, 22, [], b164⟩
def b165 : AC :=
 (.regd [⟨[pP (mV 6 0),
 pP (mV 7 1),
 pP (mV 8 0),
 pP (mV 9 2),
 pP (mV 10 0),
 pP (mV 11 2),
 pP (oO 12 (.iaddr 2 (.tmp 10) (.tmp 11))),
 qQ (oO 13 (.load true 2 (.tmp 12))),
 pP (mV 14 0),
 pP (mV 15 1),
 pP (oO 16 (.iaddr 2 (.tmp 14) (.tmp 15))),
 qQ (oO 17 (.load true 2 (.tmp 16))),
 pP (oO 18 (.iaddr 2 (.tmp 6) (.tmp 7))),
 ⟨oN (.store 2 (.tmp 18) (.tmp 13)), false, true, false, 0, [], none⟩], 0, [oO 19 (.iaddr 2 (.tmp 8) (.tmp 9)),
 oN (.store 2 (.tmp 19) (.tmp 17))]⟩])
def g165 : Fn := ⟨3, 20, [], b165⟩
def fnOf : Nat → Option Fn
 | 4 => some g4
 | 5 => some g5
 | 8 => some g8
 | 11 => some g11
 | 12 => some g12
 | 13 => some g13
 | 14 => some g14
 | 15 => some g15
 | 16 => some g16
 | 17 => some g17
 | 18 => some g18
 | 19 => some g19
 | 20 => some g20
 | 25 => some g25
 | 28 => some g28
 | 29 => some g29
 | 31 => some g31
 | 33 => some g33
 | 34 => some g34
 | 35 => some g35
 | 36 => some g36
 | 37 => some g37
 | 38 => some g38
 | 39 => some g39
 | 40 => some g40
 | 41 => some g41
 | 42 => some g42
 | 43 => some g43
 | 44 => some g44
 | 45 => some g45
 | 46 => some g46
 | 47 => some g47
 | 48 => some g48
 | 49 => some g49
 | 50 => some g50
 | 55 => some g55
 | 60 => some g60
 | 61 => some g61
 | 62 => some g62
 | 63 => some g63
 | 67 => some g67
 | 68 => some g68
 | 69 => some g69
 | 70 => some g70
 | 71 => some g71
 | 72 => some g72
 | 73 => some g73
 | 74 => some g74
 | 75 => some g75
 | 76 => some g76
 | 77 => some g77
 | 78 => some g78
 | 79 => some g79
 | 80 => some g80
 | 81 => some g81
 | 82 => some g82
 | 83 => some g83
 | 84 => some g84
 | 85 => some g85
 | 86 => some g86
 | 87 => some g87
 | 92 => some g92
 | 96 => some g96
 | 97 => some g97
 | 98 => some g98
 | 99 => some g99
 | 104 => some g104
 | 105 => some g105
 | 106 => some g106
 | 107 => some g107
 | 108 => some g108
 | 109 => some g109
 | 110 => some g110
 | 111 => some g111
 | 112 => some g112
 | 113 => some g113
 | 115 => some g115
 | 117 => some g117
 | 118 => some g118
 | 119 => some g119
 | 120 => some g120
 | 121 => some g121
 | 122 => some g122
 | 123 => some g123
 | 124 => some g124
 | 125 => some g125
 | 126 => some g126
 | 127 => some g127
 | 128 => some g128
 | 130 => some g130
 | 131 => some g131
 | 132 => some g132
 | 133 => some g133
 | 134 => some g134
 | 135 => some g135
 | 136 => some g136
 | 137 => some g137
 | 138 => some g138
 | 139 => some g139
 | 140 => some g140
 | 141 => some g141
 | 142 => some g142
 | 143 => some g143
 | 144 => some g144
 | 145 => some g145
 | 162 => some g162
 | 163 => some g163
 | 164 => some g164
 | 165 => some g165
 | _ => none
def modeOf (f : Nat) : Mode := if f ∈ [130, 141, 92, 115, 18, 16, 44, 55] then .own else if f ∈ [139, 140, 144, 145, 164, 163, 165, 71, 105, 118, 119, 120, 122, 123, 124, 125, 131, 133, 134, 135, 142] then .raw else .pure
def T : Tab := ⟨fnOf, modeOf⟩
end Go.Q.SZ
end

section
/- Hits, and which stands ahead. -/
set_option linter.unusedSimpArgs false
set_option linter.unusedVariables false
namespace Go.Q.SZ
open Go.Q
structure Hit where
  id : Int
  d : Int
  deriving Inhabited, DecidableEq
def hitV (x : Hit) : V := .agg [.int .u64 x.id, .int .u64 x.d]
def cmpU (x y : Int) : Int := if x < y then -1 else if y < x then 1 else 0
def cmpH (a b : Hit) : Int := if cmpU a.d b.d = 0 then cmpU a.id b.id else cmpU a.d b.d
def ahead (a b : Hit) : Bool := decide (a.d < b.d) || (a.d == b.d && decide (a.id < b.id))
theorem cmp_lt (a b : Hit) : decide (cmpH a b < 0) = ahead a b := by
  unfold cmpH cmpU ahead
  by_cases h1 : a.d < b.d
  · simp [h1]
  · by_cases h2 : b.d < a.d
    · have : a.d ≠ b.d := by omega
      simp [h1, h2, this]
    · have e : a.d = b.d := by omega
      by_cases h3 : a.id < b.id
      · simp [e, h3]
      · by_cases h4 : b.id < a.id <;> simp [e, h3, h4]
theorem cmp_gt (a b : Hit) : decide (0 < cmpH a b) = ahead b a := by
  unfold cmpH cmpU ahead
  by_cases h1 : b.d < a.d
  · have : ¬ a.d < b.d := by omega
    simp [h1, this]
  · by_cases h2 : a.d < b.d
    · have : b.d ≠ a.d := by omega
      simp [h1, h2, this]
    · have e : b.d = a.d := by omega
      by_cases h3 : b.id < a.id
      · have : ¬ a.id < b.id := by omega
        simp [e, h3, this]
      · by_cases h4 : a.id < b.id <;> simp [e, h3, h4]
theorem r107 (x : Int) : res T 107 [.int .u64 x] = some (.bool false) := by
  refine run_res (run_pure (fn := g107) rfl rfl (by decide) ?_)
  simp only [g107, b107, oO, oN, mV, lD, gO, pP, qQ, cI, aR]
  simp +contextual -implicitDefEqProofs (maxSteps := 2000000) only [↓wP, wQ, wQ1, wQ2, wQ3, wR, boxE, partsOf, ↓reduceIte, Nat.reduceEqDiff, Nat.reduceAdd, Nat.reduceSub, Nat.reduceLeDiff, Nat.reduceLT, Nat.reduceMul, reduceCtorEq, Int.reduceBNe, Int.reduceBEq, Int.reduceLT, Int.reduceLE, Int.reduceGT]
theorem f107 (x : Int) (fs : Bool) (σ : Sto) (n lk : Nat) : callE T fs 107 [.int .u64 x] σ n lk = some (.bool false, σ, n) :=
  callE_tr (by decide) (r107 x) (by simp [Tr, Tr_slV]) rfl fs σ n lk
theorem r74 (x y : Int) : res T 74 [.int .u64 x, .int .u64 y] = some (.int .i64 (cmpU x y)) := by
  refine run_res (run_pure (fn := g74) rfl rfl (by decide) ?_)
  simp only [g74, b74, oO, oN, mV, lD, gO, pP, qQ, cI, aR]
  simp +contextual -implicitDefEqProofs (maxSteps := 2000000) only [↓wP, wQ, wQ1, wQ2, wQ3, wR, boxE, partsOf, ↓reduceIte, Nat.reduceEqDiff, Nat.reduceAdd, Nat.reduceSub, Nat.reduceLeDiff, Nat.reduceLT, Nat.reduceMul, reduceCtorEq, Int.reduceBNe, Int.reduceBEq, Int.reduceLT, Int.reduceLE, Int.reduceGT, f107]
  unfold cmpU
  by_cases h1 : x < y
  · simp +contextual -implicitDefEqProofs (maxSteps := 2000000) only [↓wP, wQ, wQ1, wQ2, wQ3, wR, boxE, partsOf, ↓reduceIte, Nat.reduceEqDiff, Nat.reduceAdd, Nat.reduceSub, Nat.reduceLeDiff, Nat.reduceLT, Nat.reduceMul, reduceCtorEq, Int.reduceBNe, Int.reduceBEq, Int.reduceLT, Int.reduceLE, Int.reduceGT, h1]
  · by_cases h2 : y < x
    · simp +contextual -implicitDefEqProofs (maxSteps := 2000000) only [↓wP, wQ, wQ1, wQ2, wQ3, wR, boxE, partsOf, ↓reduceIte, Nat.reduceEqDiff, Nat.reduceAdd, Nat.reduceSub, Nat.reduceLeDiff, Nat.reduceLT, Nat.reduceMul, reduceCtorEq, Int.reduceBNe, Int.reduceBEq, Int.reduceLT, Int.reduceLE, Int.reduceGT, h1, h2]
    · simp +contextual -implicitDefEqProofs (maxSteps := 2000000) only [↓wP, wQ, wQ1, wQ2, wQ3, wR, boxE, partsOf, ↓reduceIte, Nat.reduceEqDiff, Nat.reduceAdd, Nat.reduceSub, Nat.reduceLeDiff, Nat.reduceLT, Nat.reduceMul, reduceCtorEq, Int.reduceBNe, Int.reduceBEq, Int.reduceLT, Int.reduceLE, Int.reduceGT, h1, h2]
theorem f74 (x y : Int) (fs : Bool) (σ : Sto) (n lk : Nat) : callE T fs 74 [.int .u64 x, .int .u64 y] σ n lk = some (.int .i64 (cmpU x y), σ, n) :=
  callE_tr (by decide) (r74 x y) (by simp [Tr, Tr_slV]) rfl fs σ n lk
theorem r73 (a b : Int) : res T 73 [.sl 1 [.int .i64 a, .int .i64 b]] = some (.int .i64 (if a = 0 then b else a)) := by
  refine run_res (run_pure (fn := g73) rfl rfl (by decide) ?_)
  simp only [g73, b73, oO, oN, mV, lD, gO, pP, qQ, cI, aR]
  simp +contextual -implicitDefEqProofs (maxSteps := 2000000) only [↓wP, wQ, wQ1, wQ2, wQ3, wR, boxE, partsOf, ↓reduceIte, Nat.reduceEqDiff, Nat.reduceAdd, Nat.reduceSub, Nat.reduceLeDiff, Nat.reduceLT, Nat.reduceMul, reduceCtorEq, Int.reduceBNe, Int.reduceBEq, Int.reduceLT, Int.reduceLE, Int.reduceGT]
  refine WC_for 2 0 (fun (j : Nat) env σ n => env 3 = .int .i64 0 ∧ env 6 = .sl 1 [.int .i64 a, .int .i64 b] ∧ (0 < j → a = 0) ∧ (1 < j → b = 0)) (by omega) (by decide) (by decide) (fun _ _ => rfl) (fun _ _ _ => rfl) ?_ ?_ _ _ _ rfl rfl ?_
  · intro j env σ n hj h1 h2 ⟨h3, h4, h5, h6⟩
    simp only [vl_tmp] at h2
    match j, hj with
    | 0, _ =>
      by_cases ha : a = 0
      · have hd : (a != 0) = false := by simp [ha]
        simp +contextual -implicitDefEqProofs (maxSteps := 2000000) only [↓wP, wQ, wQ1, wQ2, wQ3, wR, boxE, partsOf, ↓reduceIte, Nat.reduceEqDiff, Nat.reduceAdd, Nat.reduceSub, Nat.reduceLeDiff, Nat.reduceLT, Nat.reduceMul, reduceCtorEq, Int.reduceBNe, Int.reduceBEq, Int.reduceLT, Int.reduceLE, Int.reduceGT, h1, h2, h3, h4, hd]
        exact ⟨fun _ => ha, fun h => h.elim⟩
      · have hd : (a != 0) = true := by simp [ha]
        simp +contextual -implicitDefEqProofs (maxSteps := 2000000) only [↓wP, wQ, wQ1, wQ2, wQ3, wR, boxE, partsOf, ↓reduceIte, Nat.reduceEqDiff, Nat.reduceAdd, Nat.reduceSub, Nat.reduceLeDiff, Nat.reduceLT, Nat.reduceMul, reduceCtorEq, Int.reduceBNe, Int.reduceBEq, Int.reduceLT, Int.reduceLE, Int.reduceGT, h1, h2, h3, h4, hd, ha]
    | 1, _ =>
      have ha := h5 (by omega)
      by_cases hb : b = 0
      · have hd : (b != 0) = false := by simp [hb]
        simp +contextual -implicitDefEqProofs (maxSteps := 2000000) only [↓wP, wQ, wQ1, wQ2, wQ3, wR, boxE, partsOf, ↓reduceIte, Nat.reduceEqDiff, Nat.reduceAdd, Nat.reduceSub, Nat.reduceLeDiff, Nat.reduceLT, Nat.reduceMul, reduceCtorEq, Int.reduceBNe, Int.reduceBEq, Int.reduceLT, Int.reduceLE, Int.reduceGT, h1, h2, h3, h4, hd]
        exact ⟨fun _ => ha, fun _ => hb⟩
      · have hd : (b != 0) = true := by simp [hb]
        simp +contextual -implicitDefEqProofs (maxSteps := 2000000) only [↓wP, wQ, wQ1, wQ2, wQ3, wR, boxE, partsOf, ↓reduceIte, Nat.reduceEqDiff, Nat.reduceAdd, Nat.reduceSub, Nat.reduceLeDiff, Nat.reduceLT, Nat.reduceMul, reduceCtorEq, Int.reduceBNe, Int.reduceBEq, Int.reduceLT, Int.reduceLE, Int.reduceGT, h1, h2, h3, h4, hd, ha]
  · intro env σ n ⟨h3, h4, h5, h6⟩ h1 h2
    have ha : a = 0 := h5 (by decide)
    have hb : b = 0 := h6 (by decide)
    simp +contextual -implicitDefEqProofs (maxSteps := 2000000) only [↓wP, wQ, wQ1, wQ2, wQ3, wR, boxE, partsOf, ↓reduceIte, Nat.reduceEqDiff, Nat.reduceAdd, Nat.reduceSub, Nat.reduceLeDiff, Nat.reduceLT, Nat.reduceMul, reduceCtorEq, Int.reduceBNe, Int.reduceBEq, Int.reduceLT, Int.reduceLE, Int.reduceGT, h3, ha, hb]
  · simp +contextual -implicitDefEqProofs (maxSteps := 2000000) only [↓wP, wQ, wQ1, wQ2, wQ3, wR, boxE, partsOf, ↓reduceIte, Nat.reduceEqDiff, Nat.reduceAdd, Nat.reduceSub, Nat.reduceLeDiff, Nat.reduceLT, Nat.reduceMul, reduceCtorEq, Int.reduceBNe, Int.reduceBEq, Int.reduceLT, Int.reduceLE, Int.reduceGT]
    exact ⟨fun h => absurd h (by decide), fun h => absurd h (by decide)⟩
theorem f73 (a b : Int) (fs : Bool) (σ : Sto) (n lk : Nat) : callE T fs 73 [.sl 1 [.int .i64 a, .int .i64 b]] σ n lk = some (.int .i64 (if a = 0 then b else a), σ, n) :=
  callE_tr (by decide) (r73 a b) (by simp [Tr, Tr_slV]) rfl fs σ n lk
theorem r78 (i d i' d' : Int) : res T 78 [.agg [.int .u64 i, .int .u64 d], .agg [.int .u64 i', .int .u64 d']] = some (.int .i64 (cmpH ⟨i, d⟩ ⟨i', d'⟩)) := by
  refine run_res (run_pure (fn := g78) rfl rfl (by decide) ?_)
  simp only [g78, b78, oO, oN, mV, lD, gO, pP, qQ, cI, aR]
  have h26 := r73 (cmpU d d') (cmpU i i')
  have hm26 : T.mode 73 ≠ .raw := by decide
  simp +contextual -implicitDefEqProofs (maxSteps := 2000000) only [↓wP, wQ, wQ1, wQ2, wQ3, wR, boxE, partsOf, ↓reduceIte, Nat.reduceEqDiff, Nat.reduceAdd, Nat.reduceSub, Nat.reduceLeDiff, Nat.reduceLT, Nat.reduceMul, reduceCtorEq, Int.reduceBNe, Int.reduceBEq, Int.reduceLT, Int.reduceLE, Int.reduceGT, f74, callE_eq hm26, frz_rf, h26]
  rfl
theorem f78 (i d i' d' : Int) (fs : Bool) (σ : Sto) (n lk : Nat) : callE T fs 78 [.agg [.int .u64 i, .int .u64 d], .agg [.int .u64 i', .int .u64 d']] σ n lk = some (.int .i64 (cmpH ⟨i, d⟩ ⟨i', d'⟩), σ, n) :=
  callE_tr (by decide) (r78 i d i' d') (by simp [Tr, Tr_slV]) rfl fs σ n lk
end Go.Q.SZ
end

section
/- The pivot of a sort. -/
set_option linter.unusedSimpArgs false
set_option linter.unusedVariables false
namespace Go.Q.SZ
open Go.Q
def rw' (d : Array Hit) : List V := d.toList.map hitV
theorem rw_len (d : Array Hit) : (rw' d).length = d.size := by simp [rw']
theorem rw_at {d : Array Hit} {i : Nat} (h : i < d.size) : (rw' d)[i]? = some (.agg [.int .u64 (d[i]!).id, .int .u64 (d[i]!).d]) := by
  unfold rw'
  rw [List.getElem?_map, List.getElem?_eq_getElem (by simpa using h), Option.map_some]
  simp [hitV, h]
theorem wrap_nat {m : Nat} (h : m < 9223372036854775808) : IntKind.i64.wrap (m : Int) = (m : Int) := by rw [wrap_i64] <;> omega
theorem bin_quo4 (m : Nat) (h : m < 9223372036854775808) : binV .quo (.int .i64 (m : Int)) (.int .i64 4) = some (.int .i64 ((m / 4 : Nat) : Int)) := by
  rw [bin_quo .i64 (m : Int) 4 (by decide)]
  have e : (m : Int).tdiv 4 = ((m / 4 : Nat) : Int) := rfl
  rw [e, wrap_nat (by omega)]
theorem raw142 (d : Array Hit) (a b : Nat) (s : Int) (sid n : Nat) (σ : Sto) (ha : a < d.size) (hb : b < d.size) (hs : σ sid = some (.row 1 [.int .i64 s])) {Q : V → Sto → Nat → Prop}
    (hQ : ∀ (x y : Nat) (s' : Int) (σ' : Sto), (x = a ∨ x = b) → (y = a ∨ y = b) → σ' sid = some (.row 1 [.int .i64 s']) → (∀ i, i ≠ sid → σ' i = σ i) → Q (.tup [.int .i64 (x : Int), .int .i64 (y : Int)]) σ' n) :
    run T (.raw 142 [.sl 2 (rw' d), .int .i64 (a : Int), .int .i64 (b : Int), .ptr sid 1 0 0, .fn 78 []] σ n 0) (memQ Q) := by
  refine run_rawE (fn := g142) rfl rfl ?_
  simp only [g142, b142, oO, oN, mV, lD, gO, pP, qQ, cI, aR]
  have hxa := rw_at ha
  have hxb := rw_at hb
  by_cases hc : cmpH d[b]! d[a]! < 0
  · simp +contextual -implicitDefEqProofs (maxSteps := 2000000) only [↓wP, wQ, wQ1, wQ2, wQ3, wR, boxE, partsOf, ↓reduceIte, Nat.reduceEqDiff, Nat.reduceAdd, Nat.reduceSub, Nat.reduceLeDiff, Nat.reduceLT, Nat.reduceMul, reduceCtorEq, Int.reduceBNe, Int.reduceBEq, Int.reduceLT, Int.reduceLE, Int.reduceGT, hxa, hxb, f78, hc, hs]
    exact hQ b a _ _ (.inr rfl) (.inl rfl) (by simp [upd]; rfl) (fun i hi => by simp [upd, hi])
  · simp +contextual -implicitDefEqProofs (maxSteps := 2000000) only [↓wP, wQ, wQ1, wQ2, wQ3, wR, boxE, partsOf, ↓reduceIte, Nat.reduceEqDiff, Nat.reduceAdd, Nat.reduceSub, Nat.reduceLeDiff, Nat.reduceLT, Nat.reduceMul, reduceCtorEq, Int.reduceBNe, Int.reduceBEq, Int.reduceLT, Int.reduceLE, Int.reduceGT, hxa, hxb, f78, hc, hs]
    exact hQ a b _ _ (.inl rfl) (.inr rfl) hs (fun i hi => rfl)
theorem raw135 (d : Array Hit) (a b c : Nat) (s : Int) (sid n : Nat) (σ : Sto) (ha : a < d.size) (hb : b < d.size) (hc : c < d.size) (hs : σ sid = some (.row 1 [.int .i64 s])) {Q : V → Sto → Nat → Prop}
    (hQ : ∀ (x : Nat) (s' : Int) (σ' : Sto), (x = a ∨ x = b ∨ x = c) → σ' sid = some (.row 1 [.int .i64 s']) → (∀ i, i ≠ sid → σ' i = σ i) → Q (.int .i64 (x : Int)) σ' n) :
    run T (.raw 135 [.sl 2 (rw' d), .int .i64 (a : Int), .int .i64 (b : Int), .int .i64 (c : Int), .ptr sid 1 0 0, .fn 78 []] σ n 0) (memQ Q) := by
  refine run_rawE (fn := g135) rfl rfl ?_
  simp only [g135, b135, oO, oN, mV, lD, gO, pP, qQ, cI, aR]
  simp +contextual -implicitDefEqProofs (maxSteps := 2000000) only [↓wP, wQ, wQ1, wQ2, wQ3, wR, boxE, partsOf, ↓reduceIte, Nat.reduceEqDiff, Nat.reduceAdd, Nat.reduceSub, Nat.reduceLeDiff, Nat.reduceLT, Nat.reduceMul, reduceCtorEq, Int.reduceBNe, Int.reduceBEq, Int.reduceLT, Int.reduceLE, Int.reduceGT]
  refine stepW_raw (by decide) (raw142 d a b s sid n σ ha hb hs fun x y s1 σ1 hx hy h1 h2 => ?_)
  simp +contextual -implicitDefEqProofs (maxSteps := 2000000) only [↓wP, wQ, wQ1, wQ2, wQ3, wR, boxE, partsOf, ↓reduceIte, Nat.reduceEqDiff, Nat.reduceAdd, Nat.reduceSub, Nat.reduceLeDiff, Nat.reduceLT, Nat.reduceMul, reduceCtorEq, Int.reduceBNe, Int.reduceBEq, Int.reduceLT, Int.reduceLE, Int.reduceGT]
  have hy' : y < d.size := by rcases hy with rfl | rfl <;> assumption
  have hx' : x < d.size := by rcases hx with rfl | rfl <;> assumption
  refine stepW_raw (by decide) (raw142 d y c s1 sid n σ1 hy' hc h1 fun x2 y2 s2 σ2 hx2 hy2 h3 h4 => ?_)
  simp +contextual -implicitDefEqProofs (maxSteps := 2000000) only [↓wP, wQ, wQ1, wQ2, wQ3, wR, boxE, partsOf, ↓reduceIte, Nat.reduceEqDiff, Nat.reduceAdd, Nat.reduceSub, Nat.reduceLeDiff, Nat.reduceLT, Nat.reduceMul, reduceCtorEq, Int.reduceBNe, Int.reduceBEq, Int.reduceLT, Int.reduceLE, Int.reduceGT]
  have hx2' : x2 < d.size := by rcases hx2 with rfl | rfl <;> assumption
  refine stepW_raw (by decide) (raw142 d x x2 s2 sid n σ2 hx' hx2' h3 fun x3 y3 s3 σ3 hx3 hy3 h5 h6 => ?_)
  simp +contextual -implicitDefEqProofs (maxSteps := 2000000) only [↓wP, wQ, wQ1, wQ2, wQ3, wR, boxE, partsOf, ↓reduceIte, Nat.reduceEqDiff, Nat.reduceAdd, Nat.reduceSub, Nat.reduceLeDiff, Nat.reduceLT, Nat.reduceMul, reduceCtorEq, Int.reduceBNe, Int.reduceBEq, Int.reduceLT, Int.reduceLE, Int.reduceGT]
  refine hQ y3 s3 σ3 ?_ h5 (fun i hi => by rw [h6 i hi, h4 i hi, h2 i hi])
  rcases hy3 with rfl | rfl
  · rcases hx with rfl | rfl <;> simp
  · rcases hx2 with rfl | rfl
    · rcases hy with rfl | rfl <;> simp
    · simp
theorem r121 (d : Array Hit) (a b : Nat) (hab : a < b) (hb : b ≤ d.size) (h50 : b - a < 50) (hn : d.size < 1000000) :
    ∃ (p : Nat) (h : Int), a ≤ p ∧ p < b ∧ (h = 0 ∨ h = 1 ∨ h = 2) ∧ res T 121 [.sl 2 (rw' d), .int .i64 (a : Int), .int .i64 (b : Int), .fn 78 []] = some (.tup [.int .i64 (p : Int), .int .i64 h]) := by
  obtain ⟨r, hr, p, h, h1, h2, h3, rfl⟩ := res_pure (T := T) (f := 121) (args := [.sl 2 (rw' d), .int .i64 (a : Int), .int .i64 (b : Int), .fn 78 []])
      (R := fun r => ∃ (p : Nat) (h : Int), a ≤ p ∧ p < b ∧ (h = 0 ∨ h = 1 ∨ h = 2) ∧ r = .tup [.int .i64 (p : Int), .int .i64 h]) (fn := g121) rfl rfl (by decide) (by
    simp only [g121, b121, oO, oN, mV, lD, gO, pP, qQ, cI, aR]
    have w1 : IntKind.i64.wrap ((b : Int) - (a : Int)) = ((b - a : Nat) : Int) := by rw [wrap_i64] <;> omega
    have q4 := bin_quo4 (b - a) (by omega)
    have w2 : IntKind.i64.wrap ((((b - a) / 4 : Nat) : Int) * 1) = (((b - a) / 4 : Nat) : Int) := by rw [wrap_i64] <;> omega
    have w3 : IntKind.i64.wrap ((((b - a) / 4 : Nat) : Int) * 2) = (((b - a) / 4 * 2 : Nat) : Int) := by rw [wrap_i64] <;> omega
    have w4 : IntKind.i64.wrap ((((b - a) / 4 : Nat) : Int) * 3) = (((b - a) / 4 * 3 : Nat) : Int) := by rw [wrap_i64] <;> omega
    have w5 : IntKind.i64.wrap ((a : Int) + (((b - a) / 4 : Nat) : Int)) = ((a + (b - a) / 4 : Nat) : Int) := by rw [wrap_i64] <;> omega
    have w6 : IntKind.i64.wrap ((a : Int) + (((b - a) / 4 * 2 : Nat) : Int)) = ((a + (b - a) / 4 * 2 : Nat) : Int) := by rw [wrap_i64] <;> omega
    have w7 : IntKind.i64.wrap ((a : Int) + (((b - a) / 4 * 3 : Nat) : Int)) = ((a + (b - a) / 4 * 3 : Nat) : Int) := by rw [wrap_i64] <;> omega
    have c50 : ¬ (50 : Int) ≤ ((b - a : Nat) : Int) := by omega
    have fin : ∀ (p : Nat) (s' : Int), a ≤ p → p < b → True := fun _ _ _ _ => trivial
    by_cases c8 : (8 : Int) ≤ ((b - a : Nat) : Int)
    · simp +contextual -implicitDefEqProofs (maxSteps := 2000000) only [↓wP, wQ, wQ1, wQ2, wQ3, wR, boxE, partsOf, ↓reduceIte, Nat.reduceEqDiff, Nat.reduceAdd, Nat.reduceSub, Nat.reduceLeDiff, Nat.reduceLT, Nat.reduceMul, reduceCtorEq, Int.reduceBNe, Int.reduceBEq, Int.reduceLT, Int.reduceLE, Int.reduceGT, w1, q4, w2, w3, w4, w5, w6, w7, c8, c50]
      refine stepW_raw (by decide) (raw135 d _ _ _ 0 0 1 _ (by omega) (by omega) (by omega) (by simp [upd]) fun x s' σ' hx h1 h2 => ?_)
      have hx' : a ≤ x ∧ x < b := by omega
      by_cases e0 : s' = 0
      · simp +contextual -implicitDefEqProofs (maxSteps := 2000000) only [↓wP, wQ, wQ1, wQ2, wQ3, wR, boxE, partsOf, ↓reduceIte, Nat.reduceEqDiff, Nat.reduceAdd, Nat.reduceSub, Nat.reduceLeDiff, Nat.reduceLT, Nat.reduceMul, reduceCtorEq, Int.reduceBNe, Int.reduceBEq, Int.reduceLT, Int.reduceLE, Int.reduceGT, h1, e0]
        exact ⟨x, 1, hx'.1, hx'.2, by simp, rfl⟩
      · have d0 : (s' == 0) = false := by simpa using e0
        by_cases e12 : s' = 12
        · simp +contextual -implicitDefEqProofs (maxSteps := 2000000) only [↓wP, wQ, wQ1, wQ2, wQ3, wR, boxE, partsOf, ↓reduceIte, Nat.reduceEqDiff, Nat.reduceAdd, Nat.reduceSub, Nat.reduceLeDiff, Nat.reduceLT, Nat.reduceMul, reduceCtorEq, Int.reduceBNe, Int.reduceBEq, Int.reduceLT, Int.reduceLE, Int.reduceGT, h1, e12]
          exact ⟨x, 2, hx'.1, hx'.2, by simp, rfl⟩
        · have d12 : (s' == 12) = false := by simpa using e12
          simp +contextual -implicitDefEqProofs (maxSteps := 2000000) only [↓wP, wQ, wQ1, wQ2, wQ3, wR, boxE, partsOf, ↓reduceIte, Nat.reduceEqDiff, Nat.reduceAdd, Nat.reduceSub, Nat.reduceLeDiff, Nat.reduceLT, Nat.reduceMul, reduceCtorEq, Int.reduceBNe, Int.reduceBEq, Int.reduceLT, Int.reduceLE, Int.reduceGT, h1, d0, d12]
          exact ⟨x, 0, hx'.1, hx'.2, by simp, rfl⟩
    · simp +contextual -implicitDefEqProofs (maxSteps := 2000000) only [↓wP, wQ, wQ1, wQ2, wQ3, wR, boxE, partsOf, ↓reduceIte, Nat.reduceEqDiff, Nat.reduceAdd, Nat.reduceSub, Nat.reduceLeDiff, Nat.reduceLT, Nat.reduceMul, reduceCtorEq, Int.reduceBNe, Int.reduceBEq, Int.reduceLT, Int.reduceLE, Int.reduceGT, w1, q4, w2, w3, w4, w5, w6, w7, c8, c50]
      exact ⟨a + (b - a) / 4 * 2, 1, by omega, by omega, by simp, rfl⟩)
  exact ⟨p, h, h1, h2, h3, hr⟩
end Go.Q.SZ
end

section
/- Small sorts, a part turned round, patterns broken. -/
set_option linter.unusedSimpArgs false
set_option linter.unusedVariables false
namespace Go.Q.SZ
open Go.Q Go.Sort
def At (σ σ0 : Sto) (id : Nat) (d : Array Hit) : Prop := σ id = some (.row 2 (rw' d)) ∧ ∀ i, i ≠ id → σ i = σ0 i
theorem rw_set {d : Array Hit} {i : Nat} {x : Hit} : (rw' d).set i (.agg [.int .u64 x.id, .int .u64 x.d]) = rw' (d.setIfInBounds i x) := by
  unfold rw'
  rw [Array.toList_setIfInBounds, List.map_set]
  rfl
theorem rw_set_at {d : Array Hit} {i j : Nat} {x : Hit} (hj : j < d.size) : ∃ u w : Int, ((rw' d).set i (.agg [.int .u64 x.id, .int .u64 x.d]))[j]? = some (.agg [.int .u64 u, .int .u64 w]) := by
  rw [rw_set, rw_at (by simpa using hj)]
  exact ⟨_, _, rfl⟩
theorem rw_swp (d : Array Hit) (i j : Nat) : ((rw' d).set i (.agg [.int .u64 (d[j]!).id, .int .u64 (d[j]!).d])).set j (.agg [.int .u64 (d[i]!).id, .int .u64 (d[i]!).d]) = rw' (swp d i j) := by
  rw [rw_set, rw_set]
  rfl
theorem At.swp {σ σ0 : Sto} {id : Nat} {d : Array Hit} (h : At σ σ0 id d) (i j : Nat) :
    At (upd (upd σ id (some (.row 2 ((rw' d).set i (.agg [.int .u64 (d[j]!).id, .int .u64 (d[j]!).d]))))) id
      (some (.row 2 (((rw' d).set i (.agg [.int .u64 (d[j]!).id, .int .u64 (d[j]!).d])).set j (.agg [.int .u64 (d[i]!).id, .int .u64 (d[i]!).d]))))) σ0 id (swp d i j) := by
  refine ⟨?_, fun k hk => ?_⟩
  · simp only [upd, if_true, rw_swp]
  · simp only [upd, hk, if_false, h.2 k hk]
theorem At.refl {σ : Sto} {id : Nat} {d : Array Hit} (h : σ id = some (.row 2 (rw' d))) : At σ σ id d := ⟨h, fun _ _ => rfl⟩
theorem insIn_lt {lt : Hit → Hit → Bool} {a j : Nat} {d : Array Hit} (h : a < j + 1) (hl : lt d[j + 1]! d[j]! = true) : insInner lt a (j + 1) d = insInner lt a j (Go.Sort.swp d (j + 1) j) := by
  rw [insInner]; simp [h, hl]
theorem insIn_stop {lt : Hit → Hit → Bool} {a j : Nat} {d : Array Hit} (h : j ≤ a ∨ (0 < j ∧ lt d[j]! d[j - 1]! = false)) : insInner lt a j d = d := by
  cases j with
  | zero => rfl
  | succ j =>
    rw [insInner]
    rcases h with h | h
    · have : ¬ a < j + 1 := by omega
      simp [this]
    · simp only [Nat.add_sub_cancel] at h
      simp [h.2]
theorem raw118 (d : Array Hit) (a b id n : Nat) (σ : Sto) (hab : a ≤ b) (hb : b ≤ d.size) (hn : d.size < 1000000) (hσ : σ id = some (.row 2 (rw' d))) {Q : V → Sto → Nat → Prop}
    (hQ : ∀ σ', At σ' σ id (insertionSort ahead d a b) → Q .undef σ' n) :
    run T (.raw 118 [.ref id 0 d.size 2, .int .i64 (a : Int), .int .i64 (b : Int), .fn 78 []] σ n 0) (memQ Q) := by
  refine run_rawE (fn := g118) rfl rfl ?_
  simp only [g118, b118, oO, oN, mV, lD, gO, pP, qQ, cI, aR]
  have w1 : IntKind.i64.wrap ((a : Int) + 1) = ((a + 1 : Nat) : Int) := by rw [wrap_i64] <;> omega
  generalize hsz : d.size = N at *
  simp +contextual -implicitDefEqProofs (maxSteps := 2000000) only [↓wP, wQ, wQ1, wQ2, wQ3, wR, boxE, partsOf, ↓reduceIte, Nat.reduceEqDiff, Nat.reduceAdd, Nat.reduceSub, Nat.reduceLeDiff, Nat.reduceLT, Nat.reduceMul, reduceCtorEq, Int.reduceBNe, Int.reduceBEq, Int.reduceLT, Int.reduceLE, Int.reduceGT, w1]
  refine WC_loopI 0 (fun (s : Nat × Array Hit) env σ' n' => n' = n ∧ env 0 = .ref id 0 N 2 ∧ env 1 = .int .i64 (a : Int) ∧ env 2 = .int .i64 (b : Int) ∧ env 3 = .fn 78 [] ∧ env 8 = .int .i64 (s.1 : Int) ∧
      a < s.1 ∧ (s.1 ≤ b ∨ s.1 = a + 1) ∧ s.2.size = N ∧ At σ' σ id s.2 ∧ insOuter ahead a b s.1 s.2 = insertionSort ahead d a b) (fun s => b + 1 - s.1) ?_ (a + 1, d) _ _ _ ?_
  · intro ⟨i, e⟩ env σ1 n1 ⟨h1, h2, h3, h4, h5, h6, h7, h8, h9, h10, h11⟩
    subst h1
    simp only at h6 h7 h8 h9 h10 h11
    by_cases hlt : i < b
    · have w2 : IntKind.i64.wrap ((i : Int) + 1) = ((i + 1 : Nat) : Int) := by rw [wrap_i64] <;> omega
      have hlt' : (i : Int) < (b : Int) := by omega
      rw [insOuter, if_pos hlt] at h11
      simp +contextual -implicitDefEqProofs (maxSteps := 2000000) only [↓wP, wQ, wQ1, wQ2, wQ3, wR, boxE, partsOf, ↓reduceIte, Nat.reduceEqDiff, Nat.reduceAdd, Nat.reduceSub, Nat.reduceLeDiff, Nat.reduceLT, Nat.reduceMul, reduceCtorEq, Int.reduceBNe, Int.reduceBEq, Int.reduceLT, Int.reduceLE, Int.reduceGT, h2, h3, h4, h5, h6, hlt']
      refine WC_loopI 0 (fun (s : Nat × Array Hit) env σ' n' => n' = n1 ∧ env 0 = .ref id 0 N 2 ∧ env 1 = .int .i64 (a : Int) ∧ env 2 = .int .i64 (b : Int) ∧ env 3 = .fn 78 [] ∧ env 8 = .int .i64 (i : Int) ∧ env 9 = .int .i64 (s.1 : Int) ∧
          s.1 ≤ i ∧ s.2.size = N ∧ At σ' σ id s.2 ∧ insInner ahead a s.1 s.2 = insInner ahead a i e) (fun s => s.1) ?_ (i, e) _ _ _ ?_
      · clear h2 h3 h4 h5 h6 h10
        intro ⟨j, g⟩ env σ2 n2 ⟨k1, k2, k3, k4, k5, k6, k7, k8, k9, k10, k11⟩
        subst k1
        simp only at k7 k8 k9 k10 k11
        have hat := k10.1
        by_cases hja : a < j
        · obtain ⟨j, rfl⟩ : ∃ j', j = j' + 1 := ⟨j - 1, by omega⟩
          have hja' : (a : Int) < ((j + 1 : Nat) : Int) := by omega
          have w3 : IntKind.i64.wrap (((j + 1 : Nat) : Int) - 1) = (j : Int) := by rw [wrap_i64] <;> omega
          have x1 := rw_at (d := g) (i := j + 1) (by omega)
          have x2 := rw_at (d := g) (i := j) (by omega)
          have l1 : j + 1 < N := by omega
          have l2 : j < N := by omega
          by_cases hc : cmpH g[j + 1]! g[j]! < 0
          · have hah : ahead g[j + 1]! g[j]! = true := by rw [← cmp_lt]; simpa using hc
            obtain ⟨u, v, x3⟩ := rw_set_at (d := g) (i := j + 1) (j := j) (x := g[j]!) (by omega)
            simp +contextual -implicitDefEqProofs (maxSteps := 2000000) only [↓wP, wQ, wQ1, wQ2, wQ3, wR, boxE, partsOf, ↓reduceIte, Nat.reduceEqDiff, Nat.reduceAdd, Nat.reduceSub, Nat.reduceLeDiff, Nat.reduceLT, Nat.reduceMul, reduceCtorEq, Int.reduceBNe, Int.reduceBEq, Int.reduceLT, Int.reduceLE, Int.reduceGT, k2, k3, k4, k5, k6, k7, hja', w3, hat, l1, l2, x1, x2, x3, f78, hc]
            refine ⟨(j, swp g (j + 1) j), by dsimp only; omega, rfl, by dsimp only; omega, by rw [swp_size, k9], k10.swp _ _, ?_⟩
            dsimp only
            rw [← insIn_lt hja hah]
            exact k11
          · have hah : ahead g[j + 1]! g[j]! = false := by rw [← cmp_lt]; simpa using hc
            simp +contextual -implicitDefEqProofs (maxSteps := 2000000) only [↓wP, wQ, wQ1, wQ2, wQ3, wR, boxE, partsOf, ↓reduceIte, Nat.reduceEqDiff, Nat.reduceAdd, Nat.reduceSub, Nat.reduceLeDiff, Nat.reduceLT, Nat.reduceMul, reduceCtorEq, Int.reduceBNe, Int.reduceBEq, Int.reduceLT, Int.reduceLE, Int.reduceGT, k2, k3, k4, k5, k6, k7, hja', w3, hat, l1, l2, x1, x2, f78, hc, w2]
            refine ⟨(i + 1, g), by dsimp only; omega, rfl, by dsimp only; omega, by dsimp only; omega, k9, k10, ?_⟩
            dsimp only
            rw [insIn_stop (.inr ⟨by omega, hah⟩)] at k11
            rw [k11]
            exact h11
        · have hja' : ¬ (a : Int) < (j : Int) := by omega
          simp +contextual -implicitDefEqProofs (maxSteps := 2000000) only [↓wP, wQ, wQ1, wQ2, wQ3, wR, boxE, partsOf, ↓reduceIte, Nat.reduceEqDiff, Nat.reduceAdd, Nat.reduceSub, Nat.reduceLeDiff, Nat.reduceLT, Nat.reduceMul, reduceCtorEq, Int.reduceBNe, Int.reduceBEq, Int.reduceLT, Int.reduceLE, Int.reduceGT, k2, k3, k4, k5, k6, k7, hja', w2]
          refine ⟨(i + 1, g), by dsimp only; omega, rfl, by dsimp only; omega, by dsimp only; omega, k9, k10, ?_⟩
          dsimp only
          rw [insIn_stop (.inl (by omega))] at k11
          rw [k11]
          exact h11
      · simp +contextual -implicitDefEqProofs (maxSteps := 2000000) only [↓wP, wQ, wQ1, wQ2, wQ3, wR, boxE, partsOf, ↓reduceIte, Nat.reduceEqDiff, Nat.reduceAdd, Nat.reduceSub, Nat.reduceLeDiff, Nat.reduceLT, Nat.reduceMul, reduceCtorEq, Int.reduceBNe, Int.reduceBEq, Int.reduceLT, Int.reduceLE, Int.reduceGT, h2, h3, h4, h5, h6]
        exact ⟨h9, h10⟩
    · have hlt' : ¬ (i : Int) < (b : Int) := by omega
      rw [insOuter, if_neg hlt] at h11
      simp +contextual -implicitDefEqProofs (maxSteps := 2000000) only [↓wP, wQ, wQ1, wQ2, wQ3, wR, boxE, partsOf, ↓reduceIte, Nat.reduceEqDiff, Nat.reduceAdd, Nat.reduceSub, Nat.reduceLeDiff, Nat.reduceLT, Nat.reduceMul, reduceCtorEq, Int.reduceBNe, Int.reduceBEq, Int.reduceLT, Int.reduceLE, Int.reduceGT, h2, h3, h4, h5, h6, hlt']
      refine hQ _ ?_
      rw [← h11]
      exact h10
  · simp +contextual -implicitDefEqProofs (maxSteps := 2000000) only [↓wP, wQ, wQ1, wQ2, wQ3, wR, boxE, partsOf, ↓reduceIte, Nat.reduceEqDiff, Nat.reduceAdd, Nat.reduceSub, Nat.reduceLeDiff, Nat.reduceLT, Nat.reduceMul, reduceCtorEq, Int.reduceBNe, Int.reduceBEq, Int.reduceLT, Int.reduceLE, Int.reduceGT]
    exact ⟨by omega, .inr trivial, hsz, At.refl hσ, rfl⟩
theorem raw122 (d : Array Hit) (a b id n : Nat) (σ : Sto) (hab : a < b) (hb : b ≤ d.size) (hn : d.size < 1000000) (hσ : σ id = some (.row 2 (rw' d))) {Q : V → Sto → Nat → Prop}
    (hQ : ∀ σ' d', At σ' σ id d' → PermIn a b d d' → Q .undef σ' n) :
    run T (.raw 122 [.ref id 0 d.size 2, .int .i64 (a : Int), .int .i64 (b : Int), .fn 78 []] σ n 0) (memQ Q) := by
  refine run_rawE (fn := g122) rfl rfl ?_
  simp only [g122, b122, oO, oN, mV, lD, gO, pP, qQ, cI, aR]
  have w1 : IntKind.i64.wrap ((b : Int) - 1) = ((b - 1 : Nat) : Int) := by rw [wrap_i64] <;> omega
  have hp : ∀ d' : Array Hit, PermIn a b d d' → d'.size = d.size := fun d' h => h.1
  generalize hsz : d.size = N at *
  simp +contextual -implicitDefEqProofs (maxSteps := 2000000) only [↓wP, wQ, wQ1, wQ2, wQ3, wR, boxE, partsOf, ↓reduceIte, Nat.reduceEqDiff, Nat.reduceAdd, Nat.reduceSub, Nat.reduceLeDiff, Nat.reduceLT, Nat.reduceMul, reduceCtorEq, Int.reduceBNe, Int.reduceBEq, Int.reduceLT, Int.reduceLE, Int.reduceGT, w1]
  refine WC_loopI 0 (fun (s : (Nat × Nat) × Array Hit) env σ' n' => n' = n ∧ env 0 = .ref id 0 N 2 ∧ env 8 = .int .i64 (s.1.1 : Int) ∧ env 9 = .int .i64 (s.1.2 : Int) ∧
      a ≤ s.1.1 ∧ s.1.2 < b ∧ At σ' σ id s.2 ∧ PermIn a b d s.2) (fun s => s.1.2) ?_ ((a, b - 1), d) _ _ _ ?_
  · intro ⟨⟨i, j⟩, e⟩ env σ1 n1 ⟨h1, h2, h3, h4, h5, h6, h7, h8⟩
    subst h1
    simp only at h3 h4 h5 h6 h7 h8
    by_cases hlt : i < j
    · obtain ⟨j, rfl⟩ : ∃ j', j = j' + 1 := ⟨j - 1, by omega⟩
      have hlt' : (i : Int) < ((j + 1 : Nat) : Int) := by omega
      have w2 : IntKind.i64.wrap ((i : Int) + 1) = ((i + 1 : Nat) : Int) := by rw [wrap_i64] <;> omega
      have w3 : IntKind.i64.wrap (((j + 1 : Nat) : Int) - 1) = (j : Int) := by rw [wrap_i64] <;> omega
      have he := hp e h8
      have x1 := rw_at (d := e) (i := i) (by omega)
      have x2 := rw_at (d := e) (i := j + 1) (by omega)
      obtain ⟨u, v, x3⟩ := rw_set_at (d := e) (i := i) (j := j + 1) (x := e[j + 1]!) (by omega)
      have l1 : i < N := by omega
      have l2 : j + 1 < N := by omega
      have hat := h7.1
      simp +contextual -implicitDefEqProofs (maxSteps := 2000000) only [↓wP, wQ, wQ1, wQ2, wQ3, wR, boxE, partsOf, ↓reduceIte, Nat.reduceEqDiff, Nat.reduceAdd, Nat.reduceSub, Nat.reduceLeDiff, Nat.reduceLT, Nat.reduceMul, reduceCtorEq, Int.reduceBNe, Int.reduceBEq, Int.reduceLT, Int.reduceLE, Int.reduceGT, h2, h3, h4, hlt', w2, w3, x1, x2, x3, l1, l2, hat]
      refine ⟨((i + 1, j), swp e i (j + 1)), by dsimp only; omega, rfl, rfl, by dsimp only; omega, by dsimp only; omega, h7.swp _ _, ?_⟩
      exact permIn_trans _ _ _ _ _ h8 (swp_permIn e a b i (j + 1) h5 (by omega) (by omega) h6 (by omega))
    · have hlt' : ¬ (i : Int) < (j : Int) := by omega
      simp +contextual -implicitDefEqProofs (maxSteps := 2000000) only [↓wP, wQ, wQ1, wQ2, wQ3, wR, boxE, partsOf, ↓reduceIte, Nat.reduceEqDiff, Nat.reduceAdd, Nat.reduceSub, Nat.reduceLeDiff, Nat.reduceLT, Nat.reduceMul, reduceCtorEq, Int.reduceBNe, Int.reduceBEq, Int.reduceLT, Int.reduceLE, Int.reduceGT, h2, h3, h4, hlt']
      exact hQ _ _ h7 h8
  · simp +contextual -implicitDefEqProofs (maxSteps := 2000000) only [↓wP, wQ, wQ1, wQ2, wQ3, wR, boxE, partsOf, ↓reduceIte, Nat.reduceEqDiff, Nat.reduceAdd, Nat.reduceSub, Nat.reduceLeDiff, Nat.reduceLT, Nat.reduceMul, reduceCtorEq, Int.reduceBNe, Int.reduceBEq, Int.reduceLT, Int.reduceLE, Int.reduceGT]
    exact ⟨by omega, At.refl hσ, permIn_refl _ _ _⟩
theorem bin_shl (k : IntKind) (x : Int) (m : Nat) : ∃ y, binV .shl (.int k x) (.int .u64 (m : Int)) = some (.int k y) := by
  refine ⟨k.wrap (x * 2 ^ (min (m : Int).toNat k.bits)), ?_⟩
  have : ¬ ((m : Int) < 0) := by omega
  simp [binV, pureV, Go.binOp, Op.shift, this]
  rfl
theorem bin_shr (k : IntKind) (x : Int) (m : Nat) : ∃ y, binV .shr (.int k x) (.int .u64 (m : Int)) = some (.int k y) := by
  refine ⟨x.fdiv (2 ^ (min (m : Int).toNat k.bits)), ?_⟩
  have : ¬ ((m : Int) < 0) := by omega
  simp [binV, pureV, Go.binOp, Op.shift, this]
  rfl
theorem bin_and64 (x : Int) (m : Nat) (hm : m < 18446744073709551616) : ∃ y : Nat, y ≤ m ∧ binV .and (.int .u64 x) (.int .u64 (m : Int)) = some (.int .u64 (y : Int)) := by
  have hle : (BitVec.ofInt 64 x &&& BitVec.ofInt 64 (m : Int)).toNat ≤ m := by
    rw [BitVec.toNat_and]
    refine Nat.le_trans Nat.and_le_right ?_
    simp
    exact Nat.mod_le _ _
  refine ⟨(BitVec.ofInt 64 x &&& BitVec.ofInt 64 (m : Int)).toNat, hle, ?_⟩
  have hw : IntKind.u64.wrap ((BitVec.ofInt 64 x &&& BitVec.ofInt 64 (m : Int)).toNat : Int) = ((BitVec.ofInt 64 x &&& BitVec.ofInt 64 (m : Int)).toNat : Int) := by rw [wrap_u64] <;> omega
  have := bin_and .u64 x (m : Int)
  rw [this]
  congr 2
theorem raw133 (r : Int) (sid n : Nat) (σ : Sto) (hs : σ sid = some (.row 1 [.int .u64 r])) {Q : V → Sto → Nat → Prop}
    (hQ : ∀ (r' : Int) (σ' : Sto), σ' sid = some (.row 1 [.int .u64 r']) → (∀ i, i ≠ sid → σ' i = σ i) → Q (.int .u64 r') σ' n) :
    run T (.raw 133 [.ptr sid 1 0 0] σ n 0) (memQ Q) := by
  refine run_rawE (fn := g133) rfl rfl ?_
  simp only [g133, b133, oO, oN, mV, lD, gO, pP, qQ, cI, aR]
  obtain ⟨y1, e1⟩ := bin_shl .u64 r 13
  have x1 := bin_xor .u64 r y1
  generalize IntKind.u64.wrap ↑(BitVec.ofInt IntKind.u64.bits r ^^^ BitVec.ofInt IntKind.u64.bits y1).toNat = r1 at x1
  obtain ⟨y2, e2⟩ := bin_shr .u64 r1 7
  have x2 := bin_xor .u64 r1 y2
  generalize IntKind.u64.wrap ↑(BitVec.ofInt IntKind.u64.bits r1 ^^^ BitVec.ofInt IntKind.u64.bits y2).toNat = r2 at x2
  obtain ⟨y3, e3⟩ := bin_shl .u64 r2 17
  have x3 := bin_xor .u64 r2 y3
  generalize IntKind.u64.wrap ↑(BitVec.ofInt IntKind.u64.bits r2 ^^^ BitVec.ofInt IntKind.u64.bits y3).toNat = r3 at x3
  simp only [show ((13 : Nat) : Int) = 13 from rfl, show ((7 : Nat) : Int) = 7 from rfl, show ((17 : Nat) : Int) = 17 from rfl] at e1 e2 e3
  simp +contextual -implicitDefEqProofs (maxSteps := 2000000) only [↓wP, wQ, wQ1, wQ2, wQ3, wR, boxE, partsOf, ↓reduceIte, Nat.reduceEqDiff, Nat.reduceAdd, Nat.reduceSub, Nat.reduceLeDiff, Nat.reduceLT, Nat.reduceMul, reduceCtorEq, Int.reduceBNe, Int.reduceBEq, Int.reduceLT, Int.reduceLE, Int.reduceGT, hs, e1, x1, e2, x2, e3, x3]
  exact hQ _ _ (by simp [upd]) (fun i hi => by simp [upd, hi])
def chk132 (m : Nat) : Bool := match exJob T 60 (.pure 132 [.int .i64 (m : Int)]) with
  | some (.val (.int .u64 M)) => decide (0 < M ∧ M ≤ 2 * (m : Int))
  | _ => false
theorem all132 : (List.range 60).all (fun m => decide (m < 8) || chk132 m) = true := by decide +kernel
theorem r132 (m : Nat) (h8 : 8 ≤ m) (h60 : m < 60) : ∃ M : Nat, 0 < M ∧ M ≤ 2 * m ∧ res T 132 [.int .i64 (m : Int)] = some (.int .u64 (M : Int)) := by
  have h := List.all_eq_true.1 all132 m (List.mem_range.2 h60)
  have h8' : ¬ m < 8 := by omega
  simp only [h8', decide_false, Bool.false_or] at h
  unfold chk132 at h
  split at h
  · rename_i M hM
    simp only [decide_eq_true_eq] at h
    refine ⟨M.toNat, by omega, by omega, ?_⟩
    rw [show ((M.toNat : Nat) : Int) = M by omega]
    exact run_res (exJob_sound 60 _ _ hM)
  · cases h
theorem raw120 (d : Array Hit) (a b id n : Nat) (σ : Sto) (h8 : 8 ≤ b - a) (h60 : b - a < 60) (hb : b ≤ d.size) (hn : d.size < 1000000) (hid : id < n) (hσ : σ id = some (.row 2 (rw' d))) {Q : V → Sto → Nat → Prop}
    (hQ : ∀ σ' d' n', n ≤ n' → σ' id = some (.row 2 (rw' d')) → (∀ i, i ≠ id → i < n → σ' i = σ i) → PermIn a b d d' → Q .undef σ' n') :
    run T (.raw 120 [.ref id 0 d.size 2, .int .i64 (a : Int), .int .i64 (b : Int), .fn 78 []] σ n 0) (memQ Q) := by
  refine run_rawE (fn := g120) rfl rfl ?_
  simp only [g120, b120, oO, oN, mV, lD, gO, pP, qQ, cI, aR]
  have hp : ∀ d' : Array Hit, PermIn a b d d' → d'.size = d.size := fun d' h => h.1
  obtain ⟨L, hL⟩ : ∃ L, L = b - a := ⟨_, rfl⟩
  have w1 : IntKind.i64.wrap ((b : Int) - (a : Int)) = (L : Int) := by rw [wrap_i64] <;> omega
  have c8 : (8 : Int) ≤ (L : Int) := by omega
  obtain ⟨M, hM1, hM2, hM⟩ := r132 L (by omega) (by omega)
  have f132 := callE_tr (fs := true) (by decide) hM (by simp [Tr]) rfl
  have q4 := bin_quo4 L (by omega)
  have wu : IntKind.u64.wrap (L : Int) = (L : Int) := by rw [wrap_u64] <;> omega
  have w2 : IntKind.i64.wrap (((L / 4 : Nat) : Int) * 2) = ((L / 4 * 2 : Nat) : Int) := by rw [wrap_i64] <;> omega
  obtain ⟨t, ht⟩ : ∃ t, t = a + L / 4 * 2 := ⟨_, rfl⟩
  have w3 : IntKind.i64.wrap ((a : Int) + ((L / 4 * 2 : Nat) : Int)) = (t : Int) := by rw [wrap_i64] <;> omega
  have w4 : IntKind.i64.wrap ((t : Int) - 1) = ((t - 1 : Nat) : Int) := by rw [wrap_i64] <;> omega
  have w5 : IntKind.i64.wrap ((t : Int) + 1) = ((t + 1 : Nat) : Int) := by rw [wrap_i64] <;> omega
  have wm : IntKind.u64.wrap ((M : Int) - 1) = ((M - 1 : Nat) : Int) := by rw [wrap_u64] <;> omega
  have hidn : (id = n) = False := by simp; omega
  generalize hsz : d.size = N at *
  simp +contextual -implicitDefEqProofs (maxSteps := 2000000) only [↓wP, wQ, wQ1, wQ2, wQ3, wR, boxE, partsOf, ↓reduceIte, Nat.reduceEqDiff, Nat.reduceAdd, Nat.reduceSub, Nat.reduceLeDiff, Nat.reduceLT, Nat.reduceMul, reduceCtorEq, Int.reduceBNe, Int.reduceBEq, Int.reduceLT, Int.reduceLE, Int.reduceGT, w1, c8, wu, f132, q4, w2, w3, w4, w5]
  refine WC_loopI 0 (fun (s : Nat × (Array Hit × Int)) env σ' n' => n' = n + 1 ∧ env 0 = .ref id 0 N 2 ∧ env 1 = .int .i64 (a : Int) ∧ env 8 = .int .i64 (L : Int) ∧ env 9 = .ptr n 1 0 0 ∧ env 10 = .int .u64 (M : Int) ∧ env 11 = .int .i64 (s.1 : Int) ∧
      a ≤ s.1 ∧ s.1 ≤ t + 2 ∧ σ' id = some (.row 2 (rw' s.2.1)) ∧ σ' n = some (.row 1 [.int .u64 s.2.2]) ∧ (∀ i, i ≠ id → i < n → σ' i = σ i) ∧ PermIn a b d s.2.1) (fun s => t + 3 - s.1) ?_ (t - 1, (d, (L : Int))) _ _ _ ?_
  · intro ⟨i, e, r⟩ env σ1 n1 ⟨h1, h2, h3, h4, h5, h6, h7, h8', h9, h10, h11, h12, h13⟩
    subst h1
    simp only at h7 h8' h9 h10 h11 h13
    have he := hp e h13
    by_cases hlt : i ≤ t + 1
    · have hlt' : (i : Int) ≤ ((t + 1 : Nat) : Int) := by omega
      have wi : IntKind.i64.wrap ((i : Int) + 1) = ((i + 1 : Nat) : Int) := by rw [wrap_i64] <;> omega
      simp +contextual -implicitDefEqProofs (maxSteps := 2000000) only [↓wP, wQ, wQ1, wQ2, wQ3, wR, boxE, partsOf, ↓reduceIte, Nat.reduceEqDiff, Nat.reduceAdd, Nat.reduceSub, Nat.reduceLeDiff, Nat.reduceLT, Nat.reduceMul, reduceCtorEq, Int.reduceBNe, Int.reduceBEq, Int.reduceLT, Int.reduceLE, Int.reduceGT, h2, h3, h4, h5, h6, h7, q4, w2, w3, w5, hlt']
      refine stepW_raw (by decide) (raw133 r n (n + 1) σ1 h11 fun r' σ2 g1 g2 => ?_)
      obtain ⟨y, hy, ey⟩ := bin_and64 r' (M - 1) (by omega)
      have hg : σ2 id = some (.row 2 (rw' e)) := by rw [g2 id (by omega), h10]
      have wy : IntKind.i64.wrap (y : Int) = (y : Int) := by rw [wrap_i64] <;> omega
      have x1 := rw_at (d := e) (i := i) (by omega)
      have l1 : i < N := by omega
      by_cases hge : L ≤ y
      · have hge' : (L : Int) ≤ (y : Int) := by omega
        have wd : IntKind.i64.wrap ((y : Int) - (L : Int)) = ((y - L : Nat) : Int) := by rw [wrap_i64] <;> omega
        have wa : IntKind.i64.wrap ((a : Int) + ((y - L : Nat) : Int)) = ((a + (y - L) : Nat) : Int) := by rw [wrap_i64] <;> omega
        have x2 := rw_at (d := e) (i := a + (y - L)) (by omega)
        have l2 : a + (y - L) < N := by omega
        obtain ⟨u, v, x3⟩ := rw_set_at (d := e) (i := i) (j := a + (y - L)) (x := e[a + (y - L)]!) (by omega)
        simp +contextual -implicitDefEqProofs (maxSteps := 2000000) only [↓wP, wQ, wQ1, wQ2, wQ3, wR, boxE, partsOf, ↓reduceIte, Nat.reduceEqDiff, Nat.reduceAdd, Nat.reduceSub, Nat.reduceLeDiff, Nat.reduceLT, Nat.reduceMul, reduceCtorEq, Int.reduceBNe, Int.reduceBEq, Int.reduceLT, Int.reduceLE, Int.reduceGT, h2, h3, h4, h5, h6, h7, wm, ey, wy, hge', wd, wa, hg, x1, x2, x3, l1, l2, wi, hidn]
        refine ⟨(i + 1, (swp e i (a + (y - L)), r')), by dsimp only; omega, rfl, by dsimp only; omega, by dsimp only; omega, ?_, ?_, ?_, ?_⟩
        · dsimp only; rw [rw_swp]
        · have a1 : n ≠ id := by omega
          simp only [a1, if_false]; exact g1
        · intro k hk hkn
          rw [g2 k (by omega), h12 k hk hkn]
        · exact permIn_trans _ _ _ _ _ h13 (swp_permIn e a b i (a + (y - L)) h8' (by omega) (by omega) (by omega) (by omega))
      · have hge' : ¬ (L : Int) ≤ (y : Int) := by omega
        have wa : IntKind.i64.wrap ((a : Int) + (y : Int)) = ((a + y : Nat) : Int) := by rw [wrap_i64] <;> omega
        have x2 := rw_at (d := e) (i := a + y) (by omega)
        have l2 : a + y < N := by omega
        obtain ⟨u, v, x3⟩ := rw_set_at (d := e) (i := i) (j := a + y) (x := e[a + y]!) (by omega)
        simp +contextual -implicitDefEqProofs (maxSteps := 2000000) only [↓wP, wQ, wQ1, wQ2, wQ3, wR, boxE, partsOf, ↓reduceIte, Nat.reduceEqDiff, Nat.reduceAdd, Nat.reduceSub, Nat.reduceLeDiff, Nat.reduceLT, Nat.reduceMul, reduceCtorEq, Int.reduceBNe, Int.reduceBEq, Int.reduceLT, Int.reduceLE, Int.reduceGT, h2, h3, h4, h5, h6, h7, wm, ey, wy, hge', wa, hg, x1, x2, x3, l1, l2, wi, hidn]
        refine ⟨(i + 1, (swp e i (a + y), r')), by dsimp only; omega, rfl, by dsimp only; omega, by dsimp only; omega, ?_, ?_, ?_, ?_⟩
        · dsimp only; rw [rw_swp]
        · have a1 : n ≠ id := by omega
          simp only [a1, if_false]; exact g1
        · intro k hk hkn
          rw [g2 k (by omega), h12 k hk hkn]
        · exact permIn_trans _ _ _ _ _ h13 (swp_permIn e a b i (a + y) h8' (by omega) (by omega) (by omega) (by omega))
    · have hlt' : ¬ (i : Int) ≤ ((t + 1 : Nat) : Int) := by omega
      simp +contextual -implicitDefEqProofs (maxSteps := 2000000) only [↓wP, wQ, wQ1, wQ2, wQ3, wR, boxE, partsOf, ↓reduceIte, Nat.reduceEqDiff, Nat.reduceAdd, Nat.reduceSub, Nat.reduceLeDiff, Nat.reduceLT, Nat.reduceMul, reduceCtorEq, Int.reduceBNe, Int.reduceBEq, Int.reduceLT, Int.reduceLE, Int.reduceGT, h2, h3, h4, h5, h6, h7, q4, w2, w3, w5, hlt']
      exact hQ _ e _ (by omega) h10 h12 h13
  · simp +contextual -implicitDefEqProofs (maxSteps := 2000000) only [↓wP, wQ, wQ1, wQ2, wQ3, wR, boxE, partsOf, ↓reduceIte, Nat.reduceEqDiff, Nat.reduceAdd, Nat.reduceSub, Nat.reduceLeDiff, Nat.reduceLT, Nat.reduceMul, reduceCtorEq, Int.reduceBNe, Int.reduceBEq, Int.reduceLT, Int.reduceLE, Int.reduceGT, hidn]
    refine ⟨by omega, by omega, hσ, fun i h1 h2 => ?_, permIn_refl _ _ _⟩
    have a1 : i ≠ n := by omega
    simp only [a1, if_false]
theorem raw123 (d : Array Hit) (a b id n : Nat) (σ : Sto) (hS : SWO ahead) (hab : a < b) (h50 : b - a < 50) (hb : b ≤ d.size) (hn : d.size < 1000000) (hσ : σ id = some (.row 2 (rw' d))) {Q : V → Sto → Nat → Prop}
    (hQ : ∀ r : Bool, (r = true → SortedIn ahead a b d) → Q (.bool r) σ n) :
    run T (.raw 123 [.ref id 0 d.size 2, .int .i64 (a : Int), .int .i64 (b : Int), .fn 78 []] σ n 0) (memQ Q) := by
  refine run_rawE (fn := g123) rfl rfl ?_
  simp only [g123, b123, oO, oN, mV, lD, gO, pP, qQ, cI, aR]
  have w1 : IntKind.i64.wrap ((a : Int) + 1) = ((a + 1 : Nat) : Int) := by rw [wrap_i64] <;> omega
  have w2 : IntKind.i64.wrap ((b : Int) - (a : Int)) = ((b - a : Nat) : Int) := by rw [wrap_i64] <;> omega
  have c50 : ((b - a : Nat) : Int) < 50 := by omega
  generalize hsz : d.size = N at *
  simp +contextual -implicitDefEqProofs (maxSteps := 2000000) only [↓wP, wQ, wQ1, wQ2, wQ3, wR, boxE, partsOf, ↓reduceIte, Nat.reduceEqDiff, Nat.reduceAdd, Nat.reduceSub, Nat.reduceLeDiff, Nat.reduceLT, Nat.reduceMul, reduceCtorEq, Int.reduceBNe, Int.reduceBEq, Int.reduceLT, Int.reduceLE, Int.reduceGT, w1]
  refine WC_loopI 0 (fun (s : Nat) env σ' n' => σ' = σ ∧ n' = n ∧ env 0 = .ref id 0 N 2 ∧ env 1 = .int .i64 (a : Int) ∧ env 2 = .int .i64 (b : Int) ∧ env 3 = .fn 78 [] ∧ env 9 = .int .i64 ((a + 1 : Nat) : Int) ∧ env 10 = .int .i64 0) (fun s => s) ?_ 0 _ _ _ ?_
  · intro _ env σ1 n1 ⟨h1, h2, h3, h4, h5, h6, h7, h8⟩
    subst h1 h2
    simp +contextual -implicitDefEqProofs (maxSteps := 2000000) only [↓wP, wQ, wQ1, wQ2, wQ3, wR, boxE, partsOf, ↓reduceIte, Nat.reduceEqDiff, Nat.reduceAdd, Nat.reduceSub, Nat.reduceLeDiff, Nat.reduceLT, Nat.reduceMul, reduceCtorEq, Int.reduceBNe, Int.reduceBEq, Int.reduceLT, Int.reduceLE, Int.reduceGT, h3, h4, h5, h6, h7, h8]
    refine WC_loopI 0 (fun (i : Nat) env σ' n' => σ' = σ1 ∧ n' = n1 ∧ env 0 = .ref id 0 N 2 ∧ env 1 = .int .i64 (a : Int) ∧ env 2 = .int .i64 (b : Int) ∧ env 3 = .fn 78 [] ∧ env 9 = .int .i64 (i : Int) ∧
        a < i ∧ i ≤ b ∧ SortedIn ahead a i d) (fun i => b - i) ?_ (a + 1) _ _ _ ?_
    · clear h3 h4 h5 h6 h7 h8
      intro i env σ2 n2 ⟨k1, k2, k3, k4, k5, k6, k7, k8, k9, k10⟩
      subst k1 k2
      by_cases hlt : i < b
      · have hlt' : (i : Int) < (b : Int) := by omega
        have w3 : IntKind.i64.wrap ((i : Int) - 1) = ((i - 1 : Nat) : Int) := by rw [wrap_i64] <;> omega
        have w4 : IntKind.i64.wrap ((i : Int) + 1) = ((i + 1 : Nat) : Int) := by rw [wrap_i64] <;> omega
        have x1 := rw_at (d := d) (i := i) (by omega)
        have x2 := rw_at (d := d) (i := i - 1) (by omega)
        have l1 : i < N := by omega
        have l2 : i - 1 < N := by omega
        by_cases hc : cmpH d[i]! d[i - 1]! < 0
        · have he : ((i : Int) == (b : Int)) = false := by simp; omega
          simp +contextual -implicitDefEqProofs (maxSteps := 2000000) only [↓wP, wQ, wQ1, wQ2, wQ3, wR, boxE, partsOf, ↓reduceIte, Nat.reduceEqDiff, Nat.reduceAdd, Nat.reduceSub, Nat.reduceLeDiff, Nat.reduceLT, Nat.reduceMul, reduceCtorEq, Int.reduceBNe, Int.reduceBEq, Int.reduceLT, Int.reduceLE, Int.reduceGT, k3, k4, k5, k6, k7, hlt', w2, w3, w4, x1, x2, l1, l2, hσ, f78, hc, he, c50]
          exact hQ false (fun h => by cases h)
        · have hah : ahead d[i]! d[i - 1]! = false := by rw [← cmp_lt]; simpa using hc
          simp +contextual -implicitDefEqProofs (maxSteps := 2000000) only [↓wP, wQ, wQ1, wQ2, wQ3, wR, boxE, partsOf, ↓reduceIte, Nat.reduceEqDiff, Nat.reduceAdd, Nat.reduceSub, Nat.reduceLeDiff, Nat.reduceLT, Nat.reduceMul, reduceCtorEq, Int.reduceBNe, Int.reduceBEq, Int.reduceLT, Int.reduceLE, Int.reduceGT, k3, k4, k5, k6, k7, hlt', w2, w3, w4, x1, x2, l1, l2, hσ, f78, hc]
          exact ⟨i + 1, by omega, rfl, by omega, by omega, k10.snoc hS hah⟩
      · have hlt' : ¬ (i : Int) < (b : Int) := by omega
        have he : ((i : Int) == (b : Int)) = true := by simp; omega
        simp +contextual -implicitDefEqProofs (maxSteps := 2000000) only [↓wP, wQ, wQ1, wQ2, wQ3, wR, boxE, partsOf, ↓reduceIte, Nat.reduceEqDiff, Nat.reduceAdd, Nat.reduceSub, Nat.reduceLeDiff, Nat.reduceLT, Nat.reduceMul, reduceCtorEq, Int.reduceBNe, Int.reduceBEq, Int.reduceLT, Int.reduceLE, Int.reduceGT, k3, k4, k5, k6, k7, hlt', he]
        have e : i = b := by omega
        exact hQ true (fun _ => e ▸ k10)
    · simp +contextual -implicitDefEqProofs (maxSteps := 2000000) only [↓wP, wQ, wQ1, wQ2, wQ3, wR, boxE, partsOf, ↓reduceIte, Nat.reduceEqDiff, Nat.reduceAdd, Nat.reduceSub, Nat.reduceLeDiff, Nat.reduceLT, Nat.reduceMul, reduceCtorEq, Int.reduceBNe, Int.reduceBEq, Int.reduceLT, Int.reduceLE, Int.reduceGT, h3, h4, h5, h6, h7]
      exact ⟨by omega, by omega, fun p q h1 h2 h3 => by omega⟩
  · simp +contextual -implicitDefEqProofs (maxSteps := 2000000) only [↓wP, wQ, wQ1, wQ2, wQ3, wR, boxE, partsOf, ↓reduceIte, Nat.reduceEqDiff, Nat.reduceAdd, Nat.reduceSub, Nat.reduceLeDiff, Nat.reduceLT, Nat.reduceMul, reduceCtorEq, Int.reduceBNe, Int.reduceBEq, Int.reduceLT, Int.reduceLE, Int.reduceGT]
end Go.Q.SZ
end

section
/- The partitions of a sort. -/
set_option linter.unusedSimpArgs false
set_option linter.unusedVariables false
namespace Go.Q.SZ
open Go.Q Go.Sort
theorem su_go {p : Hit → Bool} {d : Array Hit} {i j : Nat} (h : i ≤ j) (hp : p d[i]! = true) : scanUp p d j (i + 1) = scanUp p d j i := by
  conv => rhs; rw [scanUp]
  rw [if_pos (by simp [h, hp])]
theorem su_stop {p : Hit → Bool} {d : Array Hit} {i j : Nat} (h : ¬ i ≤ j ∨ p d[i]! = false) : scanUp p d j i = i := by
  rw [scanUp]
  rcases h with h | h <;> simp [h]
theorem sd_go {p : Hit → Bool} {d : Array Hit} {i j : Nat} (h : i ≤ j + 1) (hp : p d[j + 1]! = true) : scanDown p d i j = scanDown p d i (j + 1) := by
  conv => rhs; rw [scanDown]
  rw [if_pos (by simp [h, hp])]
theorem sd_stop {p : Hit → Bool} {d : Array Hit} {i j : Nat} (h : ¬ i ≤ j ∨ p d[j]! = false) : scanDown p d i j = j := by
  cases j with
  | zero => rfl
  | succ j =>
    rw [scanDown]
    rcases h with h | h
    · simp [h]
    · simp [h]
theorem raw124 (d : Array Hit) (a b p id n : Nat) (σ : Sto) (hap : a ≤ p) (hpb : p < b) (hb : b ≤ d.size) (hn : d.size < 1000000) (hσ : σ id = some (.row 2 (rw' d))) {Q : V → Sto → Nat → Prop}
    (hQ : ∀ σ', At σ' σ id (partitionEqual ahead d a b p).2 → Q (.int .i64 ((partitionEqual ahead d a b p).1 : Int)) σ' n) :
    run T (.raw 124 [.ref id 0 d.size 2, .int .i64 (a : Int), .int .i64 (b : Int), .int .i64 (p : Int), .fn 78 []] σ n 0) (memQ Q) := by
  refine run_rawE (fn := g124) rfl rfl ?_
  simp only [g124, b124, oO, oN, mV, lD, gO, pP, qQ, cI, aR]
  have w1 : IntKind.i64.wrap ((a : Int) + 1) = ((a + 1 : Nat) : Int) := by rw [wrap_i64] <;> omega
  have w2 : IntKind.i64.wrap ((b : Int) - 1) = ((b - 1 : Nat) : Int) := by rw [wrap_i64] <;> omega
  have y1 := rw_at (d := d) (i := a) (by omega)
  have y2 := rw_at (d := d) (i := p) (by omega)
  obtain ⟨u, v, y3⟩ := rw_set_at (d := d) (i := a) (j := p) (x := d[p]!) (by omega)
  have hat0 := (At.refl hσ).swp a p
  have hs0 : (swp d a p).size = d.size := swp_size _ _ _
  unfold partitionEqual at hQ
  generalize hsz : d.size = N at *
  have m1 : a < N := by omega
  have m2 : p < N := by omega
  simp +contextual -implicitDefEqProofs (maxSteps := 2000000) only [↓wP, wQ, wQ1, wQ2, wQ3, wR, boxE, partsOf, ↓reduceIte, Nat.reduceEqDiff, Nat.reduceAdd, Nat.reduceSub, Nat.reduceLeDiff, Nat.reduceLT, Nat.reduceMul, reduceCtorEq, Int.reduceBNe, Int.reduceBEq, Int.reduceLT, Int.reduceLE, Int.reduceGT, w1, w2, y1, y2, y3, m1, m2, hσ]
  generalize (upd (upd σ id (some (.row 2 ((rw' d).set a (.agg [.int .u64 (d[p]!).id, .int .u64 (d[p]!).d]))))) id
      (some (.row 2 (((rw' d).set a (.agg [.int .u64 (d[p]!).id, .int .u64 (d[p]!).d])).set p (.agg [.int .u64 (d[a]!).id, .int .u64 (d[a]!).d]))))) = σ0 at hat0
  generalize swp d a p = d0 at *
  refine WC_loopI 0 (fun (s : (Nat × Nat) × Array Hit) env σ' n' => n' = n ∧ env 0 = .ref id 0 N 2 ∧ env 1 = .int .i64 (a : Int) ∧ env 4 = .fn 78 [] ∧ env 11 = .int .i64 (s.1.1 : Int) ∧ env 12 = .int .i64 (s.1.2 : Int) ∧
      a < s.1.1 ∧ s.1.1 ≤ s.1.2 + 2 ∧ s.1.2 < b ∧ s.2.size = N ∧ At σ' σ id s.2 ∧ partEqLoop ahead a s.1.1 s.1.2 s.2 = partEqLoop ahead a (a + 1) (b - 1) d0) (fun s => s.1.2 + 1 - s.1.1) ?_ ((a + 1, b - 1), d0) _ _ _ ?_
  · intro ⟨⟨i, j⟩, e⟩ env σ1 n1 ⟨h1, h2, h3, h4, h5, h6, h7, h8, h9, h10, h11, h12⟩
    subst h1
    simp only at h5 h6 h7 h8 h9 h10 h11 h12
    have hat := h11.1
    have xa := rw_at (d := e) (i := a) (by omega)
    rw [partEqLoop_eq] at h12
    simp +contextual -implicitDefEqProofs (maxSteps := 2000000) only [↓wP, wQ, wQ1, wQ2, wQ3, wR, boxE, partsOf, ↓reduceIte, Nat.reduceEqDiff, Nat.reduceAdd, Nat.reduceSub, Nat.reduceLeDiff, Nat.reduceLT, Nat.reduceMul, reduceCtorEq, Int.reduceBNe, Int.reduceBEq, Int.reduceLT, Int.reduceLE, Int.reduceGT]
    refine WC_loopE 2 0 (fun (i' : Nat) env σ' n' => σ' = σ1 ∧ n' = n1 ∧ env 0 = .ref id 0 N 2 ∧ env 1 = .int .i64 (a : Int) ∧ env 4 = .fn 78 [] ∧ env 11 = .int .i64 (i' : Int) ∧ env 12 = .int .i64 (j : Int) ∧
        i ≤ i' ∧ i' ≤ j + 2 ∧ scanUp (fun x => !ahead e[a]! x) e j i' = scanUp (fun x => !ahead e[a]! x) e j i) (fun i' => j + 1 - i')
      (fun env σ' n' => σ' = σ1 ∧ n' = n1 ∧ env 0 = .ref id 0 N 2 ∧ env 1 = .int .i64 (a : Int) ∧ env 4 = .fn 78 [] ∧ env 11 = .int .i64 ((scanUp (fun x => !ahead e[a]! x) e j i : Nat) : Int) ∧ env 12 = .int .i64 (j : Int) ∧ scanUp (fun x => !ahead e[a]! x) e j i ≤ j + 2) ?_ ?_ i _ _ _ ?_
    · clear h2 h3 h4 h5 h6
      intro i' env σ2 n2 ⟨k1, k2, k3, k4, k5, k6, k7, k8, k9, k10⟩
      subst k1 k2
      by_cases hle : i' ≤ j
      · have hle' : (i' : Int) ≤ (j : Int) := by omega
        have wi : IntKind.i64.wrap ((i' : Int) + 1) = ((i' + 1 : Nat) : Int) := by rw [wrap_i64] <;> omega
        have x1 := rw_at (d := e) (i := i') (by omega)
        have l1 : i' < N := by omega
        by_cases hc : cmpH e[a]! e[i']! < 0
        · have hah : ahead e[a]! e[i']! = true := by rw [← cmp_lt]; simpa using hc
          have hst := su_stop (p := fun x => !ahead e[a]! x) (d := e) (i := i') (j := j) (.inr (by simp [hah]))
          rw [hst] at k10
          rw [← k10]
          simp +contextual -implicitDefEqProofs (maxSteps := 2000000) only [↓wP, wQ, wQ1, wQ2, wQ3, wR, boxE, partsOf, ↓reduceIte, Nat.reduceEqDiff, Nat.reduceAdd, Nat.reduceSub, Nat.reduceLeDiff, Nat.reduceLT, Nat.reduceMul, reduceCtorEq, Int.reduceBNe, Int.reduceBEq, Int.reduceLT, Int.reduceLE, Int.reduceGT, exQ_exit, k3, k4, k5, k6, k7, hle', hat, m1, l1, xa, x1, f78, hc]
          omega
        · have hah : ahead e[a]! e[i']! = false := by rw [← cmp_lt]; simpa using hc
          simp +contextual -implicitDefEqProofs (maxSteps := 2000000) only [↓wP, wQ, wQ1, wQ2, wQ3, wR, boxE, partsOf, ↓reduceIte, Nat.reduceEqDiff, Nat.reduceAdd, Nat.reduceSub, Nat.reduceLeDiff, Nat.reduceLT, Nat.reduceMul, reduceCtorEq, Int.reduceBNe, Int.reduceBEq, Int.reduceLT, Int.reduceLE, Int.reduceGT, exQ_exit, k3, k4, k5, k6, k7, hle', hat, m1, l1, xa, x1, f78, hc, wi]
          exact ⟨i' + 1, by omega, rfl, by omega, by omega, by rw [su_go hle (by simp [hah])]; exact k10⟩
      · have hle' : ¬ (i' : Int) ≤ (j : Int) := by omega
        have hst := su_stop (p := fun x => !ahead e[a]! x) (d := e) (i := i') (j := j) (.inl hle)
        rw [hst] at k10
        rw [← k10]
        simp +contextual -implicitDefEqProofs (maxSteps := 2000000) only [↓wP, wQ, wQ1, wQ2, wQ3, wR, boxE, partsOf, ↓reduceIte, Nat.reduceEqDiff, Nat.reduceAdd, Nat.reduceSub, Nat.reduceLeDiff, Nat.reduceLT, Nat.reduceMul, reduceCtorEq, Int.reduceBNe, Int.reduceBEq, Int.reduceLT, Int.reduceLE, Int.reduceGT, exQ_exit, k3, k4, k5, k6, k7, hle']
        omega
    · clear h2 h3 h4 h5 h6
      intro env σ2 n2 ⟨k1, k2, h2, h3, h4, h5, h6, k8⟩
      subst k1 k2
      have hge := scanUp_ge (fun x => !ahead e[a]! x) e j i
      generalize scanUp (fun x => !ahead e[a]! x) e j i = i2 at *
      simp +contextual -implicitDefEqProofs (maxSteps := 2000000) only [↓wP, wQ, wQ1, wQ2, wQ3, wR, boxE, partsOf, ↓reduceIte, Nat.reduceEqDiff, Nat.reduceAdd, Nat.reduceSub, Nat.reduceLeDiff, Nat.reduceLT, Nat.reduceMul, reduceCtorEq, Int.reduceBNe, Int.reduceBEq, Int.reduceLT, Int.reduceLE, Int.reduceGT]
      refine WC_loopE 4 0 (fun (j' : Nat) env σ' n' => σ' = σ2 ∧ n' = n2 ∧ env 0 = .ref id 0 N 2 ∧ env 1 = .int .i64 (a : Int) ∧ env 4 = .fn 78 [] ∧ env 11 = .int .i64 (i2 : Int) ∧ env 12 = .int .i64 (j' : Int) ∧
          j' ≤ j ∧ i2 ≤ j' + 2 ∧ scanDown (fun x => ahead e[a]! x) e i2 j' = scanDown (fun x => ahead e[a]! x) e i2 j) (fun j' => j')
        (fun env σ' n' => σ' = σ2 ∧ n' = n2 ∧ env 0 = .ref id 0 N 2 ∧ env 1 = .int .i64 (a : Int) ∧ env 4 = .fn 78 [] ∧ env 11 = .int .i64 (i2 : Int) ∧ env 12 = .int .i64 ((scanDown (fun x => ahead e[a]! x) e i2 j : Nat) : Int) ∧ i2 ≤ scanDown (fun x => ahead e[a]! x) e i2 j + 2) ?_ ?_ j _ _ _ ?_
      · clear h2 h3 h4 h5 h6
        intro j' env σ3 n3 ⟨k1, k2, k3, k4, k5, k6, k7, k8, k9, k10⟩
        subst k1 k2
        by_cases hle : i2 ≤ j'
        · have hle' : (i2 : Int) ≤ (j' : Int) := by omega
          obtain ⟨j', rfl⟩ : ∃ q, j' = q + 1 := ⟨j' - 1, by omega⟩
          have wi : IntKind.i64.wrap (((j' + 1 : Nat) : Int) - 1) = (j' : Int) := by rw [wrap_i64] <;> omega
          have x1 := rw_at (d := e) (i := j' + 1) (by omega)
          have l1 : j' + 1 < N := by omega
          by_cases hc : cmpH e[a]! e[j' + 1]! < 0
          · have hah : ahead e[a]! e[j' + 1]! = true := by rw [← cmp_lt]; simpa using hc
            simp +contextual -implicitDefEqProofs (maxSteps := 2000000) only [↓wP, wQ, wQ1, wQ2, wQ3, wR, boxE, partsOf, ↓reduceIte, Nat.reduceEqDiff, Nat.reduceAdd, Nat.reduceSub, Nat.reduceLeDiff, Nat.reduceLT, Nat.reduceMul, reduceCtorEq, Int.reduceBNe, Int.reduceBEq, Int.reduceLT, Int.reduceLE, Int.reduceGT, exQ_exit, k3, k4, k5, k6, k7, hle', hat, m1, l1, xa, x1, f78, hc, wi]
            exact ⟨j', by omega, rfl, by omega, by omega, by rw [sd_go hle hah]; exact k10⟩
          · have hah : ahead e[a]! e[j' + 1]! = false := by rw [← cmp_lt]; simpa using hc
            have hst := sd_stop (p := fun x => ahead e[a]! x) (d := e) (i := i2) (j := j' + 1) (.inr hah)
            rw [hst] at k10
            rw [← k10]
            simp +contextual -implicitDefEqProofs (maxSteps := 2000000) only [↓wP, wQ, wQ1, wQ2, wQ3, wR, boxE, partsOf, ↓reduceIte, Nat.reduceEqDiff, Nat.reduceAdd, Nat.reduceSub, Nat.reduceLeDiff, Nat.reduceLT, Nat.reduceMul, reduceCtorEq, Int.reduceBNe, Int.reduceBEq, Int.reduceLT, Int.reduceLE, Int.reduceGT, exQ_exit, k3, k4, k5, k6, k7, hle', hat, m1, l1, xa, x1, f78, hc]
            omega
        · have hle' : ¬ (i2 : Int) ≤ (j' : Int) := by omega
          have hst := sd_stop (p := fun x => ahead e[a]! x) (d := e) (i := i2) (j := j') (.inl hle)
          rw [hst] at k10
          rw [← k10]
          simp +contextual -implicitDefEqProofs (maxSteps := 2000000) only [↓wP, wQ, wQ1, wQ2, wQ3, wR, boxE, partsOf, ↓reduceIte, Nat.reduceEqDiff, Nat.reduceAdd, Nat.reduceSub, Nat.reduceLeDiff, Nat.reduceLT, Nat.reduceMul, reduceCtorEq, Int.reduceBNe, Int.reduceBEq, Int.reduceLT, Int.reduceLE, Int.reduceGT, exQ_exit, k3, k4, k5, k6, k7, hle']
          omega
      · clear h2 h3 h4 h5 h6
        intro env σ3 n3 ⟨k1, k2, h2, h3, h4, h5, h6, k9⟩
        subst k1 k2
        have hle := scanDown_le (fun x => ahead e[a]! x) e i2 j
        generalize scanDown (fun x => ahead e[a]! x) e i2 j = j2 at *
        by_cases hgt : j2 < i2
        · have hgt' : (j2 : Int) < (i2 : Int) := by omega
          rw [if_pos hgt] at h12
          simp +contextual -implicitDefEqProofs (maxSteps := 2000000) only [↓wP, wQ, wQ1, wQ2, wQ3, wR, boxE, partsOf, ↓reduceIte, Nat.reduceEqDiff, Nat.reduceAdd, Nat.reduceSub, Nat.reduceLeDiff, Nat.reduceLT, Nat.reduceMul, reduceCtorEq, Int.reduceBNe, Int.reduceBEq, Int.reduceLT, Int.reduceLE, Int.reduceGT, h2, h3, h4, h5, h6, hgt']
          have := hQ σ3
          rw [← h12] at this
          exact this h11
        · have hgt' : ¬ (j2 : Int) < (i2 : Int) := by omega
          rw [if_neg hgt] at h12
          have wi : IntKind.i64.wrap ((i2 : Int) + 1) = ((i2 + 1 : Nat) : Int) := by rw [wrap_i64] <;> omega
          have wj : IntKind.i64.wrap ((j2 : Int) - 1) = ((j2 - 1 : Nat) : Int) := by rw [wrap_i64] <;> omega
          have x1 := rw_at (d := e) (i := i2) (by omega)
          have x2 := rw_at (d := e) (i := j2) (by omega)
          obtain ⟨u, v, x3⟩ := rw_set_at (d := e) (i := i2) (j := j2) (x := e[j2]!) (by omega)
          have l1 : i2 < N := by omega
          have l2 : j2 < N := by omega
          simp +contextual -implicitDefEqProofs (maxSteps := 2000000) only [↓wP, wQ, wQ1, wQ2, wQ3, wR, boxE, partsOf, ↓reduceIte, Nat.reduceEqDiff, Nat.reduceAdd, Nat.reduceSub, Nat.reduceLeDiff, Nat.reduceLT, Nat.reduceMul, reduceCtorEq, Int.reduceBNe, Int.reduceBEq, Int.reduceLT, Int.reduceLE, Int.reduceGT, h2, h3, h4, h5, h6, hgt', wi, wj, x1, x2, x3, l1, l2, hat]
          refine ⟨((i2 + 1, j2 - 1), swp e i2 j2), by dsimp only; omega, rfl, rfl, by dsimp only; omega, by dsimp only; omega, by dsimp only; omega, by rw [swp_size, h10], h11.swp _ _, h12⟩
      · simp +contextual -implicitDefEqProofs (maxSteps := 2000000) only [↓wP, wQ, wQ1, wQ2, wQ3, wR, boxE, partsOf, ↓reduceIte, Nat.reduceEqDiff, Nat.reduceAdd, Nat.reduceSub, Nat.reduceLeDiff, Nat.reduceLT, Nat.reduceMul, reduceCtorEq, Int.reduceBNe, Int.reduceBEq, Int.reduceLT, Int.reduceLE, Int.reduceGT, h2, h3, h4, h5, h6]
        exact k8
    · simp +contextual -implicitDefEqProofs (maxSteps := 2000000) only [↓wP, wQ, wQ1, wQ2, wQ3, wR, boxE, partsOf, ↓reduceIte, Nat.reduceEqDiff, Nat.reduceAdd, Nat.reduceSub, Nat.reduceLeDiff, Nat.reduceLT, Nat.reduceMul, reduceCtorEq, Int.reduceBNe, Int.reduceBEq, Int.reduceLT, Int.reduceLE, Int.reduceGT, h2, h3, h4, h5, h6]
      exact h8
  · simp +contextual -implicitDefEqProofs (maxSteps := 2000000) only [↓wP, wQ, wQ1, wQ2, wQ3, wR, boxE, partsOf, ↓reduceIte, Nat.reduceEqDiff, Nat.reduceAdd, Nat.reduceSub, Nat.reduceLeDiff, Nat.reduceLT, Nat.reduceMul, reduceCtorEq, Int.reduceBNe, Int.reduceBEq, Int.reduceLT, Int.reduceLE, Int.reduceGT]
    exact ⟨by omega, by omega, by omega, hs0, hat0⟩
theorem raw125 (d : Array Hit) (a b p id n : Nat) (σ : Sto) (hap : a ≤ p) (hpb : p < b) (hb : b ≤ d.size) (hn : d.size < 1000000) (hσ : σ id = some (.row 2 (rw' d))) {Q : V → Sto → Nat → Prop}
    (hQ : ∀ σ', At σ' σ id (partition ahead d a b p).2.2 → Q (.tup [.int .i64 ((partition ahead d a b p).1 : Int), .bool (partition ahead d a b p).2.1]) σ' n) :
    run T (.raw 125 [.ref id 0 d.size 2, .int .i64 (a : Int), .int .i64 (b : Int), .int .i64 (p : Int), .fn 78 []] σ n 0) (memQ Q) := by
  refine run_rawE (fn := g125) rfl rfl ?_
  simp only [g125, b125, oO, oN, mV, lD, gO, pP, qQ, cI, aR]
  have w1 : IntKind.i64.wrap ((a : Int) + 1) = ((a + 1 : Nat) : Int) := by rw [wrap_i64] <;> omega
  have w2 : IntKind.i64.wrap ((b : Int) - 1) = ((b - 1 : Nat) : Int) := by rw [wrap_i64] <;> omega
  have y1 := rw_at (d := d) (i := a) (by omega)
  have y2 := rw_at (d := d) (i := p) (by omega)
  obtain ⟨u, v, y3⟩ := rw_set_at (d := d) (i := a) (j := p) (x := d[p]!) (by omega)
  have h11 := (At.refl hσ).swp a p
  have h10 : (swp d a p).size = d.size := swp_size _ _ _
  unfold partition at hQ
  generalize hsz : d.size = N at *
  have m1 : a < N := by omega
  have m2 : p < N := by omega
  simp +contextual -implicitDefEqProofs (maxSteps := 2000000) only [↓wP, wQ, wQ1, wQ2, wQ3, wR, boxE, partsOf, ↓reduceIte, Nat.reduceEqDiff, Nat.reduceAdd, Nat.reduceSub, Nat.reduceLeDiff, Nat.reduceLT, Nat.reduceMul, reduceCtorEq, Int.reduceBNe, Int.reduceBEq, Int.reduceLT, Int.reduceLE, Int.reduceGT, w1, w2, y1, y2, y3, m1, m2, hσ]
  generalize (upd (upd σ id (some (.row 2 ((rw' d).set a (.agg [.int .u64 (d[p]!).id, .int .u64 (d[p]!).d]))))) id
      (some (.row 2 (((rw' d).set a (.agg [.int .u64 (d[p]!).id, .int .u64 (d[p]!).d])).set p (.agg [.int .u64 (d[a]!).id, .int .u64 (d[a]!).d]))))) = σ1 at h11
  generalize swp d a p = e at *
  simp only [gt_iff_lt] at hQ
  have hat := h11.1
  have xa := rw_at (d := e) (i := a) (by omega)
  obtain ⟨n1, hn1⟩ : ∃ n1, n1 = n := ⟨_, rfl⟩
  rw [← hn1] at hQ ⊢
  have h8 : a + 1 ≤ b - 1 + 2 := by omega
  have h2 : True := trivial
  have h3 : True := trivial
  have h4 : True := trivial
  have h5 : True := trivial
  have h6 : True := trivial
  refine WC_loopE 0 0 (fun (i' : Nat) env σ' n' => σ' = σ1 ∧ n' = n1 ∧ env 0 = .ref id 0 N 2 ∧ env 1 = .int .i64 (a : Int) ∧ env 4 = .fn 78 [] ∧ env 12 = .int .i64 (i' : Int) ∧ env 13 = .int .i64 ((b - 1 : Nat) : Int) ∧
      a + 1 ≤ i' ∧ i' ≤ b - 1 + 2 ∧ scanUp (fun x => ahead x e[a]!) e (b - 1) i' = scanUp (fun x => ahead x e[a]!) e (b - 1) (a + 1)) (fun i' => b - 1 + 1 - i')
    (fun env σ' n' => σ' = σ1 ∧ n' = n1 ∧ env 0 = .ref id 0 N 2 ∧ env 1 = .int .i64 (a : Int) ∧ env 4 = .fn 78 [] ∧ env 12 = .int .i64 ((scanUp (fun x => ahead x e[a]!) e (b - 1) (a + 1) : Nat) : Int) ∧ env 13 = .int .i64 ((b - 1 : Nat) : Int) ∧ scanUp (fun x => ahead x e[a]!) e (b - 1) (a + 1) ≤ b - 1 + 2) ?_ ?_ (a + 1) _ _ _ ?_
  · clear h2 h3 h4 h5 h6
    intro i' env σ2 n2 ⟨k1, k2, k3, k4, k5, k6, k7, k8, k9, k10⟩
    subst k1 k2
    by_cases hle : i' ≤ b - 1
    · have hle' : (i' : Int) ≤ ((b - 1 : Nat) : Int) := by omega
      have wi : IntKind.i64.wrap ((i' : Int) + 1) = ((i' + 1 : Nat) : Int) := by rw [wrap_i64] <;> omega
      have x1 := rw_at (d := e) (i := i') (by omega)
      have l1 : i' < N := by omega
      by_cases hc : cmpH e[i']! e[a]! < 0
      · have hah : ahead e[i']! e[a]! = true := by rw [← cmp_lt]; simpa using hc
        simp +contextual -implicitDefEqProofs (maxSteps := 2000000) only [↓wP, wQ, wQ1, wQ2, wQ3, wR, boxE, partsOf, ↓reduceIte, Nat.reduceEqDiff, Nat.reduceAdd, Nat.reduceSub, Nat.reduceLeDiff, Nat.reduceLT, Nat.reduceMul, reduceCtorEq, Int.reduceBNe, Int.reduceBEq, Int.reduceLT, Int.reduceLE, Int.reduceGT, exQ_exit, k3, k4, k5, k6, k7, hle', hat, m1, l1, xa, x1, f78, hc, wi]
        exact ⟨i' + 1, by omega, rfl, by omega, by omega, by rw [su_go hle (by simp [hah])]; exact k10⟩
      · have hah : ahead e[i']! e[a]! = false := by rw [← cmp_lt]; simpa using hc
        have hst := su_stop (p := (fun x => ahead x e[a]!)) (d := e) (i := i') (j := b - 1) (.inr (by simp [hah]))
        rw [hst] at k10
        rw [← k10]
        simp +contextual -implicitDefEqProofs (maxSteps := 2000000) only [↓wP, wQ, wQ1, wQ2, wQ3, wR, boxE, partsOf, ↓reduceIte, Nat.reduceEqDiff, Nat.reduceAdd, Nat.reduceSub, Nat.reduceLeDiff, Nat.reduceLT, Nat.reduceMul, reduceCtorEq, Int.reduceBNe, Int.reduceBEq, Int.reduceLT, Int.reduceLE, Int.reduceGT, exQ_exit, k3, k4, k5, k6, k7, hle', hat, m1, l1, xa, x1, f78, hc]
        omega
    · have hle' : ¬ (i' : Int) ≤ ((b - 1 : Nat) : Int) := by omega
      have hst := su_stop (p := (fun x => ahead x e[a]!)) (d := e) (i := i') (j := b - 1) (.inl hle)
      rw [hst] at k10
      rw [← k10]
      simp +contextual -implicitDefEqProofs (maxSteps := 2000000) only [↓wP, wQ, wQ1, wQ2, wQ3, wR, boxE, partsOf, ↓reduceIte, Nat.reduceEqDiff, Nat.reduceAdd, Nat.reduceSub, Nat.reduceLeDiff, Nat.reduceLT, Nat.reduceMul, reduceCtorEq, Int.reduceBNe, Int.reduceBEq, Int.reduceLT, Int.reduceLE, Int.reduceGT, exQ_exit, k3, k4, k5, k6, k7, hle']
      omega
  · clear h2 h3 h4 h5 h6
    intro env σ2 n2 ⟨k1, k2, h2, h3, h4, h5, h6, k8⟩
    subst k1 k2
    have hge := scanUp_ge (fun x => ahead x e[a]!) e (b - 1) (a + 1)
    generalize scanUp (fun x => ahead x e[a]!) e (b - 1) (a + 1) = i2 at *
    simp +contextual -implicitDefEqProofs (maxSteps := 2000000) only [↓wP, wQ, wQ1, wQ2, wQ3, wR, boxE, partsOf, ↓reduceIte, Nat.reduceEqDiff, Nat.reduceAdd, Nat.reduceSub, Nat.reduceLeDiff, Nat.reduceLT, Nat.reduceMul, reduceCtorEq, Int.reduceBNe, Int.reduceBEq, Int.reduceLT, Int.reduceLE, Int.reduceGT]
    refine WC_loopE 2 0 (fun (j' : Nat) env σ' n' => σ' = σ2 ∧ n' = n2 ∧ env 0 = .ref id 0 N 2 ∧ env 1 = .int .i64 (a : Int) ∧ env 4 = .fn 78 [] ∧ env 12 = .int .i64 (i2 : Int) ∧ env 13 = .int .i64 (j' : Int) ∧
        j' ≤ b - 1 ∧ i2 ≤ j' + 2 ∧ scanDown (fun x => !ahead x e[a]!) e i2 j' = scanDown (fun x => !ahead x e[a]!) e i2 (b - 1)) (fun j' => j')
      (fun env σ' n' => σ' = σ2 ∧ n' = n2 ∧ env 0 = .ref id 0 N 2 ∧ env 1 = .int .i64 (a : Int) ∧ env 4 = .fn 78 [] ∧ env 12 = .int .i64 (i2 : Int) ∧ env 13 = .int .i64 ((scanDown (fun x => !ahead x e[a]!) e i2 (b - 1) : Nat) : Int) ∧ i2 ≤ scanDown (fun x => !ahead x e[a]!) e i2 (b - 1) + 2) ?_ ?_ (b - 1) _ _ _ ?_
    · clear h2 h3 h4 h5 h6
      intro j' env σ3 n3 ⟨k1, k2, k3, k4, k5, k6, k7, k8, k9, k10⟩
      subst k1 k2
      by_cases hle : i2 ≤ j'
      · have hle' : (i2 : Int) ≤ (j' : Int) := by omega
        obtain ⟨j', rfl⟩ : ∃ q, j' = q + 1 := ⟨j' - 1, by omega⟩
        have wi : IntKind.i64.wrap (((j' + 1 : Nat) : Int) - 1) = (j' : Int) := by rw [wrap_i64] <;> omega
        have x1 := rw_at (d := e) (i := j' + 1) (by omega)
        have l1 : j' + 1 < N := by omega
        by_cases hc : cmpH e[j' + 1]! e[a]! < 0
        · have hah : ahead e[j' + 1]! e[a]! = true := by rw [← cmp_lt]; simpa using hc
          have hst := sd_stop (p := (fun x => !ahead x e[a]!)) (d := e) (i := i2) (j := j' + 1) (.inr (by simp [hah]))
          rw [hst] at k10
          rw [← k10]
          simp +contextual -implicitDefEqProofs (maxSteps := 2000000) only [↓wP, wQ, wQ1, wQ2, wQ3, wR, boxE, partsOf, ↓reduceIte, Nat.reduceEqDiff, Nat.reduceAdd, Nat.reduceSub, Nat.reduceLeDiff, Nat.reduceLT, Nat.reduceMul, reduceCtorEq, Int.reduceBNe, Int.reduceBEq, Int.reduceLT, Int.reduceLE, Int.reduceGT, exQ_exit, k3, k4, k5, k6, k7, hle', hat, m1, l1, xa, x1, f78, hc]
          omega
        · have hah : ahead e[j' + 1]! e[a]! = false := by rw [← cmp_lt]; simpa using hc
          simp +contextual -implicitDefEqProofs (maxSteps := 2000000) only [↓wP, wQ, wQ1, wQ2, wQ3, wR, boxE, partsOf, ↓reduceIte, Nat.reduceEqDiff, Nat.reduceAdd, Nat.reduceSub, Nat.reduceLeDiff, Nat.reduceLT, Nat.reduceMul, reduceCtorEq, Int.reduceBNe, Int.reduceBEq, Int.reduceLT, Int.reduceLE, Int.reduceGT, exQ_exit, k3, k4, k5, k6, k7, hle', hat, m1, l1, xa, x1, f78, hc, wi]
          exact ⟨j', by omega, rfl, by omega, by omega, by rw [sd_go hle (by simp [hah])]; exact k10⟩
      · have hle' : ¬ (i2 : Int) ≤ (j' : Int) := by omega
        have hst := sd_stop (p := (fun x => !ahead x e[a]!)) (d := e) (i := i2) (j := j') (.inl hle)
        rw [hst] at k10
        rw [← k10]
        simp +contextual -implicitDefEqProofs (maxSteps := 2000000) only [↓wP, wQ, wQ1, wQ2, wQ3, wR, boxE, partsOf, ↓reduceIte, Nat.reduceEqDiff, Nat.reduceAdd, Nat.reduceSub, Nat.reduceLeDiff, Nat.reduceLT, Nat.reduceMul, reduceCtorEq, Int.reduceBNe, Int.reduceBEq, Int.reduceLT, Int.reduceLE, Int.reduceGT, exQ_exit, k3, k4, k5, k6, k7, hle']
        omega
    · clear h2 h3 h4 h5 h6
      intro env σ3 n3 ⟨k1, k2, h2, h3, h4, h5, h6, k9⟩
      subst k1 k2
      have hle := scanDown_le (fun x => !ahead x e[a]!) e i2 (b - 1)
      generalize scanDown (fun x => !ahead x e[a]!) e i2 (b - 1) = j2 at *
      by_cases hgt : j2 < i2
      · have hgt' : (j2 : Int) < (i2 : Int) := by omega
        have x1 := rw_at (d := e) (i := j2) (by omega)
        have x2 := rw_at (d := e) (i := a) (by omega)
        obtain ⟨u, v, x3⟩ := rw_set_at (d := e) (i := j2) (j := a) (x := e[a]!) (by omega)
        have l1 : j2 < N := by omega
        have l2 : a < N := by omega
        simp +contextual -implicitDefEqProofs (maxSteps := 2000000) only [↓wP, wQ, wQ1, wQ2, wQ3, wR, boxE, partsOf, ↓reduceIte, Nat.reduceEqDiff, Nat.reduceAdd, Nat.reduceSub, Nat.reduceLeDiff, Nat.reduceLT, Nat.reduceMul, reduceCtorEq, Int.reduceBNe, Int.reduceBEq, Int.reduceLT, Int.reduceLE, Int.reduceGT, h2, h3, h4, h5, h6, hgt', x1, x2, x3, l1, l2, hat]
        rw [if_pos hgt] at hQ
        exact hQ _ (h11.swp _ _)
      · have hgt' : ¬ (j2 : Int) < (i2 : Int) := by omega
        rw [if_neg hgt] at hQ
        have wi : IntKind.i64.wrap ((i2 : Int) + 1) = ((i2 + 1 : Nat) : Int) := by rw [wrap_i64] <;> omega
        have wj : IntKind.i64.wrap ((j2 : Int) - 1) = ((j2 - 1 : Nat) : Int) := by rw [wrap_i64] <;> omega
        have x1 := rw_at (d := e) (i := i2) (by omega)
        have x2 := rw_at (d := e) (i := j2) (by omega)
        obtain ⟨u, v, x3⟩ := rw_set_at (d := e) (i := i2) (j := j2) (x := e[j2]!) (by omega)
        have l1 : i2 < N := by omega
        have l2 : j2 < N := by omega
        have hat1 := h11.swp i2 j2
        have hs1 : (swp e i2 j2).size = N := by rw [swp_size, h10]
        simp +contextual -implicitDefEqProofs (maxSteps := 2000000) only [↓wP, wQ, wQ1, wQ2, wQ3, wR, boxE, partsOf, ↓reduceIte, Nat.reduceEqDiff, Nat.reduceAdd, Nat.reduceSub, Nat.reduceLeDiff, Nat.reduceLT, Nat.reduceMul, reduceCtorEq, Int.reduceBNe, Int.reduceBEq, Int.reduceLT, Int.reduceLE, Int.reduceGT, h2, h3, h4, h5, h6, hgt', wi, wj, x1, x2, x3, l1, l2, hat]
        generalize (upd (upd σ3 id (some (.row 2 ((rw' e).set i2 (.agg [.int .u64 (e[j2]!).id, .int .u64 (e[j2]!).d]))))) id
            (some (.row 2 (((rw' e).set i2 (.agg [.int .u64 (e[j2]!).id, .int .u64 (e[j2]!).d])).set j2 (.agg [.int .u64 (e[i2]!).id, .int .u64 (e[i2]!).d]))))) = σ5 at hat1
        generalize swp e i2 j2 = d1 at *
        have hR : ∀ (j3 : Nat) (e : Array Hit), (j3, e) = partLoop ahead a (i2 + 1) (j2 - 1) d1 → e.size = N → j3 < b → ∀ σ', At σ' σ id (swp e j3 a) → Q (.tup [.int .i64 (j3 : Int), .bool false]) σ' n3 := by
          intro j3 e h1 _ _ σ' h4
          rw [← h1] at hQ
          exact hQ _ h4
        generalize i2 = i0 at *
        generalize j2 = j0 at *
        clear x1 x2 x3 l1 l2 k8 k9 h10 h11 hgt' wi wj
        refine WC_loopI 0 (fun (s : (Nat × Nat) × Array Hit) env σ' n' => n' = n3 ∧ env 0 = .ref id 0 N 2 ∧ env 1 = .int .i64 (a : Int) ∧ env 4 = .fn 78 [] ∧ env 12 = .int .i64 (s.1.1 : Int) ∧ env 13 = .int .i64 (s.1.2 : Int) ∧
            a < s.1.1 ∧ s.1.1 ≤ s.1.2 + 2 ∧ s.1.2 < b ∧ s.2.size = N ∧ At σ' σ id s.2 ∧ partLoop ahead a s.1.1 s.1.2 s.2 = partLoop ahead a (i0 + 1) (j0 - 1) d1) (fun s => s.1.2 + 1 - s.1.1) ?_ ((i0 + 1, j0 - 1), d1) _ _ _ ?_
        · clear hat xa
          intro ⟨⟨i, j⟩, e⟩ env σ1 n1 ⟨h1, h2, h3, h4, h5, h6, h7, h8, h9, h10, h11, h12⟩
          subst h1
          simp only at h5 h6 h7 h8 h9 h10 h11 h12
          have hat := h11.1
          have xa := rw_at (d := e) (i := a) (by omega)
          rw [partLoop_eq] at h12
          simp +contextual -implicitDefEqProofs (maxSteps := 2000000) only [↓wP, wQ, wQ1, wQ2, wQ3, wR, boxE, partsOf, ↓reduceIte, Nat.reduceEqDiff, Nat.reduceAdd, Nat.reduceSub, Nat.reduceLeDiff, Nat.reduceLT, Nat.reduceMul, reduceCtorEq, Int.reduceBNe, Int.reduceBEq, Int.reduceLT, Int.reduceLE, Int.reduceGT]
          refine WC_loopE 6 0 (fun (i' : Nat) env σ' n' => σ' = σ1 ∧ n' = n1 ∧ env 0 = .ref id 0 N 2 ∧ env 1 = .int .i64 (a : Int) ∧ env 4 = .fn 78 [] ∧ env 12 = .int .i64 (i' : Int) ∧ env 13 = .int .i64 ((j : Nat) : Int) ∧
              i ≤ i' ∧ i' ≤ j + 2 ∧ scanUp (fun x => ahead x e[a]!) e (j) i' = scanUp (fun x => ahead x e[a]!) e (j) (i)) (fun i' => j + 1 - i')
            (fun env σ' n' => σ' = σ1 ∧ n' = n1 ∧ env 0 = .ref id 0 N 2 ∧ env 1 = .int .i64 (a : Int) ∧ env 4 = .fn 78 [] ∧ env 12 = .int .i64 ((scanUp (fun x => ahead x e[a]!) e (j) (i) : Nat) : Int) ∧ env 13 = .int .i64 ((j : Nat) : Int) ∧ scanUp (fun x => ahead x e[a]!) e (j) (i) ≤ j + 2) ?_ ?_ (i) _ _ _ ?_
          · clear h2 h3 h4 h5 h6
            intro i' env σ2 n2 ⟨k1, k2, k3, k4, k5, k6, k7, k8, k9, k10⟩
            subst k1 k2
            by_cases hle : i' ≤ j
            · have hle' : (i' : Int) ≤ ((j : Nat) : Int) := by omega
              have wi : IntKind.i64.wrap ((i' : Int) + 1) = ((i' + 1 : Nat) : Int) := by rw [wrap_i64] <;> omega
              have x1 := rw_at (d := e) (i := i') (by omega)
              have l1 : i' < N := by omega
              by_cases hc : cmpH e[i']! e[a]! < 0
              · have hah : ahead e[i']! e[a]! = true := by rw [← cmp_lt]; simpa using hc
                simp +contextual -implicitDefEqProofs (maxSteps := 2000000) only [↓wP, wQ, wQ1, wQ2, wQ3, wR, boxE, partsOf, ↓reduceIte, Nat.reduceEqDiff, Nat.reduceAdd, Nat.reduceSub, Nat.reduceLeDiff, Nat.reduceLT, Nat.reduceMul, reduceCtorEq, Int.reduceBNe, Int.reduceBEq, Int.reduceLT, Int.reduceLE, Int.reduceGT, exQ_exit, k3, k4, k5, k6, k7, hle', hat, m1, l1, xa, x1, f78, hc, wi]
                exact ⟨i' + 1, by omega, rfl, by omega, by omega, by rw [su_go hle (by simp [hah])]; exact k10⟩
              · have hah : ahead e[i']! e[a]! = false := by rw [← cmp_lt]; simpa using hc
                have hst := su_stop (p := (fun x => ahead x e[a]!)) (d := e) (i := i') (j := j) (.inr (by simp [hah]))
                rw [hst] at k10
                rw [← k10]
                simp +contextual -implicitDefEqProofs (maxSteps := 2000000) only [↓wP, wQ, wQ1, wQ2, wQ3, wR, boxE, partsOf, ↓reduceIte, Nat.reduceEqDiff, Nat.reduceAdd, Nat.reduceSub, Nat.reduceLeDiff, Nat.reduceLT, Nat.reduceMul, reduceCtorEq, Int.reduceBNe, Int.reduceBEq, Int.reduceLT, Int.reduceLE, Int.reduceGT, exQ_exit, k3, k4, k5, k6, k7, hle', hat, m1, l1, xa, x1, f78, hc]
                omega
            · have hle' : ¬ (i' : Int) ≤ ((j : Nat) : Int) := by omega
              have hst := su_stop (p := (fun x => ahead x e[a]!)) (d := e) (i := i') (j := j) (.inl hle)
              rw [hst] at k10
              rw [← k10]
              simp +contextual -implicitDefEqProofs (maxSteps := 2000000) only [↓wP, wQ, wQ1, wQ2, wQ3, wR, boxE, partsOf, ↓reduceIte, Nat.reduceEqDiff, Nat.reduceAdd, Nat.reduceSub, Nat.reduceLeDiff, Nat.reduceLT, Nat.reduceMul, reduceCtorEq, Int.reduceBNe, Int.reduceBEq, Int.reduceLT, Int.reduceLE, Int.reduceGT, exQ_exit, k3, k4, k5, k6, k7, hle']
              omega
          · clear h2 h3 h4 h5 h6
            intro env σ2 n2 ⟨k1, k2, h2, h3, h4, h5, h6, k8⟩
            subst k1 k2
            have hge := scanUp_ge (fun x => ahead x e[a]!) e (j) (i)
            generalize scanUp (fun x => ahead x e[a]!) e (j) (i) = i2 at *
            simp +contextual -implicitDefEqProofs (maxSteps := 2000000) only [↓wP, wQ, wQ1, wQ2, wQ3, wR, boxE, partsOf, ↓reduceIte, Nat.reduceEqDiff, Nat.reduceAdd, Nat.reduceSub, Nat.reduceLeDiff, Nat.reduceLT, Nat.reduceMul, reduceCtorEq, Int.reduceBNe, Int.reduceBEq, Int.reduceLT, Int.reduceLE, Int.reduceGT]
            refine WC_loopE 8 0 (fun (j' : Nat) env σ' n' => σ' = σ2 ∧ n' = n2 ∧ env 0 = .ref id 0 N 2 ∧ env 1 = .int .i64 (a : Int) ∧ env 4 = .fn 78 [] ∧ env 12 = .int .i64 (i2 : Int) ∧ env 13 = .int .i64 (j' : Int) ∧
                j' ≤ j ∧ i2 ≤ j' + 2 ∧ scanDown (fun x => !ahead x e[a]!) e i2 j' = scanDown (fun x => !ahead x e[a]!) e i2 (j)) (fun j' => j')
              (fun env σ' n' => σ' = σ2 ∧ n' = n2 ∧ env 0 = .ref id 0 N 2 ∧ env 1 = .int .i64 (a : Int) ∧ env 4 = .fn 78 [] ∧ env 12 = .int .i64 (i2 : Int) ∧ env 13 = .int .i64 ((scanDown (fun x => !ahead x e[a]!) e i2 (j) : Nat) : Int) ∧ i2 ≤ scanDown (fun x => !ahead x e[a]!) e i2 (j) + 2) ?_ ?_ (j) _ _ _ ?_
            · clear h2 h3 h4 h5 h6
              intro j' env σ3 n3 ⟨k1, k2, k3, k4, k5, k6, k7, k8, k9, k10⟩
              subst k1 k2
              by_cases hle : i2 ≤ j'
              · have hle' : (i2 : Int) ≤ (j' : Int) := by omega
                obtain ⟨j', rfl⟩ : ∃ q, j' = q + 1 := ⟨j' - 1, by omega⟩
                have wi : IntKind.i64.wrap (((j' + 1 : Nat) : Int) - 1) = (j' : Int) := by rw [wrap_i64] <;> omega
                have x1 := rw_at (d := e) (i := j' + 1) (by omega)
                have l1 : j' + 1 < N := by omega
                by_cases hc : cmpH e[j' + 1]! e[a]! < 0
                · have hah : ahead e[j' + 1]! e[a]! = true := by rw [← cmp_lt]; simpa using hc
                  have hst := sd_stop (p := (fun x => !ahead x e[a]!)) (d := e) (i := i2) (j := j' + 1) (.inr (by simp [hah]))
                  rw [hst] at k10
                  rw [← k10]
                  simp +contextual -implicitDefEqProofs (maxSteps := 2000000) only [↓wP, wQ, wQ1, wQ2, wQ3, wR, boxE, partsOf, ↓reduceIte, Nat.reduceEqDiff, Nat.reduceAdd, Nat.reduceSub, Nat.reduceLeDiff, Nat.reduceLT, Nat.reduceMul, reduceCtorEq, Int.reduceBNe, Int.reduceBEq, Int.reduceLT, Int.reduceLE, Int.reduceGT, exQ_exit, k3, k4, k5, k6, k7, hle', hat, m1, l1, xa, x1, f78, hc]
                  omega
                · have hah : ahead e[j' + 1]! e[a]! = false := by rw [← cmp_lt]; simpa using hc
                  simp +contextual -implicitDefEqProofs (maxSteps := 2000000) only [↓wP, wQ, wQ1, wQ2, wQ3, wR, boxE, partsOf, ↓reduceIte, Nat.reduceEqDiff, Nat.reduceAdd, Nat.reduceSub, Nat.reduceLeDiff, Nat.reduceLT, Nat.reduceMul, reduceCtorEq, Int.reduceBNe, Int.reduceBEq, Int.reduceLT, Int.reduceLE, Int.reduceGT, exQ_exit, k3, k4, k5, k6, k7, hle', hat, m1, l1, xa, x1, f78, hc, wi]
                  exact ⟨j', by omega, rfl, by omega, by omega, by rw [sd_go hle (by simp [hah])]; exact k10⟩
              · have hle' : ¬ (i2 : Int) ≤ (j' : Int) := by omega
                have hst := sd_stop (p := (fun x => !ahead x e[a]!)) (d := e) (i := i2) (j := j') (.inl hle)
                rw [hst] at k10
                rw [← k10]
                simp +contextual -implicitDefEqProofs (maxSteps := 2000000) only [↓wP, wQ, wQ1, wQ2, wQ3, wR, boxE, partsOf, ↓reduceIte, Nat.reduceEqDiff, Nat.reduceAdd, Nat.reduceSub, Nat.reduceLeDiff, Nat.reduceLT, Nat.reduceMul, reduceCtorEq, Int.reduceBNe, Int.reduceBEq, Int.reduceLT, Int.reduceLE, Int.reduceGT, exQ_exit, k3, k4, k5, k6, k7, hle']
                omega
            · clear h2 h3 h4 h5 h6
              intro env σ3 n3 ⟨k1, k2, h2, h3, h4, h5, h6, k9⟩
              subst k1 k2
              have hle := scanDown_le (fun x => !ahead x e[a]!) e i2 (j)
              generalize scanDown (fun x => !ahead x e[a]!) e i2 (j) = j2 at *
              by_cases hgt : j2 < i2
              · have hgt' : (j2 : Int) < (i2 : Int) := by omega
                rw [if_pos hgt] at h12
                have x1 := rw_at (d := e) (i := j2) (by omega)
                have x2 := rw_at (d := e) (i := a) (by omega)
                obtain ⟨u, v, x3⟩ := rw_set_at (d := e) (i := j2) (j := a) (x := e[a]!) (by omega)
                have l1 : j2 < N := by omega
                have l2 : a < N := by omega
                simp +contextual -implicitDefEqProofs (maxSteps := 2000000) only [↓wP, wQ, wQ1, wQ2, wQ3, wR, boxE, partsOf, ↓reduceIte, Nat.reduceEqDiff, Nat.reduceAdd, Nat.reduceSub, Nat.reduceLeDiff, Nat.reduceLT, Nat.reduceMul, reduceCtorEq, Int.reduceBNe, Int.reduceBEq, Int.reduceLT, Int.reduceLE, Int.reduceGT, h2, h3, h4, h5, h6, hgt', x1, x2, x3, l1, l2, hat]
                have := hR j2 e h12 h10 (by omega)
                exact this _ (h11.swp _ _)
              · have hgt' : ¬ (j2 : Int) < (i2 : Int) := by omega
                rw [if_neg hgt] at h12
                have wi : IntKind.i64.wrap ((i2 : Int) + 1) = ((i2 + 1 : Nat) : Int) := by rw [wrap_i64] <;> omega
                have wj : IntKind.i64.wrap ((j2 : Int) - 1) = ((j2 - 1 : Nat) : Int) := by rw [wrap_i64] <;> omega
                have x1 := rw_at (d := e) (i := i2) (by omega)
                have x2 := rw_at (d := e) (i := j2) (by omega)
                obtain ⟨u, v, x3⟩ := rw_set_at (d := e) (i := i2) (j := j2) (x := e[j2]!) (by omega)
                have l1 : i2 < N := by omega
                have l2 : j2 < N := by omega
                simp +contextual -implicitDefEqProofs (maxSteps := 2000000) only [↓wP, wQ, wQ1, wQ2, wQ3, wR, boxE, partsOf, ↓reduceIte, Nat.reduceEqDiff, Nat.reduceAdd, Nat.reduceSub, Nat.reduceLeDiff, Nat.reduceLT, Nat.reduceMul, reduceCtorEq, Int.reduceBNe, Int.reduceBEq, Int.reduceLT, Int.reduceLE, Int.reduceGT, h2, h3, h4, h5, h6, hgt', wi, wj, x1, x2, x3, l1, l2, hat]
                refine ⟨((i2 + 1, j2 - 1), swp e i2 j2), by dsimp only; omega, rfl, rfl, by dsimp only; omega, by dsimp only; omega, by dsimp only; omega, by rw [swp_size, h10], h11.swp _ _, h12⟩
            · simp +contextual -implicitDefEqProofs (maxSteps := 2000000) only [↓wP, wQ, wQ1, wQ2, wQ3, wR, boxE, partsOf, ↓reduceIte, Nat.reduceEqDiff, Nat.reduceAdd, Nat.reduceSub, Nat.reduceLeDiff, Nat.reduceLT, Nat.reduceMul, reduceCtorEq, Int.reduceBNe, Int.reduceBEq, Int.reduceLT, Int.reduceLE, Int.reduceGT, h2, h3, h4, h5, h6]
              exact k8
          · simp +contextual -implicitDefEqProofs (maxSteps := 2000000) only [↓wP, wQ, wQ1, wQ2, wQ3, wR, boxE, partsOf, ↓reduceIte, Nat.reduceEqDiff, Nat.reduceAdd, Nat.reduceSub, Nat.reduceLeDiff, Nat.reduceLT, Nat.reduceMul, reduceCtorEq, Int.reduceBNe, Int.reduceBEq, Int.reduceLT, Int.reduceLE, Int.reduceGT, h2, h3, h4, h5, h6]
            omega
        · simp +contextual -implicitDefEqProofs (maxSteps := 2000000) only [↓wP, wQ, wQ1, wQ2, wQ3, wR, boxE, partsOf, ↓reduceIte, Nat.reduceEqDiff, Nat.reduceAdd, Nat.reduceSub, Nat.reduceLeDiff, Nat.reduceLT, Nat.reduceMul, reduceCtorEq, Int.reduceBNe, Int.reduceBEq, Int.reduceLT, Int.reduceLE, Int.reduceGT, h2, h3, h4, h5, h6]
          exact ⟨by omega, by omega, by omega, hs1, hat1⟩
    · simp +contextual -implicitDefEqProofs (maxSteps := 2000000) only [↓wP, wQ, wQ1, wQ2, wQ3, wR, boxE, partsOf, ↓reduceIte, Nat.reduceEqDiff, Nat.reduceAdd, Nat.reduceSub, Nat.reduceLeDiff, Nat.reduceLT, Nat.reduceMul, reduceCtorEq, Int.reduceBNe, Int.reduceBEq, Int.reduceLT, Int.reduceLE, Int.reduceGT, h2, h3, h4, h5, h6]
      exact k8
  · simp +contextual -implicitDefEqProofs (maxSteps := 2000000) only [↓wP, wQ, wQ1, wQ2, wQ3, wR, boxE, partsOf, ↓reduceIte, Nat.reduceEqDiff, Nat.reduceAdd, Nat.reduceSub, Nat.reduceLeDiff, Nat.reduceLT, Nat.reduceMul, reduceCtorEq, Int.reduceBNe, Int.reduceBEq, Int.reduceLT, Int.reduceLE, Int.reduceGT, h2, h3, h4, h5, h6]
    omega
end Go.Q.SZ
end

section
/- The first hits of a row: plain laws. -/
set_option linter.unusedSimpArgs false
set_option linter.unusedVariables false
namespace Go.Q.SZ
open Go.Q Go.Sort
theorem ah_iff (a b : Hit) : ahead a b = true ↔ (a.d < b.d ∨ (a.d = b.d ∧ a.id < b.id)) := by simp [ahead]
theorem ah_not (a b : Hit) : ahead a b = false ↔ ¬ (a.d < b.d ∨ (a.d = b.d ∧ a.id < b.id)) := by rw [← ah_iff, Bool.not_eq_true]
theorem swoA : SWO ahead where
  irrefl := fun x => by rw [ah_not]; omega
  trans := fun x y z h1 h2 => by rw [ah_iff] at *; omega
  ntrans := fun x y z h1 h2 => by rw [ah_not] at *; omega
theorem ah_anti {x y : Hit} (h1 : ahead x y = false) (h2 : ahead y x = false) : x = y := by
  rw [ah_not] at *
  obtain ⟨i, d⟩ := x
  obtain ⟨j, e⟩ := y
  simp only at *
  have : i = j := by omega
  have : d = e := by omega
  subst_vars
  rfl
def ins (h : Hit) : List Hit → List Hit
  | [] => [h]
  | x :: s => if ahead h x = true then h :: x :: s else x :: ins h s
def srt (l : List Hit) : List Hit := l.foldl (fun s h => ins h s) []
def fst' (k : Nat) (l : List Hit) : List Hit := (srt l).take k
def Srt (s : List Hit) : Prop := s.Pairwise fun a b => ahead b a = false
theorem ins_len (h : Hit) : ∀ s, (ins h s).length = s.length + 1
  | [] => rfl
  | x :: s => by
    unfold ins
    split
    · rfl
    · simp [ins_len h s]
theorem ins_perm (h : Hit) : ∀ s, (ins h s).Perm (h :: s)
  | [] => .refl _
  | x :: s => by
    unfold ins
    split
    · exact .refl _
    · exact ((ins_perm h s).cons x).trans (.swap h x s)
theorem ins_srt (h : Hit) : ∀ s, Srt s → Srt (ins h s)
  | [], _ => List.pairwise_singleton _ _
  | x :: s, hs => by
    unfold Srt at hs
    rw [List.pairwise_cons] at hs
    unfold ins
    split
    · rename_i hx
      refine List.pairwise_cons.2 ⟨fun y hy => ?_, List.pairwise_cons.2 hs⟩
      rcases List.mem_cons.1 hy with rfl | hy
      · exact swoA.asymm hx
      · have h1 := hs.1 y hy
        have h2 := swoA.asymm hx
        exact swoA.ntrans _ _ _ h1 h2
    · rename_i hx
      refine List.pairwise_cons.2 ⟨fun y hy => ?_, ins_srt h s hs.2⟩
      rcases List.mem_cons.1 ((ins_perm h s).mem_iff.1 hy) with rfl | hy
      · simpa using hx
      · exact hs.1 y hy
theorem fold_perm : ∀ (l s : List Hit), (l.foldl (fun s h => ins h s) s).Perm (s ++ l)
  | [], s => by simp
  | h :: l, s => by
    refine (fold_perm l (ins h s)).trans ?_
    refine ((ins_perm h s).append_right l).trans ?_
    simp only [List.cons_append]
    exact List.perm_middle.symm
theorem fold_srt : ∀ (l s : List Hit), Srt s → Srt (l.foldl (fun s h => ins h s) s)
  | [], s, h => h
  | x :: l, s, h => fold_srt l _ (ins_srt x s h)
theorem srt_perm (l : List Hit) : (srt l).Perm l := by simpa [srt] using fold_perm l []
theorem srt_srt (l : List Hit) : Srt (srt l) := fold_srt l [] List.Pairwise.nil
theorem srt_len (l : List Hit) : (srt l).length = l.length := (srt_perm l).length_eq
theorem srt_snoc (l : List Hit) (h : Hit) : srt (l ++ [h]) = ins h (srt l) := by simp [srt, List.foldl_append]
theorem fst_len (k : Nat) (l : List Hit) : (fst' k l).length = min k l.length := by simp [fst', srt_len]
theorem Srt.uniq : ∀ {s t : List Hit}, Srt s → Srt t → s.Perm t → s = t
  | [], t, _, _, h => (List.nil_perm.1 h).symm
  | x :: s, t, hs, ht, h => by
    cases t with
    | nil => exact absurd h.symm.nil_eq (by simp)
    | cons y t =>
      unfold Srt at hs ht
      rw [List.pairwise_cons] at hs ht
      have e : x = y := by
        rcases List.mem_cons.1 (h.mem_iff.1 (List.mem_cons_self (a := x) (l := s))) with e | e
        · exact e
        · rcases List.mem_cons.1 (h.mem_iff.2 (List.mem_cons_self (a := y) (l := t))) with e' | e'
          · exact e'.symm
          · exact ah_anti (ht.1 _ e) (hs.1 _ e')
      subst e
      rw [Srt.uniq hs.2 ht.2 (List.perm_cons x |>.1 h)]
theorem take_ins (h : Hit) : ∀ (k : Nat) (s : List Hit), (ins h s).take k = (ins h (s.take k)).take k
  | 0, s => by simp
  | k + 1, [] => by simp
  | k + 1, x :: s => by
    simp only [ins, List.take_succ_cons]
    split
    · simp only [List.take_succ_cons]
      cases k with
      | zero => simp
      | succ k => simp [List.take_take]
    · simp only [List.take_succ_cons]
      rw [take_ins h k s]
theorem fst_snoc (k : Nat) (l : List Hit) (h : Hit) : fst' k (l ++ [h]) = (ins h (fst' k l)).take k := by
  rw [fst', fst', srt_snoc, take_ins]
theorem Srt.take {s : List Hit} (h : Srt s) (k : Nat) : Srt (s.take k) := List.Pairwise.sublist (List.take_sublist k s) h
theorem fst_srt (k : Nat) (l : List Hit) : Srt (fst' k l) := (srt_srt l).take k
theorem ins_end (h : Hit) : ∀ s : List Hit, (∀ x ∈ s, ahead h x = false) → ins h s = s ++ [h]
  | [], _ => rfl
  | x :: s, hs => by
    unfold ins
    rw [if_neg (by simp [hs x (by simp)]), ins_end h s (fun y hy => hs y (by simp [hy]))]
    rfl
theorem fst_out {k : Nat} {l : List Hit} {h : Hit} (hk : (fst' k l).length = k) (hh : ∀ x ∈ fst' k l, ahead h x = false) : fst' k (l ++ [h]) = fst' k l := by
  rw [fst_snoc, ins_end h _ hh, List.take_left' hk]
def Hp (n : Nat) (e : Array Hit) : Prop := ∀ i, 0 < i → i < n → ahead e[(i - 1) / 2]! e[i]! = false
def HpUp (n j : Nat) (e : Array Hit) : Prop := (∀ i, 0 < i → i < n → i ≠ j → ahead e[(i - 1) / 2]! e[i]! = false) ∧
  ∀ i, 0 < i → i < n → (i - 1) / 2 = j → 0 < j → ahead e[(j - 1) / 2]! e[i]! = false
def HpDn (n i : Nat) (e : Array Hit) : Prop := (∀ c, 0 < c → c < n → (c - 1) / 2 ≠ i → ahead e[(c - 1) / 2]! e[c]! = false) ∧
  ∀ c, 0 < c → c < n → (c - 1) / 2 = i → 0 < i → ahead e[(i - 1) / 2]! e[c]! = false
theorem HpUp.stop {n j : Nat} {e : Array Hit} (h : HpUp n j e) (hs : j = 0 ∨ ahead e[(j - 1) / 2]! e[j]! = false) : Hp n e := by
  intro i h0 hn
  by_cases hi : i = j
  · subst hi
    rcases hs with hs | hs
    · omega
    · exact hs
  · exact h.1 i h0 hn hi
theorem HpUp.step {n j : Nat} {e : Array Hit} (h : HpUp n j e) (hj : 0 < j) (hn : j < n) (hz : n ≤ e.size) (hl : ahead e[(j - 1) / 2]! e[j]! = true) : HpUp n ((j - 1) / 2) (swp e ((j - 1) / 2) j) := by
  have hp : (j - 1) / 2 < j := by omega
  have g : ∀ k, (swp e ((j - 1) / 2) j)[k]! = if k = j then e[(j - 1) / 2]! else if k = (j - 1) / 2 then e[j]! else e[k]! := by
    intro k
    by_cases h1 : k = j
    · subst h1; rw [if_pos rfl, swp_right _ _ _ (by omega)]
    · by_cases h2 : k = (j - 1) / 2
      · rw [if_neg h1, if_pos h2, h2, swp_left _ _ _ (by omega) (by omega)]
      · rw [if_neg h1, if_neg h2, swp_other _ _ _ _ h2 h1]
  refine ⟨fun i h0 hi hne => ?_, fun i h0 hi hpi hp0 => ?_⟩
  · rw [g, g]
    by_cases h1 : i = j
    · subst h1
      rw [if_pos rfl, if_neg (by omega), if_pos rfl]
      exact swoA.asymm hl
    · rw [if_neg h1, if_neg hne]
      by_cases h2 : (i - 1) / 2 = j
      · rw [if_pos h2]; exact h.2 i h0 hi h2 hj
      · rw [if_neg h2]
        by_cases h3 : (i - 1) / 2 = (j - 1) / 2
        · rw [if_pos h3]
          have := h.1 i h0 hi h1
          rw [h3] at this
          exact swoA.ntrans _ _ _ (swoA.asymm hl) this
        · rw [if_neg h3]; exact h.1 i h0 hi h1
  · rw [g, g]
    have hpp := h.1 ((j - 1) / 2) hp0 (by omega) (by omega)
    rw [if_neg (show ¬ ((j - 1) / 2 - 1) / 2 = j by omega), if_neg (show ¬ ((j - 1) / 2 - 1) / 2 = (j - 1) / 2 by omega)]
    by_cases h1 : i = j
    · rw [if_pos h1]; exact hpp
    · rw [if_neg h1, if_neg (by omega)]
      have := h.1 i h0 hi h1
      rw [hpi] at this
      exact swoA.ntrans _ _ _ hpp this
theorem HpDn.step {n i j : Nat} {e : Array Hit} (h : HpDn n i e) (hji : (j - 1) / 2 = i) (hj : 0 < j) (hn : j < n) (hz : n ≤ e.size) (hl : ahead e[i]! e[j]! = true)
    (hb : ∀ c, 0 < c → c < n → (c - 1) / 2 = i → ahead e[j]! e[c]! = false) : HpDn n j (swp e i j) := by
  have hp : i < j := by omega
  have g : ∀ k, (swp e i j)[k]! = if k = j then e[i]! else if k = i then e[j]! else e[k]! := by
    intro k
    by_cases h1 : k = j
    · subst h1; rw [if_pos rfl, swp_right _ _ _ (by omega)]
    · by_cases h2 : k = i
      · rw [if_neg h1, if_pos h2, h2, swp_left _ _ _ (by omega) (by omega)]
      · rw [if_neg h1, if_neg h2, swp_other _ _ _ _ h2 h1]
  refine ⟨fun c h0 hc hne => ?_, fun c h0 hc hpc hp0 => ?_⟩
  · rw [g, g, if_neg hne]
    by_cases h1 : (c - 1) / 2 = i
    · rw [if_pos h1]
      by_cases h2 : c = j
      · rw [if_pos h2]; exact swoA.asymm hl
      · rw [if_neg h2, if_neg (by omega)]; exact hb c h0 hc h1
    · rw [if_neg h1]
      by_cases h2 : c = j
      · omega
      · rw [if_neg h2]
        by_cases h3 : c = i
        · rw [if_pos h3]
          subst h3
          exact h.2 j hj hn hji h0
        · rw [if_neg h3]; exact h.1 c h0 hc h1
  · rw [g, g, hji, if_neg (by omega), if_pos rfl, if_neg (by omega), if_neg (by omega)]
    have := h.1 c h0 hc (by omega)
    rw [hpc] at this
    exact this
theorem HpDn.stop {n i : Nat} {e : Array Hit} (h : HpDn n i e) (hs : ∀ c, 0 < c → c < n → (c - 1) / 2 = i → ahead e[i]! e[c]! = false) : Hp n e := by
  intro c h0 hc
  by_cases h1 : (c - 1) / 2 = i
  · rw [h1]; exact hs c h0 hc h1
  · exact h.1 c h0 hc h1
theorem Hp.max {n : Nat} {e : Array Hit} (h : Hp n e) : ∀ i, i < n → ahead e[0]! e[i]! = false := by
  intro i
  induction i using Nat.strongRecOn with
  | _ i ih =>
    intro hi
    by_cases h0 : i = 0
    · subst h0; exact swoA.irrefl _
    · exact swoA.ntrans _ _ _ (ih ((i - 1) / 2) (by omega) (by omega)) (h i (by omega) hi)
theorem Srt.last {s : List Hit} {m : Hit} (h : Srt (s ++ [m])) : ∀ x ∈ s, ahead m x = false := by
  intro x hx
  exact (List.pairwise_append.1 h).2.2 x hx m (by simp)
theorem drop_max {s t : List Hit} {m : Hit} (hs : Srt s) (hp : s.Perm (t ++ [m])) (hm : ∀ x ∈ t, ahead m x = false) : t.Perm (s.take t.length) := by
  have h1 : Srt (srt t ++ [m]) := by
    refine List.pairwise_append.2 ⟨srt_srt t, List.pairwise_singleton _ _, fun a ha b hb => ?_⟩
    rw [List.mem_singleton] at hb
    subst hb
    exact hm a ((srt_perm t).mem_iff.1 ha)
  have h2 : s = srt t ++ [m] := Srt.uniq hs h1 (hp.trans ((srt_perm t).symm.append_right [m]))
  rw [h2, List.take_left' (srt_len t)]
  exact (srt_perm t).symm
end Go.Q.SZ
end

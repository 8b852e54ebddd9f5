/- The compact code of this seat's functions, printed by a program. -/
import Derived.Test.YtppdkahgmojipaaQD
import Derived.Sort.AssemblyPlain
set_option linter.unusedVariables false
set_option linter.unusedSimpArgs false
set_option linter.unusedSectionVars false
set_option linter.defProp false
section
namespace Go.Q.SW
def zO (d : Nat) (x : AI) : AOp := ⟨some d, none, x⟩
def zN (x : AI) : AOp := ⟨none, none, x⟩
def zM (d s : Nat) : AOp := ⟨some d, none, .mov (.tmp s)⟩
def zL (d s : Nat) : AOp := ⟨some d, none, .load false 1 (.tmp s)⟩
def zG (d g : Nat) (b : Bool) (x : AI) : AOp := ⟨some d, some (g, b), x⟩
def zP (x : AOp) : DOp := ⟨x, true, false, false, 0, [], none⟩
def zQ (x : AOp) : DOp := ⟨x, false, false, false, 0, [], none⟩
def zI (n : Int) : Opd := .con (.int .i64 n)
def zA (x : List AOp) (y : AC) : AC := .seq (.reg x) y
def zT (n : Nat) : Opd := .tmp n
def zF : Opd := .con (.bool false)
def zB (d s : Nat) : DOp := zP (zM d s)
def zC (d : Nat) (n : Int) : AOp := zO d (.mov (zI n))
def zD (d s n : Nat) : AOp := zO d (.faddr (zT s) n)
def zE (d n s : Nat) : AOp := zO d (.load true n (zT s))
def zH (d s : Nat) : AOp := zO d (.len (zT s))
def zJ (d s : Nat) (n : Int) : AOp := zO d (.bin .add (zT s) (zI n))
def zK (d s : Nat) : AOp := zO d (.box (zT s))
def b5 : AC :=
 (zA [zO 6 (.mov zF)]
 (.seq (zA [zO 16 (.call 8 []),
 zO 17 (.un .not (zT 16))]
 (.cond (zT 17)
 (zA [zO 6 (.mov zF)]
 .ret)
 .skip))
 (zA [zM 18 0,
 zO 19 (.call 9 [(zT 18)]),
 zM 20 1,
 zO 21 (.call 14 [(zT 20)]),
 zM 7 19,
 zM 8 21]
 (zA [zM 23 7,
 zM 24 2,
 zM 25 8,
 zO 26 (.call 15 [(zT 23), (zT 24), (zT 25)]),
 zM 22 26,
 zO 27 (.ext (zT 22) 0),
 zO 28 (.ext (zT 22) 1),
 zM 9 27,
 zM 10 28]
 (.seq (zA [zM 29 10,
 zO 30 (.bin .neq (zT 29) (zI 0))]
 (.cond (zT 30)
 (zA [zM 31 9,
 zH 32 31,
 zO 33 (.bin .eql (zT 32) (zI 0)),
 zM 6 33]
 .ret)
 .skip))
 (zA [zM 35 7,
 zM 36 2,
 zM 37 9,
 zO 38 (.call 15 [(zT 35), (zT 36), (zT 37)]),
 zM 34 38,
 zO 39 (.ext (zT 34) 0),
 zO 40 (.ext (zT 34) 1),
 zM 11 39,
 zM 10 40]
 (zA [zM 42 2,
 zM 43 8,
 zO 44 (.call 15 [(.con .nilS), (zT 42), (zT 43)]),
 zM 41 44,
 zO 45 (.ext (zT 41) 0),
 zO 46 (.ext (zT 41) 1),
 zM 12 45,
 zM 13 46]
 (zA [zM 48 7,
 zM 49 2,
 zO 50 (.call 21 [(zT 48), (zT 49)]),
 zM 51 2,
 zM 52 8,
 zO 53 (.call 15 [(zT 50), (zT 51), (zT 52)]),
 zM 47 53,
 zO 54 (.ext (zT 47) 0),
 zO 55 (.ext (zT 47) 1),
 zM 14 54,
 zM 15 55]
 (zA [zM 56 10,
 zO 57 (.bin .eql (zT 56) (zI 0)),
 zM 58 57,
 zG 59 58 true (.mov (zT 13)),
 zG 60 58 true (.bin .eql (zT 59) (zI 0)),
 zO 61 (.pick (zT 58) (zT 60) zF),
 zM 62 61,
 zG 63 62 true (.mov (zT 15)),
 zG 64 62 true (.bin .eql (zT 63) (zI 0)),
 zO 65 (.pick (zT 62) (zT 64) zF),
 zM 66 65,
 zG 67 66 true (.mov (zT 9)),
 zG 68 66 true (.mov (zT 11)),
 zG 69 66 true (.call 22 [(zT 67), (zT 68)]),
 zO 70 (.pick (zT 66) (zT 69) zF),
 zM 71 70,
 zG 72 71 true (.mov (zT 12)),
 zG 73 71 true (.mov (zT 8)),
 zG 74 71 true (.call 22 [(zT 72), (zT 73)]),
 zO 75 (.pick (zT 71) (zT 74) zF),
 zM 76 75,
 zG 77 76 true (.mov (zT 14)),
 zG 78 76 true (.mov (zT 9)),
 zG 79 76 true (.call 22 [(zT 77), (zT 78)]),
 zO 80 (.pick (zT 76) (zT 79) zF),
 zM 6 80]
 .ret)))))))))
def g5 : Fn := ⟨3, 81, [.tmp 6], b5⟩
def b8 : AC :=
 (zA [zO 0 (.mov zF)]
 (zA [zO 7 (.lit 1 [(.con (.int .i32 7))]),
 zO 8 (.build [(.int .u64 0), .nilS] [(0, 1, (.con (.int .u64 5))), (1, 1, (zT 7))]),
 zO 9 (.call 32 [(.con .nilS), (zI 0), (zT 8)]),
 zM 6 9,
 zO 10 (.ext (zT 6) 0),
 zO 11 (.ext (zT 6) 1),
 zM 1 10,
 zM 2 11]
 (zA [zM 13 1,
 zO 14 (.lit 1 [(.con (.int .i32 1))]),
 zO 15 (.build [(.int .u64 0), .nilS] [(0, 1, (.con (.int .u64 3))), (1, 1, (zT 14))]),
 zO 16 (.lit 1 [(.con (.int .i32 2))]),
 zO 17 (.build [(.int .u64 0), .nilS] [(0, 1, (.con (.int .u64 5))), (1, 1, (zT 16))]),
 zO 18 (.lit 2 [(zT 15), (zT 17)]),
 zO 19 (.call 15 [(zT 13), (zI 0), (zT 18)]),
 zM 12 19,
 zO 20 (.ext (zT 12) 0),
 zO 21 (.ext (zT 12) 1),
 zM 3 20,
 zM 4 21]
 (zA [zM 23 1,
 zO 24 (.build [(.int .i64 0), (.int .u64 0), (.bool false), .nilS] [(1, 1, (.con (.int .u64 5)))]),
 zO 25 (.call 33 [(zT 23), (zT 24), zF]),
 zM 22 25,
 zO 26 (.ext (zT 22) 0),
 zO 27 (.ext (zT 22) 1),
 zM 1 26,
 zM 5 27]
 (zA [zM 28 2,
 zO 29 (.bin .eql (zT 28) (zI 0)),
 zM 30 29,
 zG 31 30 true (.mov (zT 4)),
 zG 32 30 true (.bin .eql (zT 31) (zI 0)),
 zO 33 (.pick (zT 30) (zT 32) zF),
 zM 34 33,
 zG 35 34 true (.mov (zT 5)),
 zG 36 34 true (.bin .eql (zT 35) (zI 0)),
 zO 37 (.pick (zT 34) (zT 36) zF),
 zM 38 37,
 zG 39 38 true (.mov (zT 3)),
 zG 40 38 true (.len (zT 39)),
 zG 41 38 true (.bin .eql (zT 40) (zI 2)),
 zO 42 (.pick (zT 38) (zT 41) zF),
 zM 43 42,
 zG 44 43 true (.mov (zT 3)),
 zG 45 43 true (.iaddr 2 (zT 44) (zI 1)),
 zG 46 43 true (.faddr (zT 45) 1),
 zG 47 43 true (.load false 1 (zT 46)),
 zG 48 43 true (.iaddr 1 (zT 47) (zI 0)),
 zG 49 43 true (.load false 1 (zT 48)),
 zG 50 43 true (.bin .eql (zT 49) (.con (.int .i32 7))),
 zO 51 (.pick (zT 43) (zT 50) zF),
 zM 52 51,
 zG 53 52 true (.mov (zT 1)),
 zG 54 52 true (.len (zT 53)),
 zG 55 52 true (.bin .eql (zT 54) (zI 0)),
 zO 56 (.pick (zT 52) (zT 55) zF),
 zM 0 56]
 .ret)))))
def g8 : Fn := ⟨0, 57, [.tmp 0], b8⟩
def b9 : AC :=
 (zA [zO 2 (.mov (.con .nilS))]
 (zA [zO 3 (.mov (.con .nilS))]
 (.seq (zA [zM 6 0,
 zH 7 6,
 zC 8 0]
 (.block 0 (.loop (zA [zO 9 (.bin .lss (zT 8) (zT 7))]
 (.seq (.cond (zT 9)
 .skip
 (.exit 0))
 (.seq (.block 1 (zA [zM 10 8,
 zO 11 (.iaddr 4 (zT 6) (zT 8)),
 zE 12 4 11,
 zO 5 (.alloc (.agg [(.int .i64 0), (.int .u64 0), (.bool false), .nilS])),
 zM 4 10,
 zN (.store 4 (zT 5) (zT 12))]
 (zA [zM 13 4,
 zO 14 (.bin .leq (zT 13) (zI 12))]
 (.cond (zT 14)
 (zA [zD 15 5 3,
 zL 16 15,
 zO 17 (.call 27 [(zT 16)]),
 zD 18 5 3,
 zN (.store 1 (zT 18) (zT 17))]
 (.reg [zM 19 3,
 zE 20 4 5,
 zO 21 (.lit 4 [(zT 20)]),
 zO 22 (.append 4 48 (zT 19) (zT 21)),
 zM 3 22]))
 .skip))))
 (.reg [zJ 23 8 1,
 zM 8 23])))))))
 (zA [zM 24 3,
 zM 2 24]
 .ret))))
def g9 : Fn := ⟨1, 25, [.tmp 2], b9⟩
def b14 : AC :=
 (zA [zO 2 (.mov (.con .nilS))]
 (zA [zO 3 (.mov (.con .nilS))]
 (.seq (zA [zM 6 0,
 zH 7 6,
 zC 8 0]
 (.block 0 (.loop (zA [zO 9 (.bin .lss (zT 8) (zT 7))]
 (.seq (.cond (zT 9)
 .skip
 (.exit 0))
 (.seq (.block 1 (zA [zM 10 8,
 zO 11 (.iaddr 2 (zT 6) (zT 8)),
 zE 12 2 11,
 zO 5 (.alloc (.agg [(.int .u64 0), .nilS])),
 zM 4 10,
 zN (.store 2 (zT 5) (zT 12))]
 (zA [zM 13 4,
 zO 14 (.bin .lss (zT 13) (zI 40))]
 (.cond (zT 14)
 (.regd [⟨[zB 15 3,
 zP (zD 16 5 0),
 zQ (zL 17 16),
 zP (zD 18 5 1),
 zQ (zL 19 18),
 zQ (zO 20 (.call 27 [(zT 19)])),
 zP (zO 21 (.build [(.int .u64 0), .nilS] [(0, 1, (zT 17)), (1, 1, (zT 20))])),
 ⟨zO 22 (.lit 2 [(zT 21)]), false, false, true, 0, [], none⟩], 1, [zO 23 (.append 2 32 (zT 15) (zT 22)),
 zM 3 23]⟩])
 .skip))))
 (.reg [zJ 24 8 1,
 zM 8 24])))))))
 (zA [zM 25 3,
 zM 2 25]
 .ret))))
def g14 : Fn := ⟨1, 26, [.tmp 2], b14⟩
def b15 : AC :=
 (zA [zO 6 (.mov (.con .nilS)),
 zC 7 0]
 (.seq (zA [zM 13 0,
 zO 14 (.call 25 [(zT 13)]),
 zM 8 14]
 (zA [zM 15 8,
 zO 16 (.bin .neq (zT 15) (zI 0))]
 (.cond (zT 16)
 (zA [zM 17 8,
 zO 6 (.mov (.con .nilS)),
 zM 7 17]
 .ret)
 .skip)))
 (.seq (zA [zM 18 1,
 zO 19 (.call 37 [(zT 18)]),
 zO 20 (.un .not (zT 19))]
 (.cond (zT 20)
 (zA [zO 6 (.mov (.con .nilS)),
 zC 7 2]
 .ret)
 .skip))
 (.seq (zA [zM 21 2,
 zH 22 21,
 zC 23 0]
 (.block 0 (.loop (zA [zO 24 (.bin .lss (zT 23) (zT 22))]
 (.seq (.cond (zT 24)
 .skip
 (.exit 0))
 (.seq (.block 1 (zA [zM 25 23,
 zO 26 (.iaddr 2 (zT 21) (zT 23)),
 zE 27 2 26,
 zO 10 (.alloc (.agg [(.int .u64 0), .nilS])),
 zM 9 25,
 zN (.store 2 (zT 10) (zT 27))]
 (.seq (.regd [⟨[], 0, [zD 28 10 1,
 zL 29 28,
 zO 30 (.call 38 [(zT 29)]),
 zO 31 (.bin .neq (zT 30) (zI 0)),
 zM 32 31,
 zG 33 32 false (.mov (zT 9)),
 zG 34 32 false (.bin .gtr (zT 33) (zI 0)),
 zG 35 32 false (.mov (zT 34))]⟩,
 ⟨[zP (zG 36 35 true (.mov (zT 2))),
 zP (zG 37 35 true (.mov (zT 9))),
 zP (zG 38 35 true (.bin .sub (zT 37) (zI 1))),
 zP (zG 39 35 true (.iaddr 2 (zT 36) (zT 38))),
 zP (zG 40 35 true (.faddr (zT 39) 0)),
 zQ (zG 41 35 true (.load false 1 (zT 40))),
 zP (zG 42 35 true (.faddr (zT 10) 0)),
 zQ (zG 43 35 true (.load false 1 (zT 42)))], 0, [zG 44 35 true (.bin .geq (zT 41) (zT 43)),
 zG 45 32 false (.pick (zT 35) (zT 44) zF),
 zO 46 (.pick (zT 32) (.con (.bool true)) (zT 45))]⟩])
 (.cond (zT 46)
 (zA [zO 6 (.mov (.con .nilS)),
 zC 7 170]
 .ret)
 .skip))))
 (.reg [zJ 47 23 1,
 zM 23 47])))))))
 (zA [zO 11 (.alloc .nilS)]
 (.seq (zA [zM 48 0,
 zM 49 1,
 zO 50 (.call 21 [(zT 48), (zT 49)]),
 zM 51 2,
 zO 52 (.call 39 [(zT 50), (zT 51)])]
 (.block 2 (.rangeF (zT 52) [53]
 (.reg [zO 12 (.alloc (.agg [(.int .u64 0), .nilS])),
 zN (.store 2 (zT 12) (zT 53))])
 (.block 3 (.regd [⟨[⟨zL 54 11, false, false, false, 0, [0], none⟩,
 zP (zD 55 12 0),
 zQ (zL 56 55),
 zP (zD 57 12 1),
 zQ (zL 58 57),
 zQ (zO 59 (.call 40 [(zT 58)])),
 zP (zO 60 (.build [(.int .u64 0), .nilS] [(0, 1, (zT 56)), (1, 1, (zT 59))])),
 ⟨zO 61 (.lit 2 [(zT 60)]), false, false, true, 0, [], none⟩], 1, [zO 62 (.append 2 32 (zT 54) (zT 61)),
 zN (.store 1 (zT 11) (zT 62))]⟩])))))
 (zA [zL 63 11,
 zO 64 (.call 41 [(zT 63), (.con (.fn 42 []))])]
 (zA [zL 65 11,
 zM 6 65,
 zC 7 0]
 .ret))))))))
def g15 : Fn := ⟨3, 66, [.tmp 6, .tmp 7], b15⟩
def b21 : AC :=
 (zA [zO 4 (.mov (.con .nilS))]
 (.seq (zA [zM 8 0,
 zO 9 (.call 25 [(zT 8)]),
 zO 10 (.bin .neq (zT 9) (zI 0))]
 (.cond (zT 10)
 (zA [zO 4 (.mov (.con .nilS))]
 .ret)
 .skip))
 (zA [zO 5 (.mov (.con .nilS))]
 (.seq (zA [zM 11 0,
 zH 12 11,
 zC 13 0]
 (.block 0 (.loop (zA [zO 14 (.bin .lss (zT 13) (zT 12))]
 (.seq (.cond (zT 14)
 .skip
 (.exit 0))
 (.seq (.block 1 (zA [zO 15 (.iaddr 4 (zT 11) (zT 13)),
 zE 16 4 15,
 zO 7 (.alloc (.agg [(.int .i64 0), (.int .u64 0), (.bool false), .nilS])),
 zN (.store 4 (zT 7) (zT 16))]
 (zA [zD 17 7 0,
 zL 18 17,
 zM 19 1,
 zO 20 (.bin .eql (zT 18) (zT 19))]
 (.cond (zT 20)
 (.reg [zM 21 5,
 zE 22 4 7,
 zO 23 (.lit 4 [(zT 22)]),
 zO 24 (.append 4 48 (zT 21) (zT 23)),
 zM 5 24])
 .skip))))
 (.reg [zJ 25 13 1,
 zM 13 25])))))))
 (zA [zM 26 5,
 zM 4 26]
 .ret)))))
def g21 : Fn := ⟨2, 27, [.tmp 4], b21⟩
def b22 : AC :=
 (zA [zO 4 (.mov zF)]
 (.seq (zA [zM 6 0,
 zH 7 6,
 zM 8 1,
 zH 9 8,
 zO 10 (.bin .neq (zT 7) (zT 9))]
 (.cond (zT 10)
 (zA [zO 4 (.mov zF)]
 .ret)
 .skip))
 (.seq (zA [zM 11 0,
 zH 12 11,
 zC 13 0]
 (.block 0 (.loop (zA [zO 14 (.bin .lss (zT 13) (zT 12))]
 (.seq (.cond (zT 14)
 .skip
 (.exit 0))
 (.seq (.block 1 (zA [zM 15 13,
 zM 5 15]
 (.seq (.regd [⟨[zB 16 0,
 zB 17 5,
 zP (zO 18 (.iaddr 2 (zT 16) (zT 17))),
 zQ (zE 19 2 18),
 zB 20 1,
 zB 21 5,
 zP (zO 22 (.iaddr 2 (zT 20) (zT 21))),
 zQ (zE 23 2 22)], 0, [zO 24 (.call 26 [(zT 19), (zT 23)]),
 zO 25 (.un .not (zT 24))]⟩])
 (.cond (zT 25)
 (zA [zO 4 (.mov zF)]
 .ret)
 .skip))))
 (.reg [zJ 26 13 1,
 zM 13 26])))))))
 (zA [zO 4 (.mov (.con (.bool true)))]
 .ret))))
def g22 : Fn := ⟨2, 27, [.tmp 4], b22⟩
def b25 : AC :=
 (zA [zC 2 0]
 (zA [zM 6 0,
 zH 7 6,
 zO 8 (.bin .leq (zT 7) (zI 12)),
 zM 3 8]
 (.seq (zA [zM 9 0,
 zH 10 9,
 zC 11 0]
 (.block 0 (.loop (zA [zO 12 (.bin .lss (zT 11) (zT 10))]
 (.seq (.cond (zT 12)
 .skip
 (.exit 0))
 (.seq (.block 1 (zA [zM 13 11,
 zO 14 (.iaddr 4 (zT 9) (zT 11)),
 zE 15 4 14,
 zO 5 (.alloc (.agg [(.int .i64 0), (.int .u64 0), (.bool false), .nilS])),
 zM 4 13,
 zN (.store 4 (zT 5) (zT 15))]
 (.regd [⟨[], 0, [zM 16 3,
 zM 17 16,
 zG 18 17 true (.load true 4 (zT 5)),
 zG 19 17 true (.call 46 [(zT 18)]),
 zO 20 (.pick (zT 17) (zT 19) zF),
 zM 21 20,
 zG 22 21 true (.mov (zT 4)),
 zG 23 21 true (.bin .eql (zT 22) (zI 0)),
 zG 24 21 true (.mov (zT 23))]⟩,
 ⟨[zP (zG 25 24 false (.mov (zT 0))),
 zP (zG 26 24 false (.mov (zT 4))),
 zP (zG 27 24 false (.bin .sub (zT 26) (zI 1))),
 zP (zG 28 24 false (.iaddr 4 (zT 25) (zT 27))),
 zQ (zG 29 24 false (.load true 4 (zT 28))),
 zQ (zG 30 24 false (.load true 4 (zT 5)))], 0, [zG 31 24 false (.call 47 [(zT 29), (zT 30)]),
 zG 32 24 false (.bin .lss (zT 31) (zI 0)),
 zG 33 21 true (.pick (zT 24) (.con (.bool true)) (zT 32)),
 zO 34 (.pick (zT 21) (zT 33) zF),
 zM 3 34]⟩])))
 (.reg [zJ 35 11 1,
 zM 11 35])))))))
 (.seq (zA [zM 36 3,
 zO 37 (.un .not (zT 36))]
 (.cond (zT 37)
 (zA [zC 2 260]
 .ret)
 .skip))
 (zA [zC 2 0]
 .ret)))))
def g25 : Fn := ⟨1, 38, [.tmp 2], b25⟩
def b26 : AC :=
 (zA [zK 2 0,
 zK 3 1,
 zO 4 (.mov zF)]
 (zA [zD 5 2 0,
 zL 6 5,
 zD 7 3 0,
 zL 8 7,
 zO 9 (.bin .eql (zT 6) (zT 8)),
 zM 10 9,
 zG 11 10 true (.faddr (zT 2) 1),
 zG 12 10 true (.load false 1 (zT 11)),
 zG 13 10 true (.faddr (zT 3) 1),
 zG 14 10 true (.load false 1 (zT 13)),
 zG 15 10 true (.call 48 [(zT 12), (zT 14)]),
 zO 16 (.pick (zT 10) (zT 15) zF),
 zM 4 16]
 .ret))
def g26 : Fn := ⟨2, 17, [.tmp 4], b26⟩
def b27 : AC :=
 (zA [zO 2 (.mov (.con .nilS))]
 (zA [zO 3 (.lit 1 []),
 zM 4 0,
 zM 5 0,
 zH 6 5,
 zO 7 (.min [(zT 6), (zI 5)]),
 zO 8 (.slice 1 (zT 4) none (some (zT 7))),
 zO 9 (.append 1 4 (zT 3) (zT 8)),
 zM 2 9]
 .ret))
def g27 : Fn := ⟨1, 10, [.tmp 2], b27⟩
def b32 : AC :=
 (zA [zK 5 2,
 zO 6 (.mov (.con .nilS)),
 zC 7 0]
 (.seq (.regd [⟨[zB 9 1,
 zP (zD 10 5 0),
 ⟨zL 11 10, false, false, false, 0, [0], none⟩,
 zP (zD 12 5 1),
 ⟨zL 13 12, false, false, false, 0, [0], none⟩,
 ⟨zO 14 (.call 40 [(zT 13)]), false, false, false, 0, [0], none⟩,
 zP (zO 15 (.build [(.int .i64 0), (.int .u64 0), (.bool false), .nilS] [(0, 1, (zT 9)), (1, 1, (zT 11)), (3, 1, (zT 14))])),
 ⟨zO 8 (.alloc (.agg [(.int .i64 0), (.int .u64 0), (.bool false), .nilS])), false, false, true, 0, [], none⟩], 1, [zN (.store 4 (zT 8) (zT 15))]⟩])
 (zA [zM 16 0,
 zE 17 4 8,
 zO 18 (.mkfn 53 [(zT 5), (zT 8)]),
 zO 19 (.call 52 [(zT 16), (zT 17), (zT 18)]),
 zO 20 (.ext (zT 19) 0),
 zO 21 (.ext (zT 19) 1),
 zM 6 20,
 zM 7 21]
 .ret)))
def g32 : Fn := ⟨3, 22, [.tmp 6, .tmp 7], b32⟩
def b33 : AC :=
 (zA [zK 4 1,
 zK 5 2,
 zO 6 (.mov (.con .nilS)),
 zC 7 0]
 (zA [zM 8 0,
 zE 9 4 4,
 zO 10 (.mkfn 55 [(zT 5), (zT 4)]),
 zO 11 (.call 52 [(zT 8), (zT 9), (zT 10)]),
 zO 12 (.ext (zT 11) 0),
 zO 13 (.ext (zT 11) 1),
 zM 6 12,
 zM 7 13]
 .ret))
def g33 : Fn := ⟨3, 14, [.tmp 6, .tmp 7], b33⟩
def b37 : AC :=
 (zA [zO 2 (.mov zF)]
 (zA [zM 3 0,
 zO 4 (.bin .geq (zT 3) (zI 0)),
 zM 5 4,
 zG 6 5 true (.mov (zT 0)),
 zG 7 5 true (.bin .lss (zT 6) (zI 3)),
 zO 8 (.pick (zT 5) (zT 7) zF),
 zM 2 8]
 .ret))
def g37 : Fn := ⟨1, 9, [.tmp 2], b37⟩
def b38 : AC :=
 (zA [zC 2 0]
 (zA [zO 3 (.mov (.con (.fn 59 [])))]
 (.seq (zA [zM 4 0,
 zH 5 4,
 zO 6 (.bin .lss (zT 5) (zI 1)),
 zM 7 6,
 zG 8 7 false (.mov (zT 0)),
 zG 9 7 false (.len (zT 8)),
 zG 10 7 false (.bin .gtr (zT 9) (zI 4)),
 zO 11 (.pick (zT 7) (.con (.bool true)) (zT 10)),
 zM 12 11,
 zG 13 12 false (.mov (zT 0)),
 zG 14 12 false (.mov (zT 3)),
 zG 15 12 false (.call 60 [(zT 13), (zT 14)]),
 zO 16 (.pick (zT 12) (.con (.bool true)) (zT 15))]
 (.cond (zT 16)
 (zA [zC 2 150]
 .ret)
 .skip))
 (zA [zC 2 0]
 .ret))))
def g38 : Fn := ⟨1, 17, [.tmp 2], b38⟩
def b39 : AC :=
 (zA [zK 2 0,
 zK 3 1,
 zO 4 (.mov (.con .nilF))]
 (zA [zO 8 (.mkmap),
 zO 5 (.alloc .nilM),
 zN (.store 1 (zT 5) (zT 8))]
 (.seq (zA [zL 9 2,
 zH 10 9,
 zC 11 0]
 (.block 0 (.loop (zA [zO 12 (.bin .lss (zT 11) (zT 10))]
 (.seq (.cond (zT 12)
 .skip
 (.exit 0))
 (.seq (.block 1 (zA [zO 13 (.iaddr 4 (zT 9) (zT 11)),
 zE 14 4 13,
 zO 7 (.alloc (.agg [(.int .i64 0), (.int .u64 0), (.bool false), .nilS])),
 zN (.store 4 (zT 7) (zT 14))]
 (.reg [zL 15 5,
 zD 16 7 1,
 zL 17 16,
 zN (.mupd (.one .int) (zT 15) (zT 17) (.con (.bool true)))])))
 (.reg [zJ 18 11 1,
 zM 11 18])))))))
 (zA [zO 19 (.mkfn 61 [(zT 3), (zT 5), (zT 2)]),
 zM 4 19]
 .ret))))
def g39 : Fn := ⟨2, 20, [.tmp 4], b39⟩
def b40 : AC :=
 (zA [zO 2 (.mov (.con .nilS))]
 (.seq (zA [zM 3 0,
 zO 4 (.eqN false (zT 3))]
 (.cond (zT 4)
 (zA [zO 2 (.mov (.con .nilS))]
 .ret)
 .skip))
 (zA [zO 5 (.lit 1 []),
 zM 6 0,
 zO 7 (.append 1 4 (zT 5) (zT 6)),
 zM 2 7]
 .ret)))
def g40 : Fn := ⟨1, 8, [.tmp 2], b40⟩
def b41 : AC :=
 (zA [zM 5 0,
 zH 6 5,
 zM 4 6]
 (.reg [zM 7 0,
 zM 8 4,
 zM 9 4,
 zO 10 (.conv .u64 (zT 9)),
 zO 11 (.call 63 [(zT 10)]),
 zM 12 1,
 zO 13 (.call 62 [(zT 7), (zI 0), (zT 8), (zT 11), (zT 12)])]))
def g41 : Fn := ⟨2, 14, [], b41⟩
def b42 : AC :=
 (zA [zK 2 0,
 zK 3 1,
 zC 4 0]
 (zA [zD 5 2 0,
 zL 6 5,
 zD 7 3 0,
 zL 8 7,
 zO 9 (.call 43 [(zT 6), (zT 8)]),
 zM 4 9]
 .ret))
def g42 : Fn := ⟨2, 10, [.tmp 4], b42⟩
def b43 : AC :=
 (zA [zC 4 0]
 (zA [zM 7 0,
 zO 8 (.call 64 [(zT 7)]),
 zM 5 8]
 (zA [zM 9 1,
 zO 10 (.call 64 [(zT 9)]),
 zM 6 10]
 (.seq (zA [zM 11 5]
 (.cond (zT 11)
 (.seq (zA [zM 12 6]
 (.cond (zT 12)
 (zA [zC 4 0]
 .ret)
 .skip))
 (zA [zC 4 (-1)]
 .ret))
 .skip))
 (.seq (zA [zM 13 6]
 (.cond (zT 13)
 (zA [zC 4 1]
 .ret)
 .skip))
 (.seq (zA [zM 14 0,
 zM 15 1,
 zO 16 (.bin .lss (zT 14) (zT 15))]
 (.cond (zT 16)
 (zA [zC 4 (-1)]
 .ret)
 .skip))
 (.seq (zA [zM 17 0,
 zM 18 1,
 zO 19 (.bin .gtr (zT 17) (zT 18))]
 (.cond (zT 19)
 (zA [zC 4 1]
 .ret)
 .skip))
 (zA [zC 4 0]
 .ret))))))))
def g43 : Fn := ⟨2, 20, [.tmp 4], b43⟩
def b46 : AC :=
 (zA [zK 1 0,
 zO 2 (.mov zF)]
 (zA [zD 3 1 0,
 zL 4 3,
 zO 5 (.call 37 [(zT 4)]),
 zM 6 5,
 zG 7 6 true (.faddr (zT 1) 2),
 zG 8 6 true (.load false 1 (zT 7)),
 zG 9 6 true (.mov (zT 8)),
 zG 10 9 true (.faddr (zT 1) 3),
 zG 11 9 true (.load false 1 (zT 10)),
 zG 12 9 true (.len (zT 11)),
 zG 13 9 true (.bin .eql (zT 12) (zI 0)),
 zG 14 6 true (.pick (zT 9) (zT 13) zF),
 zG 15 6 true (.mov (zT 14)),
 zG 16 15 false (.faddr (zT 1) 2),
 zG 17 15 false (.load false 1 (zT 16)),
 zG 18 15 false (.un .not (zT 17)),
 zG 19 15 false (.mov (zT 18)),
 zG 20 19 true (.faddr (zT 1) 3),
 zG 21 19 true (.load false 1 (zT 20)),
 zG 22 19 true (.call 38 [(zT 21)]),
 zG 23 19 true (.bin .eql (zT 22) (zI 0)),
 zG 24 15 false (.pick (zT 19) (zT 23) zF),
 zG 25 6 true (.pick (zT 15) (.con (.bool true)) (zT 24)),
 zO 26 (.pick (zT 6) (zT 25) zF),
 zM 2 26]
 .ret))
def g46 : Fn := ⟨1, 27, [.tmp 2], b46⟩
def b47 : AC :=
 (zA [zK 2 0,
 zK 3 1,
 zC 4 0]
 (.seq (.regd [⟨[zP (zD 5 2 0),
 zQ (zL 6 5),
 zP (zD 7 3 0),
 zQ (zL 8 7),
 zQ (zO 9 (.call 66 [(zT 6), (zT 8)])),
 zP (zD 10 2 1),
 zQ (zL 11 10),
 zP (zD 12 3 1),
 zQ (zL 13 12)], 0, [zO 14 (.call 43 [(zT 11), (zT 13)]),
 zO 15 (.lit 1 [(zT 9), (zT 14)]),
 zO 16 (.call 65 [(zT 15)]),
 zM 4 16]⟩])
 .ret))
def g47 : Fn := ⟨2, 17, [.tmp 4], b47⟩
def b48 : AC :=
 (zA [zO 4 (.mov zF)]
 (zA [zM 5 0,
 zM 6 1,
 zO 7 (.call 67 [(zT 5), (zT 6)]),
 zM 4 7]
 .ret))
def g48 : Fn := ⟨2, 8, [.tmp 4], b48⟩
def b49 : AC :=
 (zA [zK 4 1,
 zC 6 0,
 zO 7 (.mov zF)]
 (zA [zM 12 0,
 zH 13 12,
 zM 8 13]
 (zA [zM 14 8,
 zC 9 0,
 zM 10 14]
 (.seq (.block 0 (.loop (.seq (zA [zM 15 9,
 zM 16 10,
 zO 17 (.bin .lss (zT 15) (zT 16))]
 (.cond (zT 17)
 .skip
 (.exit 0)))
 (.block 1 (zA [zM 18 9,
 zM 19 10,
 zO 20 (.bin .add (zT 18) (zT 19)),
 zO 21 (.conv .u64 (zT 20)),
 zO 22 (.bin .shr (zT 21) (.con (.int .u64 1))),
 zO 23 (.conv .i64 (zT 22)),
 zM 11 23]
 (.seq (.regd [⟨[zB 24 2,
 zB 25 0,
 zB 26 11,
 zP (zO 27 (.iaddr 4 (zT 25) (zT 26))),
 zQ (zE 28 4 27),
 zQ (zE 29 4 4)], 0, [zO 30 (.callv (zT 24) [(zT 28), (zT 29)]),
 zO 31 (.bin .lss (zT 30) (zI 0))]⟩])
 (.cond (zT 31)
 (.reg [zM 32 11,
 zJ 33 32 1,
 zM 9 33])
 (.reg [zM 34 11,
 zM 10 34]))))))))
 (.seq (.regd [⟨[zB 35 9,
 zB 36 9,
 zB 37 8,
 zP (zO 38 (.bin .lss (zT 36) (zT 37))),
 zB 39 38,
 zP (zG 40 39 true (.mov (zT 2))),
 zP (zG 41 39 true (.mov (zT 0))),
 zP (zG 42 39 true (.mov (zT 9))),
 zP (zG 43 39 true (.iaddr 4 (zT 41) (zT 42))),
 zQ (zG 44 39 true (.load true 4 (zT 43))),
 zQ (zG 45 39 true (.load true 4 (zT 4))),
 zQ (zG 46 39 true (.callv (zT 40) [(zT 44), (zT 45)])),
 zP (zG 47 39 true (.bin .eql (zT 46) (zI 0))),
 zP (zO 48 (.pick (zT 39) (zT 47) zF)),
 zB 6 35], 0, [zM 7 48]⟩])
 .ret)))))
def g49 : Fn := ⟨3, 49, [.tmp 6, .tmp 7], b49⟩
def b52 : AC :=
 (zA [zK 4 1,
 zO 6 (.mov (.con .nilS)),
 zC 7 0]
 (.seq (zA [zM 12 0,
 zO 13 (.call 25 [(zT 12)]),
 zM 8 13]
 (zA [zM 14 8,
 zO 15 (.bin .neq (zT 14) (zI 0))]
 (.cond (zT 15)
 (zA [zM 16 8,
 zO 6 (.mov (.con .nilS)),
 zM 7 16]
 .ret)
 .skip)))
 (.seq (zA [zD 17 4 0,
 zL 18 17,
 zO 19 (.call 37 [(zT 18)]),
 zO 20 (.un .not (zT 19))]
 (.cond (zT 20)
 (zA [zO 6 (.mov (.con .nilS)),
 zC 7 2]
 .ret)
 .skip))
 (zA [zM 21 0,
 zO 22 (.call 68 [(zT 21)]),
 zO 23 (.build [.nilS, (.int .i64 0), (.bool false)] [(0, 1, (zT 22))]),
 zK 24 23,
 zM 9 24]
 (.seq (zA [zM 25 9,
 zO 26 (.nilck (zT 25)),
 zD 27 26 0,
 zL 28 27,
 zH 29 28,
 zC 30 0]
 (.block 0 (.loop (zA [zO 31 (.bin .lss (zT 30) (zT 29))]
 (.seq (.cond (zT 31)
 .skip
 (.exit 0))
 (.seq (.block 1 (zA [zM 32 30,
 zM 10 32]
 (.regd [⟨[zB 33 9,
 zP (zO 34 (.nilck (zT 33))),
 zP (zD 35 34 0),
 zQ (zL 36 35),
 zB 37 10,
 zB 38 9,
 zP (zO 39 (.nilck (zT 38))),
 zP (zD 40 39 0),
 zQ (zL 41 40),
 zB 42 10,
 zP (zO 43 (.iaddr 4 (zT 41) (zT 42))),
 zP (zD 44 43 3),
 zQ (zL 45 44),
 zQ (zO 46 (.call 40 [(zT 45)]))], 0, [zO 47 (.iaddr 4 (zT 36) (zT 37)),
 zD 48 47 3,
 zN (.store 1 (zT 48) (zT 46))]⟩])))
 (.reg [zJ 49 30 1,
 zM 30 49])))))))
 (.seq (.regd [⟨[zB 51 9,
 zB 52 9,
 zB 53 9,
 zP (zO 54 (.nilck (zT 53))),
 zP (zD 55 54 0),
 zQ (zL 56 55),
 zQ (zE 57 4 4),
 zQ (zO 58 (.call 49 [(zT 56), (zT 57), (.con (.fn 47 []))])),
 zB 50 58,
 zP (zO 59 (.ext (zT 50) 0)),
 zP (zO 60 (.ext (zT 50) 1)),
 zP (zO 61 (.nilck (zT 51))),
 zP (zD 62 61 1),
 ⟨zN (.store 1 (zT 62) (zT 59)), false, true, false, 0, [], none⟩], 0, [zO 63 (.nilck (zT 52)),
 zD 64 63 2,
 zN (.store 1 (zT 64) (zT 60))]⟩])
 (.seq (zA [zM 65 2,
 zM 66 9,
 zO 67 (.callv (zT 65) [(zT 66)]),
 zM 11 67]
 (zA [zM 68 11,
 zO 69 (.bin .neq (zT 68) (zI 0))]
 (.cond (zT 69)
 (zA [zM 70 11,
 zO 6 (.mov (.con .nilS)),
 zM 7 70]
 .ret)
 .skip)))
 (zA [zM 71 9,
 zO 72 (.nilck (zT 71)),
 zD 73 72 0,
 zL 74 73,
 zM 6 74,
 zC 7 0]
 .ret))))))))
def g52 : Fn := ⟨3, 75, [.tmp 6, .tmp 7], b52⟩
def b53 : AC :=
 (zA [zC 4 0]
 (.seq (zA [zD 6 1 1,
 zL 7 6,
 zO 8 (.call 38 [(zT 7)]),
 zM 5 8]
 (zA [zM 9 5,
 zO 10 (.bin .neq (zT 9) (zI 0))]
 (.cond (zT 10)
 (zA [zM 11 5,
 zM 4 11]
 .ret)
 .skip)))
 (zA [zM 12 0,
 zE 13 4 2,
 zO 14 (.call 54 [(zT 12), (zT 13)]),
 zM 4 14]
 .ret)))
def g53 : Fn := ⟨3, 15, [.tmp 4], b53⟩
def b54 : AC :=
 (zA [zK 3 1,
 zC 4 0]
 (.seq (.block 0 (zA [zM 20 0,
 zO 21 (.nilck (zT 20)),
 zD 22 21 2,
 zL 23 22,
 zM 19 23]
 (.cond (zT 19)
 (.regd [⟨[zB 24 0,
 zP (zO 25 (.nilck (zT 24))),
 zP (zD 26 25 0),
 zQ (zL 27 26),
 zB 28 0,
 zP (zO 29 (.nilck (zT 28))),
 zP (zD 30 29 1),
 zQ (zL 31 30),
 zQ (zE 32 4 3)], 0, [zO 33 (.iaddr 4 (zT 27) (zT 31)),
 zN (.store 4 (zT 33) (zT 32))]⟩])
 (zA [zM 35 0,
 zO 36 (.nilck (zT 35)),
 zD 37 36 0,
 zL 38 37,
 zH 39 38,
 zO 40 (.bin .eql (zT 39) (zI 12)),
 zM 34 40]
 (.cond (zT 34)
 (zA [zC 4 6]
 .ret)
 (.regd [⟨[zB 5 0,
 zB 6 0,
 zP (zO 7 (.nilck (zT 6))),
 zP (zD 8 7 0),
 ⟨zL 9 8, false, false, false, 0, [0], none⟩,
 zB 10 0,
 zP (zO 11 (.nilck (zT 10))),
 zP (zD 12 11 1),
 ⟨zL 13 12, false, false, false, 0, [0], none⟩,
 zQ (zE 14 4 3),
 ⟨zO 15 (.lit 4 [(zT 14)]), false, false, true, 0, [], none⟩,
 ⟨zO 16 (.prim 69 [(zT 9), (zT 13), (zT 15)]), false, true, true, 1, [], none⟩], 2, [zO 17 (.nilck (zT 5)),
 zD 18 17 0,
 zN (.store 1 (zT 18) (zT 16))]⟩]))))))
 (zA [zC 4 0]
 .ret)))
def g54 : Fn := ⟨2, 41, [.tmp 4], b54⟩
def b55 : AC :=
 (zA [zC 4 0]
 (zA [zL 6 1,
 zM 5 6]
 (.seq (zA [zM 7 0,
 zO 8 (.nilck (zT 7)),
 zD 9 8 2,
 zL 10 9]
 (.cond (zT 10)
 (.regd [⟨[zB 11 0,
 zP (zO 12 (.nilck (zT 11))),
 zP (zD 13 12 0),
 zQ (zL 14 13),
 zB 15 0,
 zP (zO 16 (.nilck (zT 15))),
 zP (zD 17 16 1),
 zQ (zL 18 17)], 0, [zO 19 (.iaddr 4 (zT 14) (zT 18)),
 zD 20 19 2,
 zL 21 20,
 zO 22 (.un .not (zT 21)),
 zM 5 22]⟩])
 .skip))
 (.seq (.block 0 (zA [zM 24 5,
 zO 25 (.un .not (zT 24)),
 zM 23 25]
 (.cond (zT 23)
 (zA [zC 4 4]
 .ret)
 (zA [zL 27 1,
 zO 28 (.un .not (zT 27)),
 zM 26 28]
 (.cond (zT 26)
 (.seq (.regd [⟨[zB 29 0,
 zB 30 0,
 zP (zO 31 (.nilck (zT 30))),
 zP (zD 32 31 0),
 zQ (zL 33 32),
 zB 34 0,
 zP (zO 35 (.nilck (zT 34))),
 zP (zD 36 35 1),
 zQ (zL 37 36),
 zB 38 0,
 zP (zO 39 (.nilck (zT 38))),
 zP (zD 40 39 1),
 zQ (zL 41 40),
 zP (zJ 42 41 1),
 ⟨zO 43 (.prim 56 [(zT 33), (zT 37), (zT 42)]), false, true, true, 0, [], none⟩], 1, [zO 44 (.nilck (zT 29)),
 zD 45 44 0,
 zN (.store 1 (zT 45) (zT 43))]⟩])
 (zA [zC 4 0]
 .ret))
 .skip)))))
 (zA [zM 46 0,
 zD 47 2 0,
 zL 48 47,
 zD 49 2 1,
 zL 50 49,
 zO 51 (.build [(.int .i64 0), (.int .u64 0), (.bool false), .nilS] [(0, 1, (zT 48)), (1, 1, (zT 50)), (2, 1, (.con (.bool true)))]),
 zO 52 (.call 54 [(zT 46), (zT 51)]),
 zM 4 52]
 .ret)))))
def g55 : Fn := ⟨3, 53, [.tmp 4], b55⟩
def b59 : AC :=
 (zA [zO 2 (.mov zF)]
 (zA [zM 3 0,
 zO 4 (.bin .lss (zT 3) (.con (.int .i32 (-1073741823)))),
 zM 5 4,
 zG 6 5 false (.mov (zT 0)),
 zG 7 5 false (.bin .gtr (zT 6) (.con (.int .i32 1073741823))),
 zO 8 (.pick (zT 5) (.con (.bool true)) (zT 7)),
 zM 2 8]
 .ret))
def g59 : Fn := ⟨1, 9, [.tmp 2], b59⟩
def b60 : AC :=
 (zA [zO 4 (.mov zF)]
 (zA [zM 5 0,
 zM 6 1,
 zO 7 (.call 70 [(zT 5), (zT 6)]),
 zO 8 (.bin .geq (zT 7) (zI 0)),
 zM 4 8]
 .ret))
def g60 : Fn := ⟨2, 9, [.tmp 4], b60⟩
def b61 : AC :=
 (.seq (zA [zL 9 1,
 zH 10 9,
 zC 11 0]
 (.block 0 (.loop (zA [zO 12 (.bin .lss (zT 11) (zT 10))]
 (.seq (.cond (zT 12)
 .skip
 (.exit 0))
 (.seq (.block 1 (zA [zO 13 (.iaddr 2 (zT 9) (zT 11)),
 zE 14 2 13,
 zO 6 (.alloc (.agg [(.int .u64 0), .nilS])),
 zN (.store 2 (zT 6) (zT 14))]
 (zA [zL 15 2,
 zD 16 6 0,
 zL 17 16,
 zO 18 (.mget false (.one .int) (.bool false) (zT 15) (zT 17)),
 zO 19 (.un .not (zT 18)),
 zM 20 19,
 zG 21 20 true (.mov (zT 0)),
 zG 22 20 true (.load true 2 (zT 6)),
 zG 23 20 true (.callv (zT 21) [(zT 22)]),
 zG 24 20 true (.un .not (zT 23)),
 zO 25 (.pick (zT 20) (zT 24) zF)]
 (.cond (zT 25)
 .ret
 .skip))))
 (.reg [zJ 26 11 1,
 zM 11 26])))))))
 (zA [zL 27 3,
 zH 28 27,
 zC 29 0]
 (.block 2 (.loop (zA [zO 30 (.bin .lss (zT 29) (zT 28))]
 (.seq (.cond (zT 30)
 .skip
 (.exit 2))
 (.seq (.block 3 (zA [zO 31 (.iaddr 4 (zT 27) (zT 29)),
 zE 32 4 31,
 zO 8 (.alloc (.agg [(.int .i64 0), (.int .u64 0), (.bool false), .nilS])),
 zN (.store 4 (zT 8) (zT 32))]
 (zA [zD 33 8 2,
 zL 34 33,
 zO 35 (.un .not (zT 34)),
 zM 36 35,
 zG 37 36 true (.mov (zT 0)),
 zG 38 36 true (.faddr (zT 8) 1),
 zG 39 36 true (.load false 1 (zT 38)),
 zG 40 36 true (.faddr (zT 8) 3),
 zG 41 36 true (.load false 1 (zT 40)),
 zG 42 36 true (.build [(.int .u64 0), .nilS] [(0, 1, (zT 39)), (1, 1, (zT 41))]),
 zG 43 36 true (.callv (zT 37) [(zT 42)]),
 zG 44 36 true (.un .not (zT 43)),
 zO 45 (.pick (zT 36) (zT 44) zF)]
 (.cond (zT 45)
 .ret
 .skip))))
 (.reg [zJ 46 29 1,
 zM 29 46]))))))))
def g61 : Fn := ⟨4, 47, [], b61⟩
def b62 : AC :=
 (zA [zO 10 (.mov (.con (.bool true)))]
 (zA [zO 11 (.mov (.con (.bool true)))]
 (.block 0 (.loop (.block 1 (zA [zM 21 2,
 zM 22 1,
 zO 23 (.bin .sub (zT 21) (zT 22)),
 zM 12 23]
 (.seq (zA [zM 24 12,
 zO 25 (.bin .leq (zT 24) (zI 12))]
 (.cond (zT 25)
 (zA [zM 26 0,
 zM 27 1,
 zM 28 2,
 zM 29 4,
 zO 30 (.call 71 [(zT 26), (zT 27), (zT 28), (zT 29)])]
 .ret)
 .skip))
 (.seq (zA [zM 31 3,
 zO 32 (.bin .eql (zT 31) (zI 0))]
 (.cond (zT 32)
 (zA [zM 33 0,
 zM 34 1,
 zM 35 2,
 zM 36 4,
 zO 37 (.call 72 [(zT 33), (zT 34), (zT 35), (zT 36)])]
 .ret)
 .skip))
 (.seq (zA [zM 38 10,
 zO 39 (.un .not (zT 38))]
 (.cond (zT 39)
 (zA [zM 40 0,
 zM 41 1,
 zM 42 2,
 zM 43 4,
 zO 44 (.call 73 [(zT 40), (zT 41), (zT 42), (zT 43)])]
 (.reg [zM 45 3,
 zO 46 (.bin .sub (zT 45) (zI 1)),
 zM 3 46]))
 .skip))
 (zA [zM 48 0,
 zM 49 1,
 zM 50 2,
 zM 51 4,
 zO 52 (.call 74 [(zT 48), (zT 49), (zT 50), (zT 51)]),
 zM 47 52,
 zO 53 (.ext (zT 47) 0),
 zO 54 (.ext (zT 47) 1),
 zM 13 53,
 zM 14 54]
 (.seq (zA [zM 55 14,
 zO 56 (.bin .eql (zT 55) (zI 2))]
 (.cond (zT 56)
 (zA [zM 57 0,
 zM 58 1,
 zM 59 2,
 zM 60 4,
 zO 61 (.call 75 [(zT 57), (zT 58), (zT 59), (zT 60)])]
 (zA [zM 62 2,
 zO 63 (.bin .sub (zT 62) (zI 1)),
 zM 64 13,
 zM 65 1,
 zO 66 (.bin .sub (zT 64) (zT 65)),
 zO 67 (.bin .sub (zT 63) (zT 66)),
 zM 13 67]
 (.reg [zC 14 1])))
 .skip))
 (.seq (zA [zM 68 10,
 zM 69 68,
 zG 70 69 true (.mov (zT 11)),
 zO 71 (.pick (zT 69) (zT 70) zF),
 zM 72 71,
 zG 73 72 true (.mov (zT 14)),
 zG 74 72 true (.bin .eql (zT 73) (zI 1)),
 zO 75 (.pick (zT 72) (zT 74) zF)]
 (.cond (zT 75)
 (zA [zM 76 0,
 zM 77 1,
 zM 78 2,
 zM 79 4,
 zO 80 (.call 76 [(zT 76), (zT 77), (zT 78), (zT 79)])]
 (.cond (zT 80)
 .ret
 .skip))
 .skip))
 (.seq (.seq (.regd [⟨[], 0, [zM 81 1,
 zO 82 (.bin .gtr (zT 81) (zI 0)),
 zM 83 82]⟩,
 ⟨[zP (zG 84 83 true (.mov (zT 4))),
 zP (zG 85 83 true (.mov (zT 0))),
 zP (zG 86 83 true (.mov (zT 1))),
 zP (zG 87 83 true (.bin .sub (zT 86) (zI 1))),
 zP (zG 88 83 true (.iaddr 2 (zT 85) (zT 87))),
 zQ (zG 89 83 true (.load true 2 (zT 88))),
 zP (zG 90 83 true (.mov (zT 0))),
 zP (zG 91 83 true (.mov (zT 13))),
 zP (zG 92 83 true (.iaddr 2 (zT 90) (zT 91))),
 zQ (zG 93 83 true (.load true 2 (zT 92)))], 0, [zG 94 83 true (.callv (zT 84) [(zT 89), (zT 93)]),
 zG 95 83 true (.bin .lss (zT 94) (zI 0)),
 zG 96 83 true (.un .not (zT 95)),
 zO 97 (.pick (zT 83) (zT 96) zF)]⟩])
 (.cond (zT 97)
 (zA [zM 98 0,
 zM 99 1,
 zM 100 2,
 zM 101 13,
 zM 102 4,
 zO 103 (.call 77 [(zT 98), (zT 99), (zT 100), (zT 101), (zT 102)]),
 zM 15 103]
 (zA [zM 104 15,
 zM 1 104]
 (.exit 1)))
 .skip))
 (zA [zM 106 0,
 zM 107 1,
 zM 108 2,
 zM 109 13,
 zM 110 4,
 zO 111 (.call 78 [(zT 106), (zT 107), (zT 108), (zT 109), (zT 110)]),
 zM 105 111,
 zO 112 (.ext (zT 105) 0),
 zO 113 (.ext (zT 105) 1),
 zM 16 112,
 zM 17 113]
 (zA [zM 114 17,
 zM 11 114]
 (zA [zM 115 16,
 zM 116 1,
 zO 117 (.bin .sub (zT 115) (zT 116)),
 zM 118 2,
 zM 119 16,
 zO 120 (.bin .sub (zT 118) (zT 119)),
 zM 18 117,
 zM 19 120]
 (zA [zM 121 12,
 zO 122 (.bin .quo (zT 121) (zI 8)),
 zM 20 122]
 (zA [zM 123 18,
 zM 124 19,
 zO 125 (.bin .lss (zT 123) (zT 124))]
 (.cond (zT 125)
 (zA [zM 126 18,
 zM 127 20,
 zO 128 (.bin .geq (zT 126) (zT 127)),
 zM 10 128]
 (zA [zM 129 0,
 zM 130 1,
 zM 131 16,
 zM 132 3,
 zM 133 4,
 zO 134 (.call 62 [(zT 129), (zT 130), (zT 131), (zT 132), (zT 133)])]
 (.reg [zM 135 16,
 zJ 136 135 1,
 zM 1 136])))
 (zA [zM 137 19,
 zM 138 20,
 zO 139 (.bin .geq (zT 137) (zT 138)),
 zM 10 139]
 (zA [zM 140 0,
 zM 141 16,
 zJ 142 141 1,
 zM 143 2,
 zM 144 3,
 zM 145 4,
 zO 146 (.call 62 [(zT 140), (zT 142), (zT 143), (zT 144), (zT 145)])]
 (.reg [zM 147 16,
 zM 2 147]))))))))))))))))))))))
def g62 : Fn := ⟨5, 148, [], b62⟩
def b63 : AC :=
 (zA [zC 2 0]
 (.seq (.cond zF
 (zA [zM 3 0,
 zO 4 (.conv .u32 (zT 3)),
 zO 5 (.call 79 [(zT 4)]),
 zM 2 5]
 .ret)
 .skip)
 (zA [zM 6 0,
 zO 7 (.call 80 [(zT 6)]),
 zM 2 7]
 .ret)))
def g63 : Fn := ⟨1, 8, [.tmp 2], b63⟩
def b64 : AC :=
 (zA [zO 2 (.mov zF)]
 (zA [zM 3 0,
 zM 4 0,
 zO 5 (.bin .neq (zT 3) (zT 4)),
 zM 2 5]
 .ret))
def g64 : Fn := ⟨1, 6, [.tmp 2], b64⟩
def b65 : AC :=
 (zA [zC 2 0]
 (zA [zC 3 0]
 (.seq (zA [zM 6 0,
 zH 7 6,
 zC 8 0]
 (.block 0 (.loop (zA [zO 9 (.bin .lss (zT 8) (zT 7))]
 (.seq (.cond (zT 9)
 .skip
 (.exit 0))
 (.seq (.block 1 (zA [zO 10 (.iaddr 1 (zT 6) (zT 8)),
 zL 11 10,
 zM 5 11]
 (zA [zM 12 5,
 zM 13 3,
 zO 14 (.bin .neq (zT 12) (zT 13))]
 (.cond (zT 14)
 (zA [zM 15 5,
 zM 2 15]
 .ret)
 .skip))))
 (.reg [zJ 16 8 1,
 zM 8 16])))))))
 (zA [zM 17 3,
 zM 2 17]
 .ret))))
def g65 : Fn := ⟨1, 18, [.tmp 2], b65⟩
def b66 : AC :=
 (zA [zC 4 0]
 (zA [zM 7 0,
 zO 8 (.call 81 [(zT 7)]),
 zM 5 8]
 (zA [zM 9 1,
 zO 10 (.call 81 [(zT 9)]),
 zM 6 10]
 (.seq (zA [zM 11 5]
 (.cond (zT 11)
 (.seq (zA [zM 12 6]
 (.cond (zT 12)
 (zA [zC 4 0]
 .ret)
 .skip))
 (zA [zC 4 (-1)]
 .ret))
 .skip))
 (.seq (zA [zM 13 6]
 (.cond (zT 13)
 (zA [zC 4 1]
 .ret)
 .skip))
 (.seq (zA [zM 14 0,
 zM 15 1,
 zO 16 (.bin .lss (zT 14) (zT 15))]
 (.cond (zT 16)
 (zA [zC 4 (-1)]
 .ret)
 .skip))
 (.seq (zA [zM 17 0,
 zM 18 1,
 zO 19 (.bin .gtr (zT 17) (zT 18))]
 (.cond (zT 19)
 (zA [zC 4 1]
 .ret)
 .skip))
 (zA [zC 4 0]
 .ret))))))))
def g66 : Fn := ⟨2, 20, [.tmp 4], b66⟩
def b67 : AC :=
 (zA [zO 4 (.mov zF)]
 (.seq (zA [zM 6 0,
 zH 7 6,
 zM 8 1,
 zH 9 8,
 zO 10 (.bin .neq (zT 7) (zT 9))]
 (.cond (zT 10)
 (zA [zO 4 (.mov zF)]
 .ret)
 .skip))
 (.seq (zA [zM 11 0,
 zH 12 11,
 zC 13 0]
 (.block 0 (.loop (zA [zO 14 (.bin .lss (zT 13) (zT 12))]
 (.seq (.cond (zT 14)
 .skip
 (.exit 0))
 (.seq (.block 1 (zA [zM 15 13,
 zM 5 15]
 (.seq (.regd [⟨[zB 16 0,
 zB 17 5,
 zP (zO 18 (.iaddr 1 (zT 16) (zT 17))),
 zQ (zL 19 18),
 zB 20 1,
 zB 21 5,
 zP (zO 22 (.iaddr 1 (zT 20) (zT 21))),
 zQ (zL 23 22)], 0, [zO 24 (.bin .neq (zT 19) (zT 23))]⟩])
 (.cond (zT 24)
 (zA [zO 4 (.mov zF)]
 .ret)
 .skip))))
 (.reg [zJ 25 13 1,
 zM 13 25])))))))
 (zA [zO 4 (.mov (.con (.bool true)))]
 .ret))))
def g67 : Fn := ⟨2, 26, [.tmp 4], b67⟩
def b68 : AC :=
 (zA [zO 2 (.mov (.con .nilS))]
 (.seq (zA [zM 3 0,
 zO 4 (.eqN false (zT 3))]
 (.cond (zT 4)
 (zA [zO 2 (.mov (.con .nilS))]
 .ret)
 .skip))
 (zA [zO 5 (.lit 4 []),
 zM 6 0,
 zO 7 (.append 4 48 (zT 5) (zT 6)),
 zM 2 7]
 .ret)))
def g68 : Fn := ⟨1, 8, [.tmp 2], b68⟩
def b70 : AC :=
 (zA [zC 4 0]
 (.seq (zA [zM 6 0,
 zH 7 6,
 zC 8 0]
 (.block 0 (.loop (zA [zO 9 (.bin .lss (zT 8) (zT 7))]
 (.seq (.cond (zT 9)
 .skip
 (.exit 0))
 (.seq (.block 1 (zA [zM 10 8,
 zM 5 10]
 (zA [zM 11 1,
 zM 12 0,
 zM 13 5,
 zO 14 (.iaddr 1 (zT 12) (zT 13)),
 zL 15 14,
 zO 16 (.callv (zT 11) [(zT 15)])]
 (.cond (zT 16)
 (zA [zM 17 5,
 zM 4 17]
 .ret)
 .skip))))
 (.reg [zJ 18 8 1,
 zM 8 18])))))))
 (zA [zC 4 (-1)]
 .ret)))
def g70 : Fn := ⟨2, 19, [.tmp 4], b70⟩
def b71 : AC :=
 (zA [zM 10 1,
 zJ 11 10 1,
 zM 8 11]
 (.block 0 (.loop (.seq (zA [zM 12 8,
 zM 13 2,
 zO 14 (.bin .lss (zT 12) (zT 13))]
 (.cond (zT 14)
 .skip
 (.exit 0)))
 (.seq (.block 1 (zA [zM 17 8,
 zM 9 17]
 (.block 2 (.loop (.seq (.seq (.regd [⟨[zB 18 9,
 zB 19 1], 0, [zO 20 (.bin .gtr (zT 18) (zT 19)),
 zM 21 20]⟩,
 ⟨[zP (zG 22 21 true (.mov (zT 3))),
 zP (zG 23 21 true (.mov (zT 0))),
 zP (zG 24 21 true (.mov (zT 9))),
 zP (zG 25 21 true (.iaddr 2 (zT 23) (zT 24))),
 zQ (zG 26 21 true (.load true 2 (zT 25))),
 zP (zG 27 21 true (.mov (zT 0))),
 zP (zG 28 21 true (.mov (zT 9))),
 zP (zG 29 21 true (.bin .sub (zT 28) (zI 1))),
 zP (zG 30 21 true (.iaddr 2 (zT 27) (zT 29))),
 zQ (zG 31 21 true (.load true 2 (zT 30)))], 0, [zG 32 21 true (.callv (zT 22) [(zT 26), (zT 31)]),
 zG 33 21 true (.bin .lss (zT 32) (zI 0)),
 zO 34 (.pick (zT 21) (zT 33) zF)]⟩])
 (.cond (zT 34)
 .skip
 (.exit 2)))
 (.seq (.block 3 (.regd [⟨[zB 37 0,
 zB 38 9,
 zB 39 0,
 zB 40 9,
 zP (zO 41 (.bin .sub (zT 40) (zI 1))),
 zB 42 0,
 zB 43 9,
 zP (zO 44 (.bin .sub (zT 43) (zI 1))),
 zP (zO 45 (.iaddr 2 (zT 42) (zT 44))),
 zQ (zE 46 2 45),
 zB 47 0,
 zB 48 9,
 zP (zO 49 (.iaddr 2 (zT 47) (zT 48))),
 zQ (zE 50 2 49),
 zP (zO 51 (.iaddr 2 (zT 37) (zT 38))),
 ⟨zN (.store 2 (zT 51) (zT 46)), false, true, false, 0, [], none⟩], 0, [zO 52 (.iaddr 2 (zT 39) (zT 41)),
 zN (.store 2 (zT 52) (zT 50))]⟩]))
 (.reg [zM 35 9,
 zO 36 (.bin .sub (zT 35) (zI 1)),
 zM 9 36])))))))
 (.reg [zM 15 8,
 zJ 16 15 1,
 zM 8 16]))))))
def g71 : Fn := ⟨4, 53, [], b71⟩
def b72 : AC :=
 (zA [zM 13 1,
 zM 8 13]
 (zA [zC 9 0]
 (zA [zM 14 2,
 zM 15 1,
 zO 16 (.bin .sub (zT 14) (zT 15)),
 zM 10 16]
 (.seq (zA [zM 17 10,
 zO 18 (.bin .sub (zT 17) (zI 1)),
 zO 19 (.bin .quo (zT 18) (zI 2)),
 zM 11 19]
 (.block 0 (.loop (.seq (zA [zM 20 11,
 zO 21 (.bin .geq (zT 20) (zI 0))]
 (.cond (zT 21)
 .skip
 (.exit 0)))
 (.seq (.block 1 (.reg [zM 24 0,
 zM 25 11,
 zM 26 10,
 zM 27 8,
 zM 28 3,
 zO 29 (.call 84 [(zT 24), (zT 25), (zT 26), (zT 27), (zT 28)])]))
 (.reg [zM 22 11,
 zO 23 (.bin .sub (zT 22) (zI 1)),
 zM 11 23]))))))
 (zA [zM 30 10,
 zO 31 (.bin .sub (zT 30) (zI 1)),
 zM 12 31]
 (.block 2 (.loop (.seq (zA [zM 32 12,
 zO 33 (.bin .geq (zT 32) (zI 0))]
 (.cond (zT 33)
 .skip
 (.exit 2)))
 (.seq (.block 3 (.seq (.regd [⟨[zB 36 0,
 zB 37 8,
 zB 38 0,
 zB 39 8,
 zB 40 12,
 zP (zO 41 (.bin .add (zT 39) (zT 40))),
 zB 42 0,
 zB 43 8,
 zB 44 12,
 zP (zO 45 (.bin .add (zT 43) (zT 44))),
 zP (zO 46 (.iaddr 2 (zT 42) (zT 45))),
 zQ (zE 47 2 46),
 zB 48 0,
 zB 49 8,
 zP (zO 50 (.iaddr 2 (zT 48) (zT 49))),
 zQ (zE 51 2 50),
 zP (zO 52 (.iaddr 2 (zT 36) (zT 37))),
 ⟨zN (.store 2 (zT 52) (zT 47)), false, true, false, 0, [], none⟩], 0, [zO 53 (.iaddr 2 (zT 38) (zT 41)),
 zN (.store 2 (zT 53) (zT 51))]⟩])
 (.reg [zM 54 0,
 zM 55 9,
 zM 56 12,
 zM 57 8,
 zM 58 3,
 zO 59 (.call 84 [(zT 54), (zT 55), (zT 56), (zT 57), (zT 58)])])))
 (.reg [zM 34 12,
 zO 35 (.bin .sub (zT 34) (zI 1)),
 zM 12 35]))))))))))
def g72 : Fn := ⟨4, 60, [], b72⟩
def b73 : AC :=
 (zA [zM 13 2,
 zM 14 1,
 zO 15 (.bin .sub (zT 13) (zT 14)),
 zM 8 15]
 (zA [zM 16 8,
 zO 17 (.bin .geq (zT 16) (zI 8))]
 (.cond (zT 17)
 (zA [zM 18 8,
 zO 19 (.conv .u64 (zT 18)),
 zO 9 (.alloc (.int .u64 0)),
 zN (.store 1 (zT 9) (zT 19))]
 (zA [zM 20 8,
 zO 21 (.call 85 [(zT 20)]),
 zM 10 21]
 (zA [zM 22 1,
 zM 23 8,
 zO 24 (.bin .quo (zT 23) (zI 4)),
 zO 25 (.bin .mul (zT 24) (zI 2)),
 zO 26 (.bin .add (zT 22) (zT 25)),
 zO 27 (.bin .sub (zT 26) (zI 1)),
 zM 11 27]
 (.block 0 (.loop (.seq (zA [zM 28 11,
 zM 29 1,
 zM 30 8,
 zO 31 (.bin .quo (zT 30) (zI 4)),
 zO 32 (.bin .mul (zT 31) (zI 2)),
 zO 33 (.bin .add (zT 29) (zT 32)),
 zJ 34 33 1,
 zO 35 (.bin .leq (zT 28) (zT 34))]
 (.cond (zT 35)
 .skip
 (.exit 0)))
 (.seq (.block 1 (zA [zO 38 (.call 86 [(zT 9)]),
 zM 39 10,
 zO 40 (.bin .sub (zT 39) (.con (.int .u64 1))),
 zO 41 (.bin .and (zT 38) (zT 40)),
 zO 42 (.conv .i64 (zT 41)),
 zM 12 42]
 (.seq (zA [zM 43 12,
 zM 44 8,
 zO 45 (.bin .geq (zT 43) (zT 44))]
 (.cond (zT 45)
 (.reg [zM 46 12,
 zM 47 8,
 zO 48 (.bin .sub (zT 46) (zT 47)),
 zM 12 48])
 .skip))
 (.regd [⟨[zB 49 0,
 zB 50 11,
 zB 51 0,
 zB 52 1,
 zB 53 12,
 zP (zO 54 (.bin .add (zT 52) (zT 53))),
 zB 55 0,
 zB 56 1,
 zB 57 12,
 zP (zO 58 (.bin .add (zT 56) (zT 57))),
 zP (zO 59 (.iaddr 2 (zT 55) (zT 58))),
 zQ (zE 60 2 59),
 zB 61 0,
 zB 62 11,
 zP (zO 63 (.iaddr 2 (zT 61) (zT 62))),
 zQ (zE 64 2 63),
 zP (zO 65 (.iaddr 2 (zT 49) (zT 50))),
 ⟨zN (.store 2 (zT 65) (zT 60)), false, true, false, 0, [], none⟩], 0, [zO 66 (.iaddr 2 (zT 51) (zT 54)),
 zN (.store 2 (zT 66) (zT 64))]⟩]))))
 (.reg [zM 36 11,
 zJ 37 36 1,
 zM 11 37]))))))))
 .skip)))
def g73 : Fn := ⟨4, 67, [], b73⟩
def b74 : AC :=
 (zA [zC 8 0,
 zC 9 0]
 (zA [zM 15 2,
 zM 16 1,
 zO 17 (.bin .sub (zT 15) (zT 16)),
 zM 10 17]
 (zA [zO 11 (.alloc (.int .i64 0))]
 (zA [zM 18 1,
 zM 19 10,
 zO 20 (.bin .quo (zT 19) (zI 4)),
 zO 21 (.bin .mul (zT 20) (zI 1)),
 zO 22 (.bin .add (zT 18) (zT 21)),
 zM 12 22]
 (zA [zM 23 1,
 zM 24 10,
 zO 25 (.bin .quo (zT 24) (zI 4)),
 zO 26 (.bin .mul (zT 25) (zI 2)),
 zO 27 (.bin .add (zT 23) (zT 26)),
 zM 13 27]
 (zA [zM 28 1,
 zM 29 10,
 zO 30 (.bin .quo (zT 29) (zI 4)),
 zO 31 (.bin .mul (zT 30) (zI 3)),
 zO 32 (.bin .add (zT 28) (zT 31)),
 zM 14 32]
 (.seq (zA [zM 33 10,
 zO 34 (.bin .geq (zT 33) (zI 8))]
 (.cond (zT 34)
 (.seq (zA [zM 35 10,
 zO 36 (.bin .geq (zT 35) (zI 50))]
 (.cond (zT 36)
 (zA [zM 37 0,
 zM 38 12,
 zM 39 3,
 zO 40 (.call 87 [(zT 37), (zT 38), (zT 11), (zT 39)]),
 zM 12 40]
 (zA [zM 41 0,
 zM 42 13,
 zM 43 3,
 zO 44 (.call 87 [(zT 41), (zT 42), (zT 11), (zT 43)]),
 zM 13 44]
 (.reg [zM 45 0,
 zM 46 14,
 zM 47 3,
 zO 48 (.call 87 [(zT 45), (zT 46), (zT 11), (zT 47)]),
 zM 14 48])))
 .skip))
 (.reg [zM 49 0,
 zM 50 12,
 zM 51 13,
 zM 52 14,
 zM 53 3,
 zO 54 (.call 88 [(zT 49), (zT 50), (zT 51), (zT 52), (zT 11), (zT 53)]),
 zM 13 54]))
 .skip))
 (zA [zL 55 11]
 (.block 0 (zA [zO 58 (.bin .eql (zT 55) (zI 0)),
 zM 57 58]
 (.cond (zT 57)
 (zA [zM 59 13,
 zM 8 59,
 zC 9 1]
 .ret)
 (zA [zO 61 (.bin .eql (zT 55) (zI 12)),
 zM 60 61]
 (.cond (zT 60)
 (zA [zM 62 13,
 zM 8 62,
 zC 9 2]
 .ret)
 (zA [zM 56 13,
 zM 8 56,
 zC 9 0]
 .ret))))))))))))))
def g74 : Fn := ⟨4, 63, [.tmp 8, .tmp 9], b74⟩
def b75 : AC :=
 (zA [zM 10 1,
 zM 8 10]
 (zA [zM 11 2,
 zO 12 (.bin .sub (zT 11) (zI 1)),
 zM 9 12]
 (.block 0 (.loop (.seq (zA [zM 13 8,
 zM 14 9,
 zO 15 (.bin .lss (zT 13) (zT 14))]
 (.cond (zT 15)
 .skip
 (.exit 0)))
 (.block 1 (.seq (.regd [⟨[zB 16 0,
 zB 17 8,
 zB 18 0,
 zB 19 9,
 zB 20 0,
 zB 21 9,
 zP (zO 22 (.iaddr 2 (zT 20) (zT 21))),
 zQ (zE 23 2 22),
 zB 24 0,
 zB 25 8,
 zP (zO 26 (.iaddr 2 (zT 24) (zT 25))),
 zQ (zE 27 2 26),
 zP (zO 28 (.iaddr 2 (zT 16) (zT 17))),
 ⟨zN (.store 2 (zT 28) (zT 23)), false, true, false, 0, [], none⟩], 0, [zO 29 (.iaddr 2 (zT 18) (zT 19)),
 zN (.store 2 (zT 29) (zT 27))]⟩])
 (zA [zM 30 8,
 zJ 31 30 1,
 zM 8 31]
 (.reg [zM 32 9,
 zO 33 (.bin .sub (zT 32) (zI 1)),
 zM 9 33])))))))))
def g75 : Fn := ⟨4, 34, [], b75⟩
def b76 : AC :=
 (zA [zO 8 (.mov zF)]
 (zA [zM 13 1,
 zJ 14 13 1,
 zM 9 14]
 (.seq (zA [zC 10 0]
 (.block 0 (.loop (.seq (zA [zM 15 10,
 zO 16 (.bin .lss (zT 15) (zI 5))]
 (.cond (zT 16)
 .skip
 (.exit 0)))
 (.seq (.block 1 (.seq (.block 2 (.loop (.seq (.seq (.regd [⟨[zB 19 9,
 zB 20 2], 0, [zO 21 (.bin .lss (zT 19) (zT 20)),
 zM 22 21]⟩,
 ⟨[zP (zG 23 22 true (.mov (zT 3))),
 zP (zG 24 22 true (.mov (zT 0))),
 zP (zG 25 22 true (.mov (zT 9))),
 zP (zG 26 22 true (.iaddr 2 (zT 24) (zT 25))),
 zQ (zG 27 22 true (.load true 2 (zT 26))),
 zP (zG 28 22 true (.mov (zT 0))),
 zP (zG 29 22 true (.mov (zT 9))),
 zP (zG 30 22 true (.bin .sub (zT 29) (zI 1))),
 zP (zG 31 22 true (.iaddr 2 (zT 28) (zT 30))),
 zQ (zG 32 22 true (.load true 2 (zT 31)))], 0, [zG 33 22 true (.callv (zT 23) [(zT 27), (zT 32)]),
 zG 34 22 true (.bin .lss (zT 33) (zI 0)),
 zG 35 22 true (.un .not (zT 34)),
 zO 36 (.pick (zT 22) (zT 35) zF)]⟩])
 (.cond (zT 36)
 .skip
 (.exit 2)))
 (.block 3 (.reg [zM 37 9,
 zJ 38 37 1,
 zM 9 38])))))
 (.seq (zA [zM 39 9,
 zM 40 2,
 zO 41 (.bin .eql (zT 39) (zT 40))]
 (.cond (zT 41)
 (zA [zO 8 (.mov (.con (.bool true)))]
 .ret)
 .skip))
 (.seq (zA [zM 42 2,
 zM 43 1,
 zO 44 (.bin .sub (zT 42) (zT 43)),
 zO 45 (.bin .lss (zT 44) (zI 50))]
 (.cond (zT 45)
 (zA [zO 8 (.mov zF)]
 .ret)
 .skip))
 (.seq (.regd [⟨[zB 46 0,
 zB 47 9,
 zB 48 0,
 zB 49 9,
 zP (zO 50 (.bin .sub (zT 49) (zI 1))),
 zB 51 0,
 zB 52 9,
 zP (zO 53 (.bin .sub (zT 52) (zI 1))),
 zP (zO 54 (.iaddr 2 (zT 51) (zT 53))),
 zQ (zE 55 2 54),
 zB 56 0,
 zB 57 9,
 zP (zO 58 (.iaddr 2 (zT 56) (zT 57))),
 zQ (zE 59 2 58),
 zP (zO 60 (.iaddr 2 (zT 46) (zT 47))),
 ⟨zN (.store 2 (zT 60) (zT 55)), false, true, false, 0, [], none⟩], 0, [zO 61 (.iaddr 2 (zT 48) (zT 50)),
 zN (.store 2 (zT 61) (zT 59))]⟩])
 (.seq (zA [zM 62 9,
 zM 63 1,
 zO 64 (.bin .sub (zT 62) (zT 63)),
 zO 65 (.bin .geq (zT 64) (zI 2))]
 (.cond (zT 65)
 (zA [zM 66 9,
 zO 67 (.bin .sub (zT 66) (zI 1)),
 zM 11 67]
 (.block 4 (.loop (.seq (zA [zM 68 11,
 zO 69 (.bin .geq (zT 68) (zI 1))]
 (.cond (zT 69)
 .skip
 (.exit 4)))
 (.seq (.block 5 (.seq (.seq (.regd [⟨[zB 72 3,
 zB 73 0,
 zB 74 11,
 zP (zO 75 (.iaddr 2 (zT 73) (zT 74))),
 zQ (zE 76 2 75),
 zB 77 0,
 zB 78 11,
 zP (zO 79 (.bin .sub (zT 78) (zI 1))),
 zP (zO 80 (.iaddr 2 (zT 77) (zT 79))),
 zQ (zE 81 2 80)], 0, [zO 82 (.callv (zT 72) [(zT 76), (zT 81)]),
 zO 83 (.bin .lss (zT 82) (zI 0)),
 zO 84 (.un .not (zT 83))]⟩])
 (.cond (zT 84)
 (.exit 4)
 .skip))
 (.regd [⟨[zB 85 0,
 zB 86 11,
 zB 87 0,
 zB 88 11,
 zP (zO 89 (.bin .sub (zT 88) (zI 1))),
 zB 90 0,
 zB 91 11,
 zP (zO 92 (.bin .sub (zT 91) (zI 1))),
 zP (zO 93 (.iaddr 2 (zT 90) (zT 92))),
 zQ (zE 94 2 93),
 zB 95 0,
 zB 96 11,
 zP (zO 97 (.iaddr 2 (zT 95) (zT 96))),
 zQ (zE 98 2 97),
 zP (zO 99 (.iaddr 2 (zT 85) (zT 86))),
 ⟨zN (.store 2 (zT 99) (zT 94)), false, true, false, 0, [], none⟩], 0, [zO 100 (.iaddr 2 (zT 87) (zT 89)),
 zN (.store 2 (zT 100) (zT 98))]⟩])))
 (.reg [zM 70 11,
 zO 71 (.bin .sub (zT 70) (zI 1)),
 zM 11 71]))))))
 .skip))
 (zA [zM 101 2,
 zM 102 9,
 zO 103 (.bin .sub (zT 101) (zT 102)),
 zO 104 (.bin .geq (zT 103) (zI 2))]
 (.cond (zT 104)
 (zA [zM 105 9,
 zJ 106 105 1,
 zM 12 106]
 (.block 6 (.loop (.seq (zA [zM 107 12,
 zM 108 2,
 zO 109 (.bin .lss (zT 107) (zT 108))]
 (.cond (zT 109)
 .skip
 (.exit 6)))
 (.seq (.block 7 (.seq (.seq (.regd [⟨[zB 112 3,
 zB 113 0,
 zB 114 12,
 zP (zO 115 (.iaddr 2 (zT 113) (zT 114))),
 zQ (zE 116 2 115),
 zB 117 0,
 zB 118 12,
 zP (zO 119 (.bin .sub (zT 118) (zI 1))),
 zP (zO 120 (.iaddr 2 (zT 117) (zT 119))),
 zQ (zE 121 2 120)], 0, [zO 122 (.callv (zT 112) [(zT 116), (zT 121)]),
 zO 123 (.bin .lss (zT 122) (zI 0)),
 zO 124 (.un .not (zT 123))]⟩])
 (.cond (zT 124)
 (.exit 6)
 .skip))
 (.regd [⟨[zB 125 0,
 zB 126 12,
 zB 127 0,
 zB 128 12,
 zP (zO 129 (.bin .sub (zT 128) (zI 1))),
 zB 130 0,
 zB 131 12,
 zP (zO 132 (.bin .sub (zT 131) (zI 1))),
 zP (zO 133 (.iaddr 2 (zT 130) (zT 132))),
 zQ (zE 134 2 133),
 zB 135 0,
 zB 136 12,
 zP (zO 137 (.iaddr 2 (zT 135) (zT 136))),
 zQ (zE 138 2 137),
 zP (zO 139 (.iaddr 2 (zT 125) (zT 126))),
 ⟨zN (.store 2 (zT 139) (zT 134)), false, true, false, 0, [], none⟩], 0, [zO 140 (.iaddr 2 (zT 127) (zT 129)),
 zN (.store 2 (zT 140) (zT 138))]⟩])))
 (.reg [zM 110 12,
 zJ 111 110 1,
 zM 12 111]))))))
 .skip))))))))
 (.reg [zM 17 10,
 zJ 18 17 1,
 zM 10 18]))))))
 (zA [zO 8 (.mov zF)]
 .ret))))
def g76 : Fn := ⟨4, 141, [.tmp 8], b76⟩
def b77 : AC :=
 (zA [zC 10 0]
 (.seq (.regd [⟨[zB 13 0,
 zB 14 1,
 zB 15 0,
 zB 16 3,
 zB 17 0,
 zB 18 3,
 zP (zO 19 (.iaddr 2 (zT 17) (zT 18))),
 zQ (zE 20 2 19),
 zB 21 0,
 zB 22 1,
 zP (zO 23 (.iaddr 2 (zT 21) (zT 22))),
 zQ (zE 24 2 23),
 zP (zO 25 (.iaddr 2 (zT 13) (zT 14))),
 ⟨zN (.store 2 (zT 25) (zT 20)), false, true, false, 0, [], none⟩], 0, [zO 26 (.iaddr 2 (zT 15) (zT 16)),
 zN (.store 2 (zT 26) (zT 24))]⟩])
 (zA [zM 27 1,
 zJ 28 27 1,
 zM 29 2,
 zO 30 (.bin .sub (zT 29) (zI 1)),
 zM 11 28,
 zM 12 30]
 (.seq (.block 0 (.loop (.block 1 (.seq (.block 2 (.loop (.seq (.seq (.regd [⟨[zB 31 11,
 zB 32 12], 0, [zO 33 (.bin .leq (zT 31) (zT 32)),
 zM 34 33]⟩,
 ⟨[zP (zG 35 34 true (.mov (zT 4))),
 zP (zG 36 34 true (.mov (zT 0))),
 zP (zG 37 34 true (.mov (zT 1))),
 zP (zG 38 34 true (.iaddr 2 (zT 36) (zT 37))),
 zQ (zG 39 34 true (.load true 2 (zT 38))),
 zP (zG 40 34 true (.mov (zT 0))),
 zP (zG 41 34 true (.mov (zT 11))),
 zP (zG 42 34 true (.iaddr 2 (zT 40) (zT 41))),
 zQ (zG 43 34 true (.load true 2 (zT 42)))], 0, [zG 44 34 true (.callv (zT 35) [(zT 39), (zT 43)]),
 zG 45 34 true (.bin .lss (zT 44) (zI 0)),
 zG 46 34 true (.un .not (zT 45)),
 zO 47 (.pick (zT 34) (zT 46) zF)]⟩])
 (.cond (zT 47)
 .skip
 (.exit 2)))
 (.block 3 (.reg [zM 48 11,
 zJ 49 48 1,
 zM 11 49])))))
 (.seq (.block 4 (.loop (.seq (.seq (.regd [⟨[zB 50 11,
 zB 51 12], 0, [zO 52 (.bin .leq (zT 50) (zT 51)),
 zM 53 52]⟩,
 ⟨[zP (zG 54 53 true (.mov (zT 4))),
 zP (zG 55 53 true (.mov (zT 0))),
 zP (zG 56 53 true (.mov (zT 1))),
 zP (zG 57 53 true (.iaddr 2 (zT 55) (zT 56))),
 zQ (zG 58 53 true (.load true 2 (zT 57))),
 zP (zG 59 53 true (.mov (zT 0))),
 zP (zG 60 53 true (.mov (zT 12))),
 zP (zG 61 53 true (.iaddr 2 (zT 59) (zT 60))),
 zQ (zG 62 53 true (.load true 2 (zT 61)))], 0, [zG 63 53 true (.callv (zT 54) [(zT 58), (zT 62)]),
 zG 64 53 true (.bin .lss (zT 63) (zI 0)),
 zO 65 (.pick (zT 53) (zT 64) zF)]⟩])
 (.cond (zT 65)
 .skip
 (.exit 4)))
 (.block 5 (.reg [zM 66 12,
 zO 67 (.bin .sub (zT 66) (zI 1)),
 zM 12 67])))))
 (.seq (zA [zM 68 11,
 zM 69 12,
 zO 70 (.bin .gtr (zT 68) (zT 69))]
 (.cond (zT 70)
 (.exit 0)
 .skip))
 (.seq (.regd [⟨[zB 71 0,
 zB 72 11,
 zB 73 0,
 zB 74 12,
 zB 75 0,
 zB 76 12,
 zP (zO 77 (.iaddr 2 (zT 75) (zT 76))),
 zQ (zE 78 2 77),
 zB 79 0,
 zB 80 11,
 zP (zO 81 (.iaddr 2 (zT 79) (zT 80))),
 zQ (zE 82 2 81),
 zP (zO 83 (.iaddr 2 (zT 71) (zT 72))),
 ⟨zN (.store 2 (zT 83) (zT 78)), false, true, false, 0, [], none⟩], 0, [zO 84 (.iaddr 2 (zT 73) (zT 74)),
 zN (.store 2 (zT 84) (zT 82))]⟩])
 (zA [zM 85 11,
 zJ 86 85 1,
 zM 11 86]
 (.reg [zM 87 12,
 zO 88 (.bin .sub (zT 87) (zI 1)),
 zM 12 88])))))))))
 (zA [zM 89 11,
 zM 10 89]
 .ret)))))
def g77 : Fn := ⟨5, 90, [.tmp 10], b77⟩
def b78 : AC :=
 (zA [zC 10 0,
 zO 11 (.mov zF)]
 (.seq (.regd [⟨[zB 14 0,
 zB 15 1,
 zB 16 0,
 zB 17 3,
 zB 18 0,
 zB 19 3,
 zP (zO 20 (.iaddr 2 (zT 18) (zT 19))),
 zQ (zE 21 2 20),
 zB 22 0,
 zB 23 1,
 zP (zO 24 (.iaddr 2 (zT 22) (zT 23))),
 zQ (zE 25 2 24),
 zP (zO 26 (.iaddr 2 (zT 14) (zT 15))),
 ⟨zN (.store 2 (zT 26) (zT 21)), false, true, false, 0, [], none⟩], 0, [zO 27 (.iaddr 2 (zT 16) (zT 17)),
 zN (.store 2 (zT 27) (zT 25))]⟩])
 (zA [zM 28 1,
 zJ 29 28 1,
 zM 30 2,
 zO 31 (.bin .sub (zT 30) (zI 1)),
 zM 12 29,
 zM 13 31]
 (.seq (.block 0 (.loop (.seq (.seq (.regd [⟨[zB 32 12,
 zB 33 13], 0, [zO 34 (.bin .leq (zT 32) (zT 33)),
 zM 35 34]⟩,
 ⟨[zP (zG 36 35 true (.mov (zT 4))),
 zP (zG 37 35 true (.mov (zT 0))),
 zP (zG 38 35 true (.mov (zT 12))),
 zP (zG 39 35 true (.iaddr 2 (zT 37) (zT 38))),
 zQ (zG 40 35 true (.load true 2 (zT 39))),
 zP (zG 41 35 true (.mov (zT 0))),
 zP (zG 42 35 true (.mov (zT 1))),
 zP (zG 43 35 true (.iaddr 2 (zT 41) (zT 42))),
 zQ (zG 44 35 true (.load true 2 (zT 43)))], 0, [zG 45 35 true (.callv (zT 36) [(zT 40), (zT 44)]),
 zG 46 35 true (.bin .lss (zT 45) (zI 0)),
 zO 47 (.pick (zT 35) (zT 46) zF)]⟩])
 (.cond (zT 47)
 .skip
 (.exit 0)))
 (.block 1 (.reg [zM 48 12,
 zJ 49 48 1,
 zM 12 49])))))
 (.seq (.block 2 (.loop (.seq (.seq (.regd [⟨[zB 50 12,
 zB 51 13], 0, [zO 52 (.bin .leq (zT 50) (zT 51)),
 zM 53 52]⟩,
 ⟨[zP (zG 54 53 true (.mov (zT 4))),
 zP (zG 55 53 true (.mov (zT 0))),
 zP (zG 56 53 true (.mov (zT 13))),
 zP (zG 57 53 true (.iaddr 2 (zT 55) (zT 56))),
 zQ (zG 58 53 true (.load true 2 (zT 57))),
 zP (zG 59 53 true (.mov (zT 0))),
 zP (zG 60 53 true (.mov (zT 1))),
 zP (zG 61 53 true (.iaddr 2 (zT 59) (zT 60))),
 zQ (zG 62 53 true (.load true 2 (zT 61)))], 0, [zG 63 53 true (.callv (zT 54) [(zT 58), (zT 62)]),
 zG 64 53 true (.bin .lss (zT 63) (zI 0)),
 zG 65 53 true (.un .not (zT 64)),
 zO 66 (.pick (zT 53) (zT 65) zF)]⟩])
 (.cond (zT 66)
 .skip
 (.exit 2)))
 (.block 3 (.reg [zM 67 13,
 zO 68 (.bin .sub (zT 67) (zI 1)),
 zM 13 68])))))
 (.seq (zA [zM 69 12,
 zM 70 13,
 zO 71 (.bin .gtr (zT 69) (zT 70))]
 (.cond (zT 71)
 (.seq (.regd [⟨[zB 72 0,
 zB 73 13,
 zB 74 0,
 zB 75 1,
 zB 76 0,
 zB 77 1,
 zP (zO 78 (.iaddr 2 (zT 76) (zT 77))),
 zQ (zE 79 2 78),
 zB 80 0,
 zB 81 13,
 zP (zO 82 (.iaddr 2 (zT 80) (zT 81))),
 zQ (zE 83 2 82),
 zP (zO 84 (.iaddr 2 (zT 72) (zT 73))),
 ⟨zN (.store 2 (zT 84) (zT 79)), false, true, false, 0, [], none⟩], 0, [zO 85 (.iaddr 2 (zT 74) (zT 75)),
 zN (.store 2 (zT 85) (zT 83))]⟩])
 (zA [zM 86 13,
 zM 10 86,
 zO 11 (.mov (.con (.bool true)))]
 .ret))
 .skip))
 (.seq (.regd [⟨[zB 87 0,
 zB 88 12,
 zB 89 0,
 zB 90 13,
 zB 91 0,
 zB 92 13,
 zP (zO 93 (.iaddr 2 (zT 91) (zT 92))),
 zQ (zE 94 2 93),
 zB 95 0,
 zB 96 12,
 zP (zO 97 (.iaddr 2 (zT 95) (zT 96))),
 zQ (zE 98 2 97),
 zP (zO 99 (.iaddr 2 (zT 87) (zT 88))),
 ⟨zN (.store 2 (zT 99) (zT 94)), false, true, false, 0, [], none⟩], 0, [zO 100 (.iaddr 2 (zT 89) (zT 90)),
 zN (.store 2 (zT 100) (zT 98))]⟩])
 (zA [zM 101 12,
 zJ 102 101 1,
 zM 12 102]
 (zA [zM 103 13,
 zO 104 (.bin .sub (zT 103) (zI 1)),
 zM 13 104]
 (.seq (.block 4 (.loop (.block 5 (.seq (.block 6 (.loop (.seq (.seq (.regd [⟨[zB 105 12,
 zB 106 13], 0, [zO 107 (.bin .leq (zT 105) (zT 106)),
 zM 108 107]⟩,
 ⟨[zP (zG 109 108 true (.mov (zT 4))),
 zP (zG 110 108 true (.mov (zT 0))),
 zP (zG 111 108 true (.mov (zT 12))),
 zP (zG 112 108 true (.iaddr 2 (zT 110) (zT 111))),
 zQ (zG 113 108 true (.load true 2 (zT 112))),
 zP (zG 114 108 true (.mov (zT 0))),
 zP (zG 115 108 true (.mov (zT 1))),
 zP (zG 116 108 true (.iaddr 2 (zT 114) (zT 115))),
 zQ (zG 117 108 true (.load true 2 (zT 116)))], 0, [zG 118 108 true (.callv (zT 109) [(zT 113), (zT 117)]),
 zG 119 108 true (.bin .lss (zT 118) (zI 0)),
 zO 120 (.pick (zT 108) (zT 119) zF)]⟩])
 (.cond (zT 120)
 .skip
 (.exit 6)))
 (.block 7 (.reg [zM 121 12,
 zJ 122 121 1,
 zM 12 122])))))
 (.seq (.block 8 (.loop (.seq (.seq (.regd [⟨[zB 123 12,
 zB 124 13], 0, [zO 125 (.bin .leq (zT 123) (zT 124)),
 zM 126 125]⟩,
 ⟨[zP (zG 127 126 true (.mov (zT 4))),
 zP (zG 128 126 true (.mov (zT 0))),
 zP (zG 129 126 true (.mov (zT 13))),
 zP (zG 130 126 true (.iaddr 2 (zT 128) (zT 129))),
 zQ (zG 131 126 true (.load true 2 (zT 130))),
 zP (zG 132 126 true (.mov (zT 0))),
 zP (zG 133 126 true (.mov (zT 1))),
 zP (zG 134 126 true (.iaddr 2 (zT 132) (zT 133))),
 zQ (zG 135 126 true (.load true 2 (zT 134)))], 0, [zG 136 126 true (.callv (zT 127) [(zT 131), (zT 135)]),
 zG 137 126 true (.bin .lss (zT 136) (zI 0)),
 zG 138 126 true (.un .not (zT 137)),
 zO 139 (.pick (zT 126) (zT 138) zF)]⟩])
 (.cond (zT 139)
 .skip
 (.exit 8)))
 (.block 9 (.reg [zM 140 13,
 zO 141 (.bin .sub (zT 140) (zI 1)),
 zM 13 141])))))
 (.seq (zA [zM 142 12,
 zM 143 13,
 zO 144 (.bin .gtr (zT 142) (zT 143))]
 (.cond (zT 144)
 (.exit 4)
 .skip))
 (.seq (.regd [⟨[zB 145 0,
 zB 146 12,
 zB 147 0,
 zB 148 13,
 zB 149 0,
 zB 150 13,
 zP (zO 151 (.iaddr 2 (zT 149) (zT 150))),
 zQ (zE 152 2 151),
 zB 153 0,
 zB 154 12,
 zP (zO 155 (.iaddr 2 (zT 153) (zT 154))),
 zQ (zE 156 2 155),
 zP (zO 157 (.iaddr 2 (zT 145) (zT 146))),
 ⟨zN (.store 2 (zT 157) (zT 152)), false, true, false, 0, [], none⟩], 0, [zO 158 (.iaddr 2 (zT 147) (zT 148)),
 zN (.store 2 (zT 158) (zT 156))]⟩])
 (zA [zM 159 12,
 zJ 160 159 1,
 zM 12 160]
 (.reg [zM 161 13,
 zO 162 (.bin .sub (zT 161) (zI 1)),
 zM 13 162])))))))))
 (.seq (.regd [⟨[zB 163 0,
 zB 164 13,
 zB 165 0,
 zB 166 1,
 zB 167 0,
 zB 168 1,
 zP (zO 169 (.iaddr 2 (zT 167) (zT 168))),
 zQ (zE 170 2 169),
 zB 171 0,
 zB 172 13,
 zP (zO 173 (.iaddr 2 (zT 171) (zT 172))),
 zQ (zE 174 2 173),
 zP (zO 175 (.iaddr 2 (zT 163) (zT 164))),
 ⟨zN (.store 2 (zT 175) (zT 170)), false, true, false, 0, [], none⟩], 0, [zO 176 (.iaddr 2 (zT 165) (zT 166)),
 zN (.store 2 (zT 176) (zT 174))]⟩])
 (zA [zM 177 13,
 zM 10 177,
 zO 11 (.mov zF)]
 .ret))))))))))))
def g78 : Fn := ⟨5, 178, [.tmp 10, .tmp 11], b78⟩
def b79 : AC :=
 (zA [zC 2 0]
 (.seq (zA [zM 3 0,
 zO 4 (.bin .geq (zT 3) (.con (.int .u32 65536)))]
 (.cond (zT 4)
 (zA [zM 5 0,
 zO 6 (.bin .shr (zT 5) (.con (.int .u64 16))),
 zM 0 6]
 (.reg [zC 2 16]))
 .skip))
 (.seq (zA [zM 7 0,
 zO 8 (.bin .geq (zT 7) (.con (.int .u32 256)))]
 (.cond (zT 8)
 (zA [zM 9 0,
 zO 10 (.bin .shr (zT 9) (.con (.int .u64 8))),
 zM 0 10]
 (.reg [zM 11 2,
 zJ 12 11 8,
 zM 2 12]))
 .skip))
 (zA [zM 13 2,
 zM 14 0,
 zO 15 (.conv .u8 (zT 14)),
 ⟨(some 16), none, .idxS (.con (.str ⟨#[0, 1, 2, 2, 3, 3, 3, 3, 4, 4, 4, 4, 4, 4, 4, 4, 5, 5, 5, 5, 5, 5, 5, 5, 5, 5, 5, 5, 5, 5, 5, 5, 6, 6, 6, 6, 6, 6, 6, 6, 6, 6, 6, 6, 6, 6, 6, 6, 6, 6, 6, 6, 6, 6, 6, 6, 6, 6, 6, 6, 6, 6, 6, 6, 7, 7, 7, 7, 7, 7, 7, 7, 7, 7, 7, 7, 7, 7, 7, 7, 7, 7, 7, 7, 7, 7, 7, 7, 7, 7, 7, 7, 7, 7, 7, 7, 7, 7, 7, 7, 7, 7, 7, 7, 7, 7, 7, 7, 7, 7, 7, 7, 7, 7, 7, 7, 7, 7, 7, 7, 7, 7, 7, 7, 7, 7, 7, 7, 8, 8, 8, 8, 8, 8, 8, 8, 8, 8, 8, 8, 8, 8, 8, 8, 8, 8, 8, 8, 8, 8, 8, 8, 8, 8, 8, 8, 8, 8, 8, 8, 8, 8, 8, 8, 8, 8, 8, 8, 8, 8, 8, 8, 8, 8, 8, 8, 8, 8, 8, 8, 8, 8, 8, 8, 8, 8, 8, 8, 8, 8, 8, 8, 8, 8, 8, 8, 8, 8, 8, 8, 8, 8, 8, 8, 8, 8, 8, 8, 8, 8, 8, 8, 8, 8, 8, 8, 8, 8, 8, 8, 8, 8, 8, 8, 8, 8, 8, 8, 8, 8, 8, 8, 8, 8, 8, 8, 8, 8, 8, 8, 8, 8, 8, 8, 8, 8, 8, 8, 8, 8, 8, 8, 8, 8, 8, 8]⟩)) (zT 15)⟩,
 zO 17 (.conv .i64 (zT 16)),
 zO 18 (.bin .add (zT 13) (zT 17)),
 zM 2 18]
 .ret))))
def g79 : Fn := ⟨1, 19, [.tmp 2], b79⟩
def b80 : AC :=
 (zA [zC 2 0]
 (.seq (zA [zM 3 0,
 zO 4 (.bin .geq (zT 3) (.con (.int .u64 4294967296)))]
 (.cond (zT 4)
 (zA [zM 5 0,
 zO 6 (.bin .shr (zT 5) (.con (.int .u64 32))),
 zM 0 6]
 (.reg [zC 2 32]))
 .skip))
 (.seq (zA [zM 7 0,
 zO 8 (.bin .geq (zT 7) (.con (.int .u64 65536)))]
 (.cond (zT 8)
 (zA [zM 9 0,
 zO 10 (.bin .shr (zT 9) (.con (.int .u64 16))),
 zM 0 10]
 (.reg [zM 11 2,
 zJ 12 11 16,
 zM 2 12]))
 .skip))
 (.seq (zA [zM 13 0,
 zO 14 (.bin .geq (zT 13) (.con (.int .u64 256)))]
 (.cond (zT 14)
 (zA [zM 15 0,
 zO 16 (.bin .shr (zT 15) (.con (.int .u64 8))),
 zM 0 16]
 (.reg [zM 17 2,
 zJ 18 17 8,
 zM 2 18]))
 .skip))
 (zA [zM 19 2,
 zM 20 0,
 zO 21 (.conv .u8 (zT 20)),
 ⟨(some 22), none, .idxS (.con (.str ⟨#[0, 1, 2, 2, 3, 3, 3, 3, 4, 4, 4, 4, 4, 4, 4, 4, 5, 5, 5, 5, 5, 5, 5, 5, 5, 5, 5, 5, 5, 5, 5, 5, 6, 6, 6, 6, 6, 6, 6, 6, 6, 6, 6, 6, 6, 6, 6, 6, 6, 6, 6, 6, 6, 6, 6, 6, 6, 6, 6, 6, 6, 6, 6, 6, 7, 7, 7, 7, 7, 7, 7, 7, 7, 7, 7, 7, 7, 7, 7, 7, 7, 7, 7, 7, 7, 7, 7, 7, 7, 7, 7, 7, 7, 7, 7, 7, 7, 7, 7, 7, 7, 7, 7, 7, 7, 7, 7, 7, 7, 7, 7, 7, 7, 7, 7, 7, 7, 7, 7, 7, 7, 7, 7, 7, 7, 7, 7, 7, 8, 8, 8, 8, 8, 8, 8, 8, 8, 8, 8, 8, 8, 8, 8, 8, 8, 8, 8, 8, 8, 8, 8, 8, 8, 8, 8, 8, 8, 8, 8, 8, 8, 8, 8, 8, 8, 8, 8, 8, 8, 8, 8, 8, 8, 8, 8, 8, 8, 8, 8, 8, 8, 8, 8, 8, 8, 8, 8, 8, 8, 8, 8, 8, 8, 8, 8, 8, 8, 8, 8, 8, 8, 8, 8, 8, 8, 8, 8, 8, 8, 8, 8, 8, 8, 8, 8, 8, 8, 8, 8, 8, 8, 8, 8, 8, 8, 8, 8, 8, 8, 8, 8, 8, 8, 8, 8, 8, 8, 8, 8, 8, 8, 8, 8, 8, 8, 8, 8, 8, 8, 8, 8, 8, 8, 8, 8, 8]⟩)) (zT 21)⟩,
 zO 23 (.conv .i64 (zT 22)),
 zO 24 (.bin .add (zT 19) (zT 23)),
 zM 2 24]
 .ret)))))
def g80 : Fn := ⟨1, 25, [.tmp 2], b80⟩
def b81 : AC :=
 (zA [zO 2 (.mov zF)]
 (zA [zM 3 0,
 zM 4 0,
 zO 5 (.bin .neq (zT 3) (zT 4)),
 zM 2 5]
 .ret))
def g81 : Fn := ⟨1, 6, [.tmp 2], b81⟩
def b84 : AC :=
 (zA [zM 12 1,
 zM 10 12]
 (.block 0 (.loop (.block 1 (zA [zM 13 10,
 zO 14 (.bin .mul (zI 2) (zT 13)),
 zJ 15 14 1,
 zM 11 15]
 (.seq (zA [zM 16 11,
 zM 17 2,
 zO 18 (.bin .geq (zT 16) (zT 17))]
 (.cond (zT 18)
 (.exit 0)
 .skip))
 (.seq (.seq (.regd [⟨[zB 19 11,
 zP (zJ 20 19 1),
 zB 21 2], 0, [zO 22 (.bin .lss (zT 20) (zT 21)),
 zM 23 22]⟩,
 ⟨[zP (zG 24 23 true (.mov (zT 4))),
 zP (zG 25 23 true (.mov (zT 0))),
 zP (zG 26 23 true (.mov (zT 3))),
 zP (zG 27 23 true (.mov (zT 11))),
 zP (zG 28 23 true (.bin .add (zT 26) (zT 27))),
 zP (zG 29 23 true (.iaddr 2 (zT 25) (zT 28))),
 zQ (zG 30 23 true (.load true 2 (zT 29))),
 zP (zG 31 23 true (.mov (zT 0))),
 zP (zG 32 23 true (.mov (zT 3))),
 zP (zG 33 23 true (.mov (zT 11))),
 zP (zG 34 23 true (.bin .add (zT 32) (zT 33))),
 zP (zG 35 23 true (.bin .add (zT 34) (zI 1))),
 zP (zG 36 23 true (.iaddr 2 (zT 31) (zT 35))),
 zQ (zG 37 23 true (.load true 2 (zT 36)))], 0, [zG 38 23 true (.callv (zT 24) [(zT 30), (zT 37)]),
 zG 39 23 true (.bin .lss (zT 38) (zI 0)),
 zO 40 (.pick (zT 23) (zT 39) zF)]⟩])
 (.cond (zT 40)
 (.reg [zM 41 11,
 zJ 42 41 1,
 zM 11 42])
 .skip))
 (.seq (.seq (.regd [⟨[zB 43 4,
 zB 44 0,
 zB 45 3,
 zB 46 10,
 zP (zO 47 (.bin .add (zT 45) (zT 46))),
 zP (zO 48 (.iaddr 2 (zT 44) (zT 47))),
 zQ (zE 49 2 48),
 zB 50 0,
 zB 51 3,
 zB 52 11,
 zP (zO 53 (.bin .add (zT 51) (zT 52))),
 zP (zO 54 (.iaddr 2 (zT 50) (zT 53))),
 zQ (zE 55 2 54)], 0, [zO 56 (.callv (zT 43) [(zT 49), (zT 55)]),
 zO 57 (.bin .lss (zT 56) (zI 0)),
 zO 58 (.un .not (zT 57))]⟩])
 (.cond (zT 58)
 .ret
 .skip))
 (.seq (.regd [⟨[zB 59 0,
 zB 60 3,
 zB 61 10,
 zP (zO 62 (.bin .add (zT 60) (zT 61))),
 zB 63 0,
 zB 64 3,
 zB 65 11,
 zP (zO 66 (.bin .add (zT 64) (zT 65))),
 zB 67 0,
 zB 68 3,
 zB 69 11,
 zP (zO 70 (.bin .add (zT 68) (zT 69))),
 zP (zO 71 (.iaddr 2 (zT 67) (zT 70))),
 zQ (zE 72 2 71),
 zB 73 0,
 zB 74 3,
 zB 75 10,
 zP (zO 76 (.bin .add (zT 74) (zT 75))),
 zP (zO 77 (.iaddr 2 (zT 73) (zT 76))),
 zQ (zE 78 2 77),
 zP (zO 79 (.iaddr 2 (zT 59) (zT 62))),
 ⟨zN (.store 2 (zT 79) (zT 72)), false, true, false, 0, [], none⟩], 0, [zO 80 (.iaddr 2 (zT 63) (zT 66)),
 zN (.store 2 (zT 80) (zT 78))]⟩])
 (.reg [zM 81 11,
 zM 10 81]))))))))))
def g84 : Fn := ⟨5, 82, [], b84⟩
def b85 : AC :=
 (zA [zO 2 (.mov (.con (.int .u64 0)))]
 (zA [zM 3 0,
 zO 4 (.conv .u64 (zT 3)),
 zO 5 (.call 63 [(zT 4)]),
 zO 6 (.bin .shl (.con (.int .u64 1)) (zT 5)),
 zM 2 6]
 .ret))
def g85 : Fn := ⟨1, 7, [.tmp 2], b85⟩
def b86 : AC :=
 (zA [zO 2 (.mov (.con (.int .u64 0)))]
 (.seq (.regd [⟨[zB 3 0,
 zP (zO 4 (.nilck (zT 3))),
 zQ (zL 5 4),
 zB 6 0,
 zP (zO 7 (.nilck (zT 6))),
 zQ (zL 8 7),
 zP (zO 9 (.bin .shl (zT 8) (.con (.int .u64 13))))], 0, [zO 10 (.bin .xor (zT 5) (zT 9)),
 zO 11 (.nilck (zT 3)),
 zN (.store 1 (zT 11) (zT 10))]⟩])
 (.seq (.regd [⟨[zB 12 0,
 zP (zO 13 (.nilck (zT 12))),
 zQ (zL 14 13),
 zB 15 0,
 zP (zO 16 (.nilck (zT 15))),
 zQ (zL 17 16),
 zP (zO 18 (.bin .shr (zT 17) (.con (.int .u64 7))))], 0, [zO 19 (.bin .xor (zT 14) (zT 18)),
 zO 20 (.nilck (zT 12)),
 zN (.store 1 (zT 20) (zT 19))]⟩])
 (.seq (.regd [⟨[zB 21 0,
 zP (zO 22 (.nilck (zT 21))),
 zQ (zL 23 22),
 zB 24 0,
 zP (zO 25 (.nilck (zT 24))),
 zQ (zL 26 25),
 zP (zO 27 (.bin .shl (zT 26) (.con (.int .u64 17))))], 0, [zO 28 (.bin .xor (zT 23) (zT 27)),
 zO 29 (.nilck (zT 21)),
 zN (.store 1 (zT 29) (zT 28))]⟩])
 (zA [zM 30 0,
 zO 31 (.nilck (zT 30)),
 zL 32 31,
 zM 2 32]
 .ret)))))
def g86 : Fn := ⟨1, 33, [.tmp 2], b86⟩
def b87 : AC :=
 (zA [zC 8 0]
 (zA [zM 9 0,
 zM 10 1,
 zO 11 (.bin .sub (zT 10) (zI 1)),
 zM 12 1,
 zM 13 1,
 zJ 14 13 1,
 zM 15 2,
 zM 16 3,
 zO 17 (.call 88 [(zT 9), (zT 11), (zT 12), (zT 14), (zT 15), (zT 16)]),
 zM 8 17]
 .ret))
def g87 : Fn := ⟨4, 18, [.tmp 8], b87⟩
def b88 : AC :=
 (zA [zC 12 0]
 (zA [zM 14 0,
 zM 15 1,
 zM 16 2,
 zM 17 4,
 zM 18 5,
 zO 19 (.call 90 [(zT 14), (zT 15), (zT 16), (zT 17), (zT 18)]),
 zM 13 19,
 zO 20 (.ext (zT 13) 0),
 zO 21 (.ext (zT 13) 1),
 zM 1 20,
 zM 2 21]
 (zA [zM 23 0,
 zM 24 2,
 zM 25 3,
 zM 26 4,
 zM 27 5,
 zO 28 (.call 90 [(zT 23), (zT 24), (zT 25), (zT 26), (zT 27)]),
 zM 22 28,
 zO 29 (.ext (zT 22) 0),
 zO 30 (.ext (zT 22) 1),
 zM 2 29,
 zM 3 30]
 (zA [zM 32 0,
 zM 33 1,
 zM 34 2,
 zM 35 4,
 zM 36 5,
 zO 37 (.call 90 [(zT 32), (zT 33), (zT 34), (zT 35), (zT 36)]),
 zM 31 37,
 zO 38 (.ext (zT 31) 0),
 zO 39 (.ext (zT 31) 1),
 zM 1 38,
 zM 2 39]
 (zA [zM 40 2,
 zM 12 40]
 .ret)))))
def g88 : Fn := ⟨6, 41, [.tmp 12], b88⟩
def b90 : AC :=
 (zA [zC 10 0,
 zC 11 0]
 (.seq (.seq (.regd [⟨[zB 12 4,
 zB 13 0,
 zB 14 2,
 zP (zO 15 (.iaddr 2 (zT 13) (zT 14))),
 zQ (zE 16 2 15),
 zB 17 0,
 zB 18 1,
 zP (zO 19 (.iaddr 2 (zT 17) (zT 18))),
 zQ (zE 20 2 19)], 0, [zO 21 (.callv (zT 12) [(zT 16), (zT 20)]),
 zO 22 (.bin .lss (zT 21) (zI 0))]⟩])
 (.cond (zT 22)
 (zA [zM 23 3,
 zO 24 (.nilck (zT 23)),
 zL 25 24,
 zJ 26 25 1,
 zO 27 (.nilck (zT 23)),
 zN (.store 1 (zT 27) (zT 26))]
 (zA [zM 28 2,
 zM 29 1,
 zM 10 28,
 zM 11 29]
 .ret))
 .skip))
 (zA [zM 30 1,
 zM 31 2,
 zM 10 30,
 zM 11 31]
 .ret)))
def g90 : Fn := ⟨5, 32, [.tmp 10, .tmp 11], b90⟩
def fnOf : Nat → Option Fn
 | 5 => some g5
 | 8 => some g8
 | 9 => some g9
 | 14 => some g14
 | 15 => some g15
 | 21 => some g21
 | 22 => some g22
 | 25 => some g25
 | 26 => some g26
 | 27 => some g27
 | 32 => some g32
 | 33 => some g33
 | 37 => some g37
 | 38 => some g38
 | 39 => some g39
 | 40 => some g40
 | 41 => some g41
 | 42 => some g42
 | 43 => some g43
 | 46 => some g46
 | 47 => some g47
 | 48 => some g48
 | 49 => some g49
 | 52 => some g52
 | 53 => some g53
 | 54 => some g54
 | 55 => some g55
 | 59 => some g59
 | 60 => some g60
 | 61 => some g61
 | 62 => some g62
 | 63 => some g63
 | 64 => some g64
 | 65 => some g65
 | 66 => some g66
 | 67 => some g67
 | 68 => some g68
 | 70 => some g70
 | 71 => some g71
 | 72 => some g72
 | 73 => some g73
 | 74 => some g74
 | 75 => some g75
 | 76 => some g76
 | 77 => some g77
 | 78 => some g78
 | 79 => some g79
 | 80 => some g80
 | 81 => some g81
 | 84 => some g84
 | 85 => some g85
 | 86 => some g86
 | 87 => some g87
 | 88 => some g88
 | 90 => some g90
 | _ => none
def modeOf (f : Nat) : Mode := if f ∈ [68] then .own else if f ∈ [39, 41, 62, 71, 72, 73, 75, 76, 77, 78, 84, 86, 87, 88, 90, 53, 54, 55] then .raw else .pure
def primOf : Nat → Option Prim
 | 69 => some (insP 4 48)
 | 56 => some (delP 4 48)
 | _ => none
def T : Tab := { fn := fnOf, mode := modeOf, prim := primOf }
end Go.Q.SW
end

section
/- Small functions of seat 08. -/
namespace Go.Q.SW
open Go.Q
def i32V (x : Int) : V := .int .i32 x
def okI (x : Int) : Bool := decide (-1073741823 ≤ x) && decide (x ≤ 1073741823)
theorem r59 (x : Int) : res T 59 [.int .i32 x] = some (.bool (!okI x)) := by
 refine run_res (run_pure (fn := g59) rfl rfl (by decide) ?_)
 simp only [g59, b59, zO, zN, zM, zL, zG, zP, zQ, zI, zA, zT, zF, zB, zC, zD, zE, zH, zJ, zK]
 simp +contextual -implicitDefEqProofs (maxSteps := 2000000) only [↓wP, wS, seval]
 simp only [okI, Option.some.injEq, V.bool.injEq, Bool.not_and]
 congr 1 <;> simp only [← decide_not, Int.not_le]
def f59 (x : Int) := callE_tr (by decide) (r59 x) (by simp [Tr, Tr_slV]) rfl
def idxF {α : Type} (p : α → Bool) (l : List α) : Int := match l.findIdx? p with
 | some i => i
 | none => -1
theorem r70 (o : Option (List Int)) (F : Nat) (caps : List V) (p : Int → Bool) (hl : (lst o).length < 9223372036854775808)     (hp : ∀ x fs σ n lk, callE T fs F (i32V x :: caps) σ n lk = some (.bool (p x), σ, n)) : res T 70 [slV 1 i32V o, .fn F caps] = some (.int .i64 (idxF p (lst o))) := by
 refine run_res (run_pure (fn := g70) rfl rfl (by decide) ?_)
 simp only [g70, b70, zO, zN, zM, zL, zG, zP, zQ, zI, zA, zT, zF, zB, zC, zD, zE, zH, zJ, zK]
 simp +contextual -implicitDefEqProofs (maxSteps := 2000000) only [↓wP, wS, seval]
 refine WC_for (lst o).length 0 (fun (j : Nat) env _ _ => env 0 = slV 1 i32V o ∧ env 1 = .fn F caps ∧ (lst o).findIdx? p = (((lst o).drop j).findIdx? p).map (· + j)) (by omega) (by decide) (by decide) (fun _ _ => rfl) (fun _ _ _ => rfl) ?_ ?_ _ _ _ rfl rfl ?_
 ·intro j env σ n hj h1 h2 ⟨h3, h4, h5⟩
  simp only [vl_tmp] at h2
  have hx : (lst o)[j]? = some (lst o)[j] := List.getElem?_eq_getElem hj
  have hp' := hp (lst o)[j]
  simp only [i32V] at hp'
  simp +contextual -implicitDefEqProofs (maxSteps := 2000000) only [↓wP, wS, seval, h1, h2, h3, h4, hx, i32V, hp']
  rw [List.drop_eq_getElem_cons hj, List.findIdx?_cons] at h5
  refine condC_split (fun hb => ?_) (fun hb => ?_)
  ·simp +contextual -implicitDefEqProofs (maxSteps := 2000000) only [↓wP, wS, seval]
   simp [idxF, h5, hb]
  ·simp +contextual -implicitDefEqProofs (maxSteps := 2000000) only [↓wP, wS, seval, h1, h2, h3, h4]
   rw [h5, hb]
   simp only [Bool.false_eq_true, if_false, Option.map_map, Function.comp_def]
   congr 1; funext i; omega
 ·intro env σ n ⟨h3, h4, h5⟩ h1 h2
  simp +contextual -implicitDefEqProofs (maxSteps := 2000000) only [↓wP, wS, seval]
  simp [idxF, h5]
 ·exact ⟨rfl, rfl, by simp⟩
theorem idxF_any {α : Type} (p : α → Bool) (l : List α) : decide (0 ≤ idxF p l) = l.any p := by
 unfold idxF
 cases h : l.findIdx? p with
 | none =>
   simp only [List.findIdx?_eq_none_iff] at h
   simp only [Int.reduceNeg, Int.reduceLE, decide_false]
   exact (List.any_eq_false.2 fun x hx => by simp [h x hx]).symm
 | some i =>
   simp only [List.findIdx?_eq_some_iff_getElem] at h
   obtain ⟨h, h1, -⟩ := h
   simp only [Int.natCast_nonneg, decide_true]
   exact (List.any_eq_true.2 ⟨_, List.getElem_mem h, h1⟩).symm
theorem r60 (o : Option (List Int)) (hl : (lst o).length < 9223372036854775808) : res T 60 [slV 1 i32V o, .fn 59 []] = some (.bool ((lst o).any fun x => !okI x)) := by
 refine run_res (run_pure (fn := g60) rfl rfl (by decide) ?_)
 simp only [g60, b60, zO, zN, zM, zL, zG, zP, zQ, zI, zA, zT, zF, zB, zC, zD, zE, zH, zJ, zK]
 have h := r70 o 59 [] (fun x => !okI x) hl (fun x fs σ n lk => f59 x fs σ n lk)
 have hm : T.mode 70 ≠ .raw := by decide
 simp +contextual -implicitDefEqProofs (maxSteps := 2000000) only [↓wP, wS, seval, h, callE_eq hm, idxF_any]
def f60 (o : Option (List Int)) (hl : (lst o).length < 9223372036854775808) := callE_tr (by decide) (r60 o hl) (by simp [Tr, Tr_slV]) rfl
def okV (o : Option (List Int)) : Bool := decide (0 < (lst o).length) && decide ((lst o).length ≤ 4) && (lst o).all okI
theorem r38 (o : Option (List Int)) (hl : (lst o).length < 9223372036854775808) : res T 38 [slV 1 i32V o] = some (.int .i64 (if okV o then 0 else 150)) := by
 refine run_res (run_pure (fn := g38) rfl rfl (by decide) ?_)
 simp only [g38, b38, zO, zN, zM, zL, zG, zP, zQ, zI, zA, zT, zF, zB, zC, zD, zE, zH, zJ, zK]
 have h := f60 o hl
 simp +contextual -implicitDefEqProofs (maxSteps := 2000000) only [↓wP, wS, seval, h]
 have hk : (decide (((lst o).length : Int) < 1) || decide (4 < ((lst o).length : Int)) || (lst o).any fun x => !okI x) = !okV o := by
  unfold okV
  rw [Bool.not_and, Bool.not_and, List.not_all_eq_any_not, ← decide_not, ← decide_not]
  congr 2 <;> exact decide_eq_decide.2 (by omega)
 rw [hk]
 cases hb : okV o <;> simp +contextual -implicitDefEqProofs (maxSteps := 2000000) only [↓wP, wS, seval]
def f38 (o : Option (List Int)) (hl : (lst o).length < 9223372036854775808) := callE_tr (by decide) (r38 o hl) (by simp [Tr, Tr_slV]) rfl
end Go.Q.SW
end

section
/- More functions of seat 08: equality, what may be, last traces. -/
namespace Go.Q.SW
open Go.Q
theorem eq_drop {α : Type} [BEq α] {a b : List α} {j : Nat} (ha : j < a.length) (hb : j < b.length) : (a.drop j == b.drop j) = (a[j] == b[j] && a.drop (j + 1) == b.drop (j + 1)) := by
 rw [List.drop_eq_getElem_cons ha, List.drop_eq_getElem_cons hb]
 rfl
theorem eq_len {α : Type} [BEq α] : ∀ {a b : List α}, a.length ≠ b.length → (a == b) = false
 | [], [], h => absurd rfl h
 | [], _ :: _, _ => rfl
 | _ :: _, [], _ => rfl
 | x :: a, y :: b, h => by
   show (x == y && a == b) = false
   rw [eq_len (a := a) (b := b) (by simpa using h)]
   simp
theorem r67 (a b : Option (List Int)) (ha : (lst a).length < 9223372036854775808) : res T 67 [slV 1 i32V a, slV 1 i32V b] = some (.bool (lst a == lst b)) := by
 refine run_res (run_pure (fn := g67) rfl rfl (by decide) ?_)
 simp only [g67, b67, zO, zN, zM, zL, zG, zP, zQ, zI, zA, zT, zF, zB, zC, zD, zE, zH, zJ, zK]
 simp +contextual -implicitDefEqProofs (maxSteps := 2000000) only [↓wP, wS, seval]
 by_cases hl : (lst a).length = (lst b).length
 ·have hd : (((lst a).length : Int) != ((lst b).length : Int)) = false := by simp [hl]
  simp +contextual -implicitDefEqProofs (maxSteps := 2000000) only [↓wP, wS, seval, hd]
  refine WC_for (lst a).length 0 (fun (j : Nat) env _ _ => env 0 = slV 1 i32V a ∧ env 1 = slV 1 i32V b ∧ (lst a == lst b) = ((lst a).drop j == (lst b).drop j)) (by omega) (by decide) (by decide) (fun _ _ => rfl) (fun _ _ _ => rfl) ?_ ?_ _ _ _ rfl rfl ?_
  ·intro j env σ n hj h1 h2 ⟨h3, h4, h5⟩
   simp only [vl_tmp] at h2
   have hjb : j < (lst b).length := by omega
   have hx : (lst a)[j]? = some (lst a)[j] := List.getElem?_eq_getElem hj
   have hy : (lst b)[j]? = some (lst b)[j] := List.getElem?_eq_getElem hjb
   rw [eq_drop hj hjb] at h5
   simp +contextual -implicitDefEqProofs (maxSteps := 2000000) only [↓wP, wS, seval, h1, h2, h3, h4, hx, hy, i32V]
   refine condC_split (fun hb => ?_) (fun hb => ?_)
   ·have e1 : ((lst a)[j] == (lst b)[j]) = false := by simpa using hb
    rw [e1, Bool.false_and] at h5
    simp +contextual -implicitDefEqProofs (maxSteps := 2000000) only [↓wP, wS, seval, h5]
   ·have e1 : ((lst a)[j] == (lst b)[j]) = true := by simpa using hb
    rw [e1, Bool.true_and] at h5
    simp +contextual -implicitDefEqProofs (maxSteps := 2000000) only [↓wP, wS, seval, h1, h2, h3, h4, h5]
  ·intro env σ n ⟨h3, h4, h5⟩ h1 h2
   have e : (lst b).drop (lst a).length = [] := by rw [hl, List.drop_length]
   rw [List.drop_length, e] at h5
   simp +contextual -implicitDefEqProofs (maxSteps := 2000000) only [↓wP, wS, seval, h5]
  ·exact ⟨rfl, rfl, by simp⟩
 ·have hd : (((lst a).length : Int) != ((lst b).length : Int)) = true := by simp; omega
  have h5 := eq_len (a := lst a) (b := lst b) hl
  simp +contextual -implicitDefEqProofs (maxSteps := 2000000) only [↓wP, wS, seval, hd, h5]
def f67 (a b : Option (List Int)) (ha : (lst a).length < 9223372036854775808) := callE_tr (by decide) (r67 a b ha) (by simp [Tr, Tr_slV]) rfl
theorem r48 (a b : Option (List Int)) (ha : (lst a).length < 9223372036854775808) : res T 48 [slV 1 i32V a, slV 1 i32V b] = some (.bool (lst a == lst b)) := by
 refine run_res (run_pure (fn := g48) rfl rfl (by decide) ?_)
 simp only [g48, b48, zO, zN, zM, zL, zG, zP, zQ, zI, zA, zT, zF, zB, zC, zD, zE, zH, zJ, zK]
 have h := f67 a b ha
 simp +contextual -implicitDefEqProofs (maxSteps := 2000000) only [↓wP, wS, seval, h]
def f48 (a b : Option (List Int)) (ha : (lst a).length < 9223372036854775808) := callE_tr (by decide) (r48 a b ha) (by simp [Tr, Tr_slV]) rfl
end Go.Q.SW
end

section
/- Vectors: which are the same; the law's own copies. -/
namespace Go.Q.SW
open Go.Q
abbrev Vc := Option (List Int)
def Sm (v : Vc) : Prop := (lst v).length < 4611686018427387904
theorem r27 (v : Vc) (hv : Sm v) : res T 27 [slV 1 i32V v] = some (slV 1 i32V (some ((lst v).take 5))) := by
 refine run_res (run_pure (fn := g27) rfl rfl (by decide) ?_)
 simp only [g27, b27, zO, zN, zM, zL, zG, zP, zQ, zI, zA, zT, zF, zB, zC, zD, zE, zH, zJ, zK]
 obtain ⟨N, hN⟩ : ∃ N, N = min (lst v).length 5 := ⟨_, rfl⟩
 have hmin : (if (5 : Int) < ((lst v).length : Int) then (5 : Int) else ((lst v).length : Int)) = (N : Int) := by split <;> omega
 unfold Sm at hv
 have hNl : N ≤ (lst v).length := by omega
 have hs : lst (sub v 0 N) = (lst v).take 5 := by
  rw [show (lst v).take 5 = (lst v).take N by rw [hN]; exact (List.take_eq_take_min).trans (by rw [Nat.min_comm])]
  cases v <;> simp [sub, lst]
 have hl5 : ((lst v).take 5).length ≤ 5 := by rw [List.length_take]; omega
 have hL : (((lst v).take 5).map i32V).length * 4 ≤ LIM := by rw [List.length_map]; unfold LIM; omega
 generalize (lst v).take 5 = L at *
 simp +contextual -implicitDefEqProofs (maxSteps := 2000000) only [↓wP, wS, seval, hmin, hNl, hs, hL, true_or]
 have e1 : elems (upd (upd (upd Sto.empty 0 (some (Ob.row 1 []))) 0 none) 1 (some (Ob.row 1 (L.map i32V)))) 1 (.ref 1 0 (L.map i32V).length 1) = some (L.map i32V) := by simp [elems, upd]; exact List.take_of_length_le (by simp)
 show (elems _ _ _).bind _ = _
 rw [e1, Option.bind_some, mapM_id (fun x hx => by obtain ⟨y, -, rfl⟩ := List.mem_map.1 hx; rfl)]
 rfl
def cut (v : Vc) : Vc := some ((lst v).take 5)
theorem f27 (v : Vc) (hv : Sm v) (fs : Bool) (σ : Sto) (n lk : Nat) : callE T fs 27 [slV 1 i32V v] σ n lk = some (slV 1 i32V (cut v), σ, n) :=
 callE_tr (by decide) (r27 v hv) (by simp [Tr, Tr_slV]) (Nw_slV _ _ _ _) fs σ n lk
theorem spl {σ : Sto} {m n sz : Nat} {v : V} {o : Option (List V)} (h : Pl σ m n sz v o) (c : V) : spliceC v 0 [c] = c := by
 cases o with
 | none => simp only [Pl] at h; subst h; rfl
 | some xs => obtain ⟨j, rfl, -⟩ := h; rfl
end Go.Q.SW
end

section
/- Facts: plain laws. -/
namespace Go.Q.SW
open Go.Q
structure Wr where
 c : Int
 id : Int
 g : Bool
 v : Option (List Int)
structure Fa where
 ts : Int
 w : Wr
def wrV (w : Wr) : V := .agg [.int .i64 w.c, .int .u64 w.id, .bool w.g, slV 1 i32V w.v]
def faV (f : Fa) : V := .agg [.int .u64 f.ts, .int .i64 f.w.c, .int .u64 f.w.id, .bool f.w.g, slV 1 i32V f.w.v]
theorem wrV_eq (w : Wr) : wrV w = .agg [.int .i64 w.c, .int .u64 w.id, .bool w.g, slV 1 i32V w.v] := rfl
def okW (w : Wr) : Bool := decide (0 ≤ w.c ∧ w.c < 3) && (if w.g then decide ((lst w.v).length = 0) else okV w.v)
def bef (a b : Wr) : Bool := decide (a.c < b.c) || (a.c == b.c && decide (a.id < b.id))
def okN (l : List Wr) (n : Nat) (w : Wr) : Bool := okW w && (match n with | 0 => true | j + 1 => match l[j]? with | some p => bef p w | none => true)
def wU (l : List Wr) : Nat → Bool
 | 0 => true
 | n + 1 => wU l n && (match l[n]? with | some w => okN l n w | none => true)
def rightW (l : List Wr) : Bool := decide (l.length ≤ 12) && wU l l.length
theorem wU_step {l : List Wr} {n : Nat} (hn : n < l.length) : wU l (n + 1) = (wU l n && okN l n l[n]) := by
 show (wU l n && _) = _
 rw [List.getElem?_eq_getElem hn]
abbrev Ky := Int × Int
def key (w : Wr) : Ky := (w.c, w.id)
theorem bef_trans {a b c : Wr} (h : bef a b = true) (h' : bef b c = true) : bef a c = true := by
 unfold bef at *
 simp only [Bool.or_eq_true, Bool.and_eq_true, decide_eq_true_eq, beq_iff_eq] at *
 omega
structure Rw where
 id : Int
 v : Option (List Int)
def rwV (r : Rw) : V := .agg [.int .u64 r.id, slV 1 i32V r.v]
theorem rwV_eq (r : Rw) : rwV r = .agg [.int .u64 r.id, slV 1 i32V r.v] := rfl
def Asc (R : List Rw) : Prop := R.Pairwise fun a b => a.id < b.id
def insR (r : Rw) : List Rw → List Rw
 | [] => [r]
 | x :: s => if r.id < x.id then r :: x :: s else x :: insR r s
def delR (R : List Rw) (id : Int) : List Rw := R.filter fun r => decide (r.id ≠ id)
def putR (R : List Rw) (r : Rw) : List Rw := insR r (delR R r.id)
theorem mem_insR (r x : Rw) : ∀ s, x ∈ insR r s ↔ x = r ∨ x ∈ s
 | [] => by simp [insR]
 | y :: s => by
   unfold insR
   split
   ·simp
   ·simp only [List.mem_cons, mem_insR r x s]
    constructor
    ·rintro (h | h | h) <;> simp [h]
    ·rintro (h | h | h) <;> simp [h]
theorem asc_insR (r : Rw) : ∀ {s : List Rw}, Asc s → (∀ x ∈ s, x.id ≠ r.id) → Asc (insR r s)
 | [], _, _ => List.pairwise_singleton _ _
 | y :: s, h, hn => by
   obtain ⟨h1, h2⟩ := List.pairwise_cons.1 h
   unfold insR
   split
   ·rename_i hlt
    exact List.pairwise_cons.2 ⟨fun z hz => by
     rcases List.mem_cons.1 hz with rfl | hz
     ·exact hlt
     ·have := h1 z hz; omega, h⟩
   ·rename_i hlt
    refine List.pairwise_cons.2 ⟨fun z hz => ?_, asc_insR r h2 (fun x hx => hn x (List.mem_cons_of_mem _ hx))⟩
    rcases (mem_insR r z s).1 hz with rfl | hz
    ·have := hn y (List.mem_cons_self); omega
    ·exact h1 z hz
theorem asc_delR {R : List Rw} (h : Asc R) (id : Int) : Asc (delR R id) := List.Pairwise.sublist List.filter_sublist h
theorem mem_delR {R : List Rw} {id : Int} {x : Rw} : x ∈ delR R id ↔ x ∈ R ∧ x.id ≠ id := by simp [delR]
theorem asc_putR {R : List Rw} (h : Asc R) (r : Rw) : Asc (putR R r) := asc_insR r (asc_delR h _) (fun x hx => (mem_delR.1 hx).2)
theorem mem_putR {R : List Rw} {r x : Rw} : x ∈ putR R r ↔ x = r ∨ (x ∈ R ∧ x.id ≠ r.id) := by
 unfold putR
 rw [mem_insR, mem_delR]
theorem asc_uniq : ∀ {R S : List Rw}, Asc R → Asc S → (∀ x, x ∈ R ↔ x ∈ S) → R = S
 | [], [], _, _, _ => rfl
 | [], y :: S, _, _, h => by have := (h y).2 List.mem_cons_self; simp at this
 | x :: R, [], _, _, h => by have := (h x).1 List.mem_cons_self; simp at this
 | x :: R, y :: S, hR, hS, h => by
   obtain ⟨r1, r2⟩ := List.pairwise_cons.1 hR
   obtain ⟨s1, s2⟩ := List.pairwise_cons.1 hS
   have e : x = y := by
    rcases List.mem_cons.1 ((h x).1 List.mem_cons_self) with e | e
    ·exact e
    ·rcases List.mem_cons.1 ((h y).2 List.mem_cons_self) with e' | e'
     ·exact e'.symm
     ·have := s1 x e; have := r1 y e'; omega
   subst e
   rw [asc_uniq r2 s2 (fun z => ?_)]
   constructor
   ·intro hz
    rcases List.mem_cons.1 ((h z).1 (List.mem_cons_of_mem _ hz)) with e | e
    ·subst e; have := r1 z hz; omega
    ·exact e
   ·intro hz
    rcases List.mem_cons.1 ((h z).2 (List.mem_cons_of_mem _ hz)) with e | e
    ·subst e; have := s1 z hz; omega
    ·exact e
def RM (R : List Rw) (L : List (En Int (Option (List Int)))) : Prop := Asc R ∧ ∀ id v, (⟨id, v⟩ : Rw) ∈ R ↔ vw L id = some v
end Go.Q.SW
end

section
/- Writes: which may be. -/
namespace Go.Q.SW
open Go.Q
open Nat renaming reduceEqDiff → n1w, reduceAdd → n2w, reduceSub → n3w, reduceLeDiff → n4w, reduceLT → n5w, reduceMul → n6w
open Int renaming reduceBNe → i1w, reduceBEq → i2w, reduceLT → i3w, reduceLE → i4w, reduceGT → i5w
@[simp] theorem Tr_wrV (w : Wr) (k : Nat) : Tr (k + 2) (wrV w) = true := by simp [wrV, Tr, Tr_slV]
@[simp] theorem Tr_faV (f : Fa) (k : Nat) : Tr (k + 2) (faV f) = true := by simp [faV, Tr, Tr_slV]
def cmpU (x y : Int) : Int := if x < y then -1 else if y < x then 1 else 0
theorem r64 (x : Int) : res T 64 [.int .u64 x] = some (.bool false) := by
 refine run_res (run_pure (fn := g64) rfl rfl (by decide) ?_)
 simp only [g64, b64, zO, zN, zM, zL, zG, zP, zQ, zI, zA, zT, zF, zB, zC, zD, zE, zH, zJ, zK]
 simp +contextual -implicitDefEqProofs (maxSteps := 2000000) only [↓wP, wS, seval]
def f64 (x : Int) := callE_tr (by decide) (r64 x) (by simp [Tr, Tr_slV]) rfl
theorem r43 (x y : Int) : res T 43 [.int .u64 x, .int .u64 y] = some (.int .i64 (cmpU x y)) := by
 refine run_res (run_pure (fn := g43) rfl rfl (by decide) ?_)
 simp only [g43, b43, zO, zN, zM, zL, zG, zP, zQ, zI, zA, zT, zF, zB, zC, zD, zE, zH, zJ, zK]
 simp +contextual -implicitDefEqProofs (maxSteps := 2000000) only [↓wP, wS, seval, f64]
 unfold cmpU
 by_cases h1 : x < y
 ·simp +contextual -implicitDefEqProofs (maxSteps := 2000000) only [↓wP, wS, seval, h1]
 ·by_cases h2 : y < x
  ·simp +contextual -implicitDefEqProofs (maxSteps := 2000000) only [↓wP, wS, seval, h1, h2]
  ·simp +contextual -implicitDefEqProofs (maxSteps := 2000000) only [↓wP, wS, seval, h1, h2]
def f43 (x y : Int) := callE_tr (by decide) (r43 x y) (by simp [Tr, Tr_slV]) rfl
theorem r81 (x : Int) : res T 81 [.int .i64 x] = some (.bool false) := by
 refine run_res (run_pure (fn := g81) rfl rfl (by decide) ?_)
 simp only [g81, b81, zO, zN, zM, zL, zG, zP, zQ, zI, zA, zT, zF, zB, zC, zD, zE, zH, zJ, zK]
 simp +contextual -implicitDefEqProofs (maxSteps := 2000000) only [↓wP, wS, seval]
def f81 (x : Int) := callE_tr (by decide) (r81 x) (by simp [Tr, Tr_slV]) rfl
theorem r66 (x y : Int) : res T 66 [.int .i64 x, .int .i64 y] = some (.int .i64 (cmpU x y)) := by
 refine run_res (run_pure (fn := g66) rfl rfl (by decide) ?_)
 simp only [g66, b66, zO, zN, zM, zL, zG, zP, zQ, zI, zA, zT, zF, zB, zC, zD, zE, zH, zJ, zK]
 simp +contextual -implicitDefEqProofs (maxSteps := 2000000) only [↓wP, wS, seval, f81]
 unfold cmpU
 by_cases h1 : x < y
 ·simp +contextual -implicitDefEqProofs (maxSteps := 2000000) only [↓wP, wS, seval, h1]
 ·by_cases h2 : y < x
  ·simp +contextual -implicitDefEqProofs (maxSteps := 2000000) only [↓wP, wS, seval, h1, h2]
  ·simp +contextual -implicitDefEqProofs (maxSteps := 2000000) only [↓wP, wS, seval, h1, h2]
def f66 (x y : Int) := callE_tr (by decide) (r66 x y) (by simp [Tr, Tr_slV]) rfl
theorem r65 (a b : Int) : res T 65 [.sl 1 [.int .i64 a, .int .i64 b]] = some (.int .i64 (if a = 0 then b else a)) := by
 refine run_res (run_pure (fn := g65) rfl rfl (by decide) ?_)
 simp only [g65, b65, zO, zN, zM, zL, zG, zP, zQ, zI, zA, zT, zF, zB, zC, zD, zE, zH, zJ, zK]
 simp +contextual -implicitDefEqProofs (maxSteps := 2000000) only [↓wP, wQ, wQ1, wQ2, wQ3, wR, boxE, partsOf, ↓reduceIte, n1w, n2w, n3w, n4w, n5w, n6w, reduceCtorEq, i1w, i2w, i3w, i4w, i5w]
 refine WC_for 2 0 (fun (j : Nat) env σ n => env 3 = .int .i64 0 ∧ env 6 = .sl 1 [.int .i64 a, .int .i64 b] ∧ (0 < j → a = 0) ∧ (1 < j → b = 0)) (by omega) (by decide) (by decide) (fun _ _ => rfl) (fun _ _ _ => rfl) ?_ ?_ _ _ _ rfl rfl ?_
 ·intro j env σ n hj h1 h2 ⟨h3, h4, h5, h6⟩
  simp only [vl_tmp] at h2
  match j, hj with
  | 0, _ =>
    by_cases ha : a = 0
    ·have hd : (a != 0) = false := by simp [ha]
     simp +contextual -implicitDefEqProofs (maxSteps := 2000000) only [↓wP, wQ, wQ1, wQ2, wQ3, wR, boxE, partsOf, ↓reduceIte, n1w, n2w, n3w, n4w, n5w, n6w, reduceCtorEq, i1w, i2w, i3w, i4w, i5w, h1, h2, h3, h4, hd]
     exact ⟨fun _ => ha, fun h => h.elim⟩
    ·have hd : (a != 0) = true := by simp [ha]
     simp +contextual -implicitDefEqProofs (maxSteps := 2000000) only [↓wP, wQ, wQ1, wQ2, wQ3, wR, boxE, partsOf, ↓reduceIte, n1w, n2w, n3w, n4w, n5w, n6w, reduceCtorEq, i1w, i2w, i3w, i4w, i5w, h1, h2, h3, h4, hd, ha]
  | 1, _ =>
    have ha := h5 (by omega)
    by_cases hb : b = 0
    ·have hd : (b != 0) = false := by simp [hb]
     simp +contextual -implicitDefEqProofs (maxSteps := 2000000) only [↓wP, wQ, wQ1, wQ2, wQ3, wR, boxE, partsOf, ↓reduceIte, n1w, n2w, n3w, n4w, n5w, n6w, reduceCtorEq, i1w, i2w, i3w, i4w, i5w, h1, h2, h3, h4, hd]
     exact ⟨fun _ => ha, fun _ => hb⟩
    ·have hd : (b != 0) = true := by simp [hb]
     simp +contextual -implicitDefEqProofs (maxSteps := 2000000) only [↓wP, wQ, wQ1, wQ2, wQ3, wR, boxE, partsOf, ↓reduceIte, n1w, n2w, n3w, n4w, n5w, n6w, reduceCtorEq, i1w, i2w, i3w, i4w, i5w, h1, h2, h3, h4, hd, ha]
 ·intro env σ n ⟨h3, h4, h5, h6⟩ h1 h2
  have ha : a = 0 := h5 (by decide)
  have hb : b = 0 := h6 (by decide)
  simp +contextual -implicitDefEqProofs (maxSteps := 2000000) only [↓wP, wQ, wQ1, wQ2, wQ3, wR, boxE, partsOf, ↓reduceIte, n1w, n2w, n3w, n4w, n5w, n6w, reduceCtorEq, i1w, i2w, i3w, i4w, i5w, h3, ha, hb]
 ·simp +contextual -implicitDefEqProofs (maxSteps := 2000000) only [↓wP, wQ, wQ1, wQ2, wQ3, wR, boxE, partsOf, ↓reduceIte, n1w, n2w, n3w, n4w, n5w, n6w, reduceCtorEq, i1w, i2w, i3w, i4w, i5w]
  exact ⟨fun h => absurd h (by decide), fun h => absurd h (by decide)⟩
def f65 (a b : Int) := callE_tr (by decide) (r65 a b) (by simp [Tr, Tr_slV]) rfl
def collB (c : Int) : Bool := decide (0 ≤ c) && decide (c < 3)
theorem okW_eq (w : Wr) : okW w = (collB w.c && (if w.g then decide ((lst w.v).length = 0) else okV w.v)) := by
 unfold okW collB
 congr 1
 by_cases h1 : 0 ≤ w.c <;> by_cases h2 : w.c < 3 <;> simp [h1, h2]
theorem r37 (c : Int) : res T 37 [.int .i64 c] = some (.bool (collB c)) := by
 refine run_res (run_pure (fn := g37) rfl rfl (by decide) ?_)
 simp only [g37, b37, zO, zN, zM, zL, zG, zP, zQ, zI, zA, zT, zF, zB, zC, zD, zE, zH, zJ, zK]
 unfold collB
 by_cases h1 : 0 ≤ c
 ·simp +contextual -implicitDefEqProofs (maxSteps := 2000000) only [↓wP, wS, seval, h1]
 ·simp +contextual -implicitDefEqProofs (maxSteps := 2000000) only [↓wP, wS, seval, h1]
def f37 (c : Int) := callE_tr (by decide) (r37 c) (by simp [Tr, Tr_slV]) rfl
theorem r46 (w : Wr) (hw : Sm w.v) : res T 46 [wrV w] = some (.bool (okW w)) := by
 refine run_res (run_pure (fn := g46) rfl rfl (by decide) ?_)
 simp only [g46, b46, zO, zN, zM, zL, zG, zP, zQ, zI, zA, zT, zF, zB, zC, zD, zE, zH, zJ, zK]
 have f1 := f37 w.c
 have f2 := f38 w.v (by unfold Sm at hw; omega)
 rw [okW_eq]
 obtain ⟨c, id, g, v⟩ := w
 simp only at *
 cases hc : collB c
 ·rw [hc] at f1
  simp +contextual -implicitDefEqProofs (maxSteps := 2000000) only [↓wP, wS, seval, wrV_eq, f1]
 ·rw [hc] at f1
  cases g
  ·cases ho : okV v
   ·rw [ho] at f2
    simp +contextual -implicitDefEqProofs (maxSteps := 2000000) only [↓wP, wS, seval, wrV_eq, f1, f2]
   ·rw [ho] at f2
    simp +contextual -implicitDefEqProofs (maxSteps := 2000000) only [↓wP, wS, seval, wrV_eq, f1, f2]
  ·by_cases hl : (lst v).length = 0
   ·have hl' : (((lst v).length : Int) == 0) = true := by simp [hl]
    simp +contextual -implicitDefEqProofs (maxSteps := 2000000) only [↓wP, wS, seval, wrV_eq, f1, f2, hl']
    simp [hl]
   ·have hl' : (((lst v).length : Int) == 0) = false := by simp; exact fun h => hl (by rw [h]; rfl)
    simp +contextual -implicitDefEqProofs (maxSteps := 2000000) only [↓wP, wS, seval, wrV_eq, f1, f2, hl']
    simp [hl]
def f46 (w : Wr) (hw : Sm w.v) := callE_tr (by decide) (r46 w hw) (by simp [Tr, Tr_slV]) rfl
def cmpW (a b : Wr) : Int := if cmpU a.c b.c = 0 then cmpU a.id b.id else cmpU a.c b.c
theorem cmpW_lt (a b : Wr) : decide (cmpW a b < 0) = bef a b := by
 unfold cmpW cmpU bef
 by_cases h1 : a.c < b.c
 ·simp [h1]
 ·by_cases h2 : b.c < a.c
  ·have : a.c ≠ b.c := by omega
   simp [h1, h2, this]
  ·have e : a.c = b.c := by omega
   by_cases h3 : a.id < b.id
   ·simp [e, h3]
   ·by_cases h4 : b.id < a.id <;> simp [e, h3, h4]
theorem r47 (a b : Wr) : res T 47 [wrV a, wrV b] = some (.int .i64 (cmpW a b)) := by
 refine run_res (run_pure (fn := g47) rfl rfl (by decide) ?_)
 simp only [g47, b47, zO, zN, zM, zL, zG, zP, zQ, zI, zA, zT, zF, zB, zC, zD, zE, zH, zJ, zK]
 have h26 := r65 (cmpU a.c b.c) (cmpU a.id b.id)
 have hm26 : T.mode 65 ≠ .raw := by decide
 simp +contextual -implicitDefEqProofs (maxSteps := 2000000) only [↓wP, wS, seval, wrV_eq, f43, f66, callE_eq hm26, frz_rf, h26]
 rfl
def f47 (a b : Wr) := callE_tr (by decide) (r47 a b) (by simp [Tr, Tr_slV]) rfl
def SmW (l : Option (List Wr)) : Prop := (lst l).length < 4611686018427387904 ∧ ∀ w ∈ lst l, Sm w.v
end Go.Q.SW
end

section
/- Writes: both checks; keys and times of facts. -/
namespace Go.Q.SW
open Go.Q
theorem r25 (o : Option (List Wr)) (h : SmW o) : res T 25 [slV 4 wrV o] = some (.int .i64 (if rightW (lst o) then 0 else 260)) := by
 refine run_res (run_pure (fn := g25) rfl rfl (by decide) ?_)
 simp only [g25, b25, zO, zN, zM, zL, zG, zP, zQ, zI, zA, zT, zF, zB, zC, zD, zE, zH, zJ, zK]
 have hl := h.1
 obtain ⟨A, hA⟩ : ∃ A, A = decide ((lst o).length ≤ 12) := ⟨_, rfl⟩
 have hA' : decide (((lst o).length : Int) ≤ 12) = A := by rw [hA]; exact decide_eq_decide.2 (by omega)
 simp +contextual -implicitDefEqProofs (maxSteps := 2000000) only [↓wP, wS, seval, hA']
 refine WC_for (lst o).length 0 (fun (j : Nat) env σ n => env 0 = slV 4 wrV o ∧ env 9 = slV 4 wrV o ∧ env 3 = .bool (A && wU (lst o) j)) (by omega) (by decide) (by decide) (fun _ _ => rfl) (fun _ _ _ => rfl) ?_ ?_ _ _ _ rfl rfl ?_
 ·intro j env σ n hj h1 h2 ⟨g1, g2, g3⟩
  simp only [vl_tmp] at h2
  have hx : (lst o)[j]? = some (lst o)[j] := List.getElem?_eq_getElem hj
  have hw := h.2 _ (List.getElem_mem hj)
  have hst := wU_step hj
  obtain ⟨w, hwx⟩ : ∃ w, w = (lst o)[j] := ⟨_, rfl⟩
  rw [← hwx] at hx hw hst
  have f := f46 w hw
  rw [wrV_eq] at f
  have y0 : ∀ σ' : Sto, ∀ hid, hide σ' (n + 1) (n + 1) hid n = σ' n := fun σ' hid => hide_low _ _ _ _ (by omega) (Nat.le_refl _)
  cases hB : (A && wU (lst o) j)
  ·rw [hB] at g3
   have e : (A && wU (lst o) (j + 1)) = false := by rw [hst, ← Bool.and_assoc, hB]; rfl
   simp +contextual -implicitDefEqProofs (maxSteps := 2000000) only [↓wP, wS, seval, h1, h2, g1, g2, g3, hx, wrV_eq]
   rw [e]
  ·rw [hB] at g3
   have e : (A && wU (lst o) (j + 1)) = okN (lst o) j w := by rw [hst, ← Bool.and_assoc, hB, Bool.true_and]
   rw [e]
   cases ho : okW w
   ·rw [ho] at f
    have e2 : okN (lst o) j w = false := by unfold okN; rw [ho]; rfl
    simp +contextual -implicitDefEqProofs (maxSteps := 2000000) only [↓wP, wS, seval, h1, h2, g1, g2, g3, hx, wrV_eq, f]
    rw [e2]
   ·rw [ho] at f
    by_cases hj0 : j = 0
    ·have hz : ((j : Int) == 0) = true := by simp [hj0]
     have e2 : okN (lst o) j w = true := by subst hj0; unfold okN; rw [ho]; rfl
     simp +contextual -implicitDefEqProofs (maxSteps := 2000000) only [↓wP, wS, seval, h1, h2, g1, g2, g3, hx, wrV_eq, f, hz]
     rw [e2]
    ·have hz : ((j : Int) == 0) = false := by simp [hj0]
     have wj : IntKind.i64.wrap ((j : Int) - 1) = ((j - 1 : Nat) : Int) := by rw [wrap_i64] <;> omega
     have hx2 : (lst o)[j - 1]? = some (lst o)[j - 1] := List.getElem?_eq_getElem (by omega)
     obtain ⟨p, hp⟩ : ∃ p, p = (lst o)[j - 1] := ⟨_, rfl⟩
     rw [← hp] at hx2
     have e2 : okN (lst o) j w = decide (cmpW p w < 0) := by
      rw [cmpW_lt]
      obtain ⟨i, rfl⟩ : ∃ i, j = i + 1 := ⟨j - 1, by omega⟩
      unfold okN
      rw [show i + 1 - 1 = i from rfl] at hx2
      simp [hx2, ho]
     have fc := f47 p w
     rw [wrV_eq, wrV_eq] at fc
     simp +contextual -implicitDefEqProofs (maxSteps := 2000000) only [↓wP, wS, seval, h1, h2, g1, g2, g3, hx, hx2, wrV_eq, f, hz, wj, y0, upd_self, fc]
     rw [e2]
 ·intro env σ n ⟨g1, g2, g3⟩ h1 h2
  have e : (A && wU (lst o) (lst o).length) = rightW (lst o) := by rw [hA]; rfl
  rw [e] at g3
  cases hr : rightW (lst o)
  ·rw [hr] at g3
   simp +contextual -implicitDefEqProofs (maxSteps := 2000000) only [↓wP, wS, seval, g3]
  ·rw [hr] at g3
   simp +contextual -implicitDefEqProofs (maxSteps := 2000000) only [↓wP, wS, seval, g3]
 ·simp +contextual -implicitDefEqProofs (maxSteps := 2000000) only [↓wP, wS, seval]
  rw [show wU (lst o) 0 = true from rfl, Bool.and_true]
def f25 (o : Option (List Wr)) (h : SmW o) := callE_tr (by decide) (r25 o h) (by simp [Tr, Tr_slV]) rfl
end Go.Q.SW
end

section
/- Dimensions; the law's own facts and writes. -/
namespace Go.Q.SW
open Go.Q
def cutW (w : Wr) : Wr := ⟨w.c, w.id, w.g, cut w.v⟩
def cutWs (l : Option (List Wr)) : Option (List Wr) := oL (((lst l).take 13).map cutW)
theorem wr_fz {R : List Wr} : (∀ x ∈ R.map wrV, Tr 11 x = true) ∧ ∀ x ∈ R.map wrV, ∀ c ∈ x.cells, Tr 11 c = true := by
 refine ⟨fun x hx => by obtain ⟨y, -, rfl⟩ := List.mem_map.1 hx; simp [wrV_eq, Tr, Tr_slV], fun x hx c hc => ?_⟩
 obtain ⟨y, -, rfl⟩ := List.mem_map.1 hx
 simp only [wrV_eq, V.cells, List.mem_cons, List.not_mem_nil, or_false] at hc
 rcases hc with rfl | rfl | rfl | rfl
 ·rfl
 ·rfl
 ·rfl
 ·exact Tr_slV _ _ _ _
theorem r9 (l : Option (List Wr)) (h : SmW l) : res T 9 [slV 4 wrV l] = some (slV 4 wrV (cutWs l)) := by
 refine run_res (run_pure (fn := g9) rfl rfl (by decide) ?_)
 simp only [g9, b9, zO, zN, zM, zL, zG, zP, zQ, zI, zA, zT, zF, zB, zC, zD, zE, zH, zJ, zK]
 have hl := h.1
 simp +contextual -implicitDefEqProofs (maxSteps := 2000000) only [↓wP, wS, seval]
 refine WC_for (lst l).length 0 (fun (j : Nat) env σ n => env 6 = slV 4 wrV l ∧ ∃ v, env 3 = v ∧ Pl σ 0 n 4 v (oL ((((lst l).take (min j 13)).map cutW).map wrV))) (by omega) (by decide) (by decide) (fun _ _ => rfl) (fun _ _ _ => rfl) ?_ ?_ _ _ _ rfl rfl ?_
 ·intro j env σ n hj h1 h2 ⟨h3, v, h4, h5⟩
  simp only [vl_tmp] at h2
  have hx : (lst l)[j]? = some (lst l)[j] := List.getElem?_eq_getElem hj
  have f := f27 _ (h.2 _ (List.getElem_mem hj))
  have ht : (lst l).take (j + 1) = (lst l).take j ++ [(lst l)[j]] := (List.take_append_getElem hj).symm
  generalize (lst l)[j] = x at *
  have hc := h5.cells
  have hsp := spl h5
  obtain ⟨σ1, hσ1⟩ : ∃ σ1, σ1 = upd (upd σ n (some (.row 4 [.agg [.int .i64 0, .int .u64 0, .bool false, .nilS]]))) n (some (.row 4 [.agg [.int .i64 x.c, .int .u64 x.id, .bool x.g, slV 1 i32V x.v]])) := ⟨_, rfl⟩
  have so : ∀ i, i < n → σ1 i = σ i := fun i hi => by rw [hσ1, upd_ne (by omega), upd_ne (by omega)]
  have sn : σ1 n = some (.row 4 [.agg [.int .i64 x.c, .int .u64 x.id, .bool x.g, slV 1 i32V x.v]]) := by rw [hσ1, upd_self]
  by_cases h6 : (j : Int) ≤ 12
  ·rw [show min j 13 = j by omega] at h5
   have hlen : ((((lst l).take j).map cutW).map wrV).length = j := by rw [List.length_map, List.length_map, List.length_take]; omega
   simp +contextual -implicitDefEqProofs (maxSteps := 2000000) only [↓wP, wS, seval, h1, h2, h3, h4, hx, wrV_eq, h6, f, ← hσ1, sn]
   refine stepW_app1 (m := 0) (n0 := n) (σ0 := σ) h5 (fun i g1 g2 => ?_) (by omega) (by omega) (Nat.zero_le _) ?_ (fun _ σ2 g1 g2 => ?_)
   ·rw [upd_ne (by omega), upd_ne (by omega), so i g2]
   ·rw [lst_oL, hlen]; unfold LIM; omega
   ·rw [lst_oL, hlen] at g1 ⊢
    simp +contextual -implicitDefEqProofs (maxSteps := 2000000) only [↓wP, wS, seval, h1, h2, h3, hc, hsp]
    refine ⟨_, rfl, ?_⟩
    rw [show min (j + 1) 13 = j + 1 by omega, ht, List.map_append, List.map_append]
    have e2 : oL ((((lst l).take j).map cutW).map wrV ++ [wrV (cutW x)]) = some ((((lst l).take j).map cutW).map wrV ++ [wrV (cutW x)]) := by
     cases ((lst l).take j) <;> rfl
    simp only [List.map_cons, List.map_nil]
    rw [e2]
    exact g1
  ·simp +contextual -implicitDefEqProofs (maxSteps := 2000000) only [↓wP, wS, seval, h1, h2, h3, h4, hx, wrV_eq, h6, ← hσ1]
   rw [show min (j + 1) 13 = min j 13 by omega]
   exact ⟨_, rfl, h5.loc (fun i a b => so i b) (by omega)⟩
 ·intro env σ n ⟨h3, v, h4, h5⟩ h1 h2
  simp +contextual -implicitDefEqProofs (maxSteps := 2000000) only [↓wP, wS, seval, h4]
  have hf := h5.frz (by rw [lst_oL]; exact wr_fz.1) (by rw [lst_oL]; exact wr_fz.2)
  rw [hf, slV_oL]
  have : (lst l).take (min (lst l).length 13) = (lst l).take 13 := by rw [Nat.min_comm]; exact List.take_eq_take_min.symm
  rw [this]; rfl
 ·simp +contextual -implicitDefEqProofs (maxSteps := 2000000) only [↓wP, wS, seval]
  simp [oL, Pl]
def f9 (l : Option (List Wr)) (h : SmW l) := callE_tr (by decide) (r9 l h) (by simp [Tr, Tr_slV]) (Nw_slV _ _ _ _)
end Go.Q.SW
end

section
/- The document's copies; which facts and writes are the same. -/
namespace Go.Q.SW
open Go.Q
theorem fz_vec {σ : Sto} {i : Nat} {L : List Int} (h : σ i = some (.row 1 (L.map i32V))) {S : Nat → Prop} (hS : S i) : Fz σ 11 (.ref i 0 L.length 1) (slV 1 i32V (some L)) S := by
 have := Fz.ref (k := 10) (S := S) h hS (FzL.trees (fun y hy => by obtain ⟨t, -, rfl⟩ := List.mem_map.1 hy; rfl) (fun y hy c hc => by obtain ⟨t, -, rfl⟩ := List.mem_map.1 hy; simp [i32V, V.cells] at hc; subst hc; rfl))
 rw [List.length_map] at this
 exact this
def FitW (l : List Wr) : Prop := l.length ≤ 1000000 ∧ ∀ f ∈ l, (lst f.v).length ≤ 1000000
end Go.Q.SW
end

section
/- Which facts and writes are the same. -/
namespace Go.Q.SW
open Go.Q
def smU {α : Type} (p : α → α → Bool) (l m : List α) : Nat → Bool
 | 0 => true
 | n + 1 => smU p l m n && (match l[n]?, m[n]? with | some f, some g => p f g | _, _ => true)
def sameL {α : Type} (p : α → α → Bool) (l m : List α) : Bool := decide (l.length = m.length) && smU p l m l.length
theorem smU_step {α : Type} {p : α → α → Bool} {l m : List α} {n : Nat} (h : n < l.length) (h' : n < m.length) : smU p l m (n + 1) = (smU p l m n && p l[n] m[n]) := by
 show (smU p l m n && _) = _
 rw [List.getElem?_eq_getElem h, List.getElem?_eq_getElem h']
theorem smU_no {α : Type} {p : α → α → Bool} {l m : List α} {n : Nat} (h : smU p l m n = false) : ∀ k, n ≤ k → smU p l m k = false
 | 0, hm => by have : n = 0 := by omega
               subst this; cases h
 | k + 1, hm => by
   by_cases e : n = k + 1
   ·subst e; exact h
   ·show (smU p l m k && _) = false
    rw [smU_no h k (by omega)]; rfl
theorem sameL_of {α β : Type} {p : α → α → Bool} {q : α → β} (hp : ∀ a b, q a = q b → p a b = true) {l m : List α} (h : l.map q = m.map q) : sameL p l m = true := by
 have hlen : l.length = m.length := by have := congrArg List.length h; simpa using this
 unfold sameL
 rw [decide_eq_true hlen, Bool.true_and]
 have : ∀ n, n ≤ l.length → smU p l m n = true := by
  intro n
  induction n with
  | zero => intro _; rfl
  | succ n ih =>
    intro hn
    rw [smU_step (by omega) (by omega), ih (by omega), Bool.true_and]
    refine hp _ _ ?_
    have h1 := congrArg (fun z => z[n]?) h
    simp only [List.getElem?_map, List.getElem?_eq_getElem (show n < l.length by omega), List.getElem?_eq_getElem (show n < m.length by omega), Option.map_some, Option.some.injEq] at h1
    exact h1
 exact this _ (Nat.le_refl _)
end Go.Q.SW
end

section
/- The document's rows: what comes of writes over rows. -/
namespace Go.Q.SW
open Go.Q
theorem RM.nil : RM [] [] := ⟨List.Pairwise.nil, fun id v => by simp [vw]⟩
theorem RM.put {R : List Rw} {L : List (En Int Vc)} {clk : Nat} (h : RM R L) (hm : MOk L clk) (r : Rw) : RM (putR R r) (mput L clk r.id r.v).1 := by
 refine ⟨asc_putR h.1 r, fun id v => ?_⟩
 rw [mem_putR, vw_mput]
 by_cases e : id = r.id
 ·rw [if_pos e]
  subst e
  constructor
  ·rintro (h' | ⟨-, h'⟩)
   ·rw [← h']
   ·exact absurd rfl h'
  ·intro h'
   rw [Option.some.injEq] at h'
   subst h'
   exact .inl rfl
 ·rw [if_neg e, ← h.2]
  constructor
  ·rintro (h' | ⟨h', -⟩)
   ·exact absurd (by rw [← h']) e
   ·exact h'
  ·intro h'; exact .inr ⟨h', e⟩
def ovStep (R : List Rw) (w : Wr) : List Rw := if w.g then delR R w.id else putR R ⟨w.id, w.v⟩
def ovR (rows : List Rw) (l : List Wr) : List Rw := l.foldl ovStep (rows.foldl putR [])
theorem RM.head {r : Rw} {R : List Rw} {L : List (En Int Vc)} {clk : Nat} (h : RM (r :: R) L) (hm : MOk L clk) {a : Int} (h1 : ∃ e ∈ L, e.1 = a) (h2 : ∀ e ∈ L, a ≤ e.1) : a = r.id := by
 obtain ⟨e, he, rfl⟩ := h1
 have hv : vw L r.id = some r.v := (h.2 r.id r.v).1 List.mem_cons_self
 obtain ⟨s, hs⟩ := (vw_some hm.keys).1 hv
 have h3 := h2 _ hs
 have hv2 : vw L e.1 = some e.2.1 := (vw_some hm.keys).2 ⟨e.2.2, he⟩
 have h4 := (h.2 e.1 e.2.1).2 hv2
 rcases List.mem_cons.1 h4 with h5 | h5
 ·rw [← h5]
 ·have := (List.pairwise_cons.1 h.1).1 _ h5
  simp only at this h3
  omega
theorem RM.some {r : Rw} {R : List Rw} {L : List (En Int Vc)} (h : RM (r :: R) L) : 0 < L.length := by
 have hv : vw L r.id = Option.some r.v := (h.2 r.id r.v).1 List.mem_cons_self
 cases L with
 | nil => simp [vw] at hv
 | cons e L => simp
theorem RM.none {L : List (En Int Vc)} {clk : Nat} (h : RM [] L) (hm : MOk L clk) : L = [] := by
 cases L with
 | nil => rfl
 | cons e L =>
   have hv : vw (e :: L) e.1 = Option.some e.2.1 := (vw_some hm.keys).2 ⟨e.2.2, List.mem_cons_self⟩
   have := (h.2 e.1 e.2.1).2 hv
   simp at this
end Go.Q.SW
end

section
/- The document's rows: Overlay. -/
namespace Go.Q.SW
open Go.Q
def uV (x : Int) : V := .int .u64 x
theorem keyU : KeyOk (.one .int) uV := fun a b => rfl
theorem insR_len (r : Rw) : ∀ s, (insR r s).length = s.length + 1
 | [] => rfl
 | x :: s => by unfold insR; split <;> simp [insR_len r s]
theorem delR_len (R : List Rw) (a : Int) : (delR R a).length ≤ R.length := List.length_filter_le _ _
theorem putR_len (R : List Rw) (r : Rw) : (putR R r).length ≤ R.length + 1 := by
 unfold putR; rw [insR_len]; have := delR_len R r.id; omega
theorem fold_len (l : List Wr) : ∀ R, (l.foldl ovStep R).length ≤ R.length + l.length := by
 induction l with
 | nil => intro R; simp
 | cons w l ih =>
   intro R
   rw [List.foldl_cons]
   have h1 := ih (ovStep R w)
   have h2 : (ovStep R w).length ≤ R.length + 1 := by
    unfold ovStep; split
    ·have := delR_len R w.id; omega
    ·exact putR_len _ _
   simp only [List.length_cons]; omega
theorem foldp_len (l : List Rw) : ∀ R, (l.foldl putR R).length ≤ R.length + l.length := by
 induction l with
 | nil => intro R; simp
 | cons w l ih =>
   intro R
   rw [List.foldl_cons]
   have h1 := ih (putR R w)
   have h2 := putR_len R w
   simp only [List.length_cons]; omega
theorem ovR_len (rows : List Rw) (l : List Wr) : (ovR rows l).length ≤ rows.length + l.length := by
 unfold ovR
 have h1 := fold_len l (rows.foldl putR [])
 have h2 := foldp_len rows []
 simp only [List.length_nil] at h2; omega
theorem foldp_all {P : Vc → Prop} : ∀ (l R : List Rw), (∀ r ∈ l, P r.v) → (∀ r ∈ R, P r.v) → ∀ r ∈ l.foldl putR R, P r.v
 | [], R, _, h2 => h2
 | w :: l, R, h1, h2 => foldp_all l (putR R w) (fun r hr => h1 r (List.mem_cons_of_mem _ hr)) (fun r hr => by
  rcases mem_putR.1 hr with rfl | hr
  ·exact h1 _ List.mem_cons_self
  ·exact h2 r hr.1)
theorem fold_all {P : Vc → Prop} : ∀ (l : List Wr) (R : List Rw), (∀ w ∈ l, P w.v) → (∀ r ∈ R, P r.v) → ∀ r ∈ l.foldl ovStep R, P r.v
 | [], R, _, h2 => h2
 | w :: l, R, h1, h2 => fold_all l (ovStep R w) (fun r hr => h1 r (List.mem_cons_of_mem _ hr)) (fun r hr => by
  unfold ovStep at hr
  split at hr
  ·exact h2 r (mem_delR.1 hr).1
  ·rcases mem_putR.1 hr with rfl | hr
   ·exact h1 w List.mem_cons_self
   ·exact h2 r hr.1)
theorem ovR_all {P : Vc → Prop} {rows : List Rw} {l : List Wr} (h1 : ∀ r ∈ rows, P r.v) (h2 : ∀ w ∈ l, P w.v) : ∀ r ∈ ovR rows l, P r.v :=
 fold_all l _ h2 (foldp_all rows [] h1 (fun r hr => by simp at hr))
theorem born_inj : ∀ {L : List (En Int Vc)}, (L.map (·.2.2)).Nodup → ∀ {e e' : En Int Vc}, e ∈ L → e' ∈ L → e.2.2 = e'.2.2 → e = e'
 | [], _, e, e', he, _, _ => by simp at he
 | x :: L, h, e, e', he, he', hs => by
   rw [List.map_cons, List.nodup_cons] at h
   rcases List.mem_cons.1 he with e1 | he <;> rcases List.mem_cons.1 he' with e2 | he'
   ·rw [e1, e2]
   ·exact absurd (List.mem_map.2 ⟨e', he', by rw [← hs, e1]⟩) h.1
   ·exact absurd (List.mem_map.2 ⟨e, he, by rw [hs, e2]⟩) h.1
   ·exact born_inj h.2 he he' hs
end Go.Q.SW
end

section
/- The pivot of a sort. -/
namespace Go.Q.SW
open Go.Q
instance : Inhabited Rw := ⟨⟨0, none⟩⟩
def ahR (a b : Rw) : Bool := decide (a.id < b.id)
theorem cmp_lt (a b : Rw) : decide (cmpU a.id b.id < 0) = ahR a b := by
 unfold cmpU ahR
 by_cases h1 : a.id < b.id
 ·simp [h1]
 ·by_cases h2 : b.id < a.id <;> simp [h1, h2]
theorem swoA : Go.Sort.SWO ahR where
 irrefl := fun x => by simp [ahR]
 trans := fun x y z h1 h2 => by simp [ahR] at *; omega
 ntrans := fun x y z h1 h2 => by simp [ahR] at *; omega
abbrev CmpF (F : Nat) : Prop := ∀ (a b : Int) (u v : Vc) (fs : Bool) (σ : Sto) (n lk : Nat), callE T fs F [.agg [.int .u64 a, slV 1 i32V u], .agg [.int .u64 b, slV 1 i32V v]] σ n lk = some (.int .i64 (cmpU a b), σ, n)
theorem r42 (a b : Int) (u v : Vc) : res T 42 [.agg [.int .u64 a, slV 1 i32V u], .agg [.int .u64 b, slV 1 i32V v]] = some (.int .i64 (cmpU a b)) := by
 refine run_res (run_pure (fn := g42) rfl rfl (by decide) ?_)
 simp only [g42, b42, zO, zN, zM, zL, zG, zP, zQ, zI, zA, zT, zF, zB, zC, zD, zE, zH, zJ, zK]
 simp +contextual -implicitDefEqProofs (maxSteps := 2000000) only [↓wP, wS, seval, f43]
def f42 (a b : Int) (u v : Vc) := callE_tr (by decide) (r42 a b u v) (by simp [Tr, Tr_slV]) rfl
theorem cmp42 : CmpF 42 := fun a b u v fs σ n lk => f42 a b u v fs σ n lk
def rw' (d : Array Rw) : List V := d.toList.map rwV
theorem rw_len (d : Array Rw) : (rw' d).length = d.size := by simp [rw']
theorem rw_at {d : Array Rw} {i : Nat} (h : i < d.size) : (rw' d)[i]? = some (.agg [.int .u64 (d[i]!).id, slV 1 i32V (d[i]!).v]) := by
 unfold rw'
 rw [List.getElem?_map, List.getElem?_eq_getElem (by simpa using h), Option.map_some]
 simp [rwV, h]
theorem wrap_nat {m : Nat} (h : m < 9223372036854775808) : IntKind.i64.wrap (m : Int) = (m : Int) := by rw [wrap_i64] <;> omega
theorem bin_quo4 (m : Nat) (h : m < 9223372036854775808) : binV .quo (.int .i64 (m : Int)) (.int .i64 4) = some (.int .i64 ((m / 4 : Nat) : Int)) := by
 rw [bin_quo .i64 (m : Int) 4 (by decide)]
 have e : (m : Int).tdiv 4 = ((m / 4 : Nat) : Int) := rfl
 rw [e, wrap_nat (by omega)]
theorem raw90 (F : Nat) (hF : CmpF F) (d : Array Rw) (a b : Nat) (s : Int) (sid n : Nat) (σ : Sto) (ha : a < d.size) (hb : b < d.size) (hs : σ sid = some (.row 1 [.int .i64 s])) {Q : V → Sto → Nat → Prop}
 (hQ : ∀ (x y : Nat) (s' : Int) (σ' : Sto), (x = a ∨ x = b) → (y = a ∨ y = b) → σ' sid = some (.row 1 [.int .i64 s']) → (∀ i, i ≠ sid → σ' i = σ i) → Q (.tup [.int .i64 (x : Int), .int .i64 (y : Int)]) σ' n) :
 run T (.raw 90 [.sl 2 (rw' d), .int .i64 (a : Int), .int .i64 (b : Int), .ptr sid 1 0 0, .fn F []] σ n 0) (memQ Q) := by
 refine run_rawE (fn := g90) rfl rfl ?_
 simp only [g90, b90, zO, zN, zM, zL, zG, zP, zQ, zI, zA, zT, zF, zB, zC, zD, zE, zH, zJ, zK]
 have hxa := rw_at ha
 have hxb := rw_at hb
 by_cases hc : cmpU (d[b]!).id (d[a]!).id < 0
 ·simp +contextual -implicitDefEqProofs (maxSteps := 2000000) only [↓wP, wS, seval, hxa, hxb, hF, hc, hs]
  exact hQ b a _ _ (.inr rfl) (.inl rfl) (by simp [upd]; rfl) (fun i hi => by simp [upd, hi])
 ·simp +contextual -implicitDefEqProofs (maxSteps := 2000000) only [↓wP, wS, seval, hxa, hxb, hF, hc, hs]
  exact hQ a b _ _ (.inl rfl) (.inr rfl) hs (fun i hi => rfl)
theorem raw88 (F : Nat) (hF : CmpF F) (d : Array Rw) (a b c : Nat) (s : Int) (sid n : Nat) (σ : Sto) (ha : a < d.size) (hb : b < d.size) (hc : c < d.size) (hs : σ sid = some (.row 1 [.int .i64 s])) {Q : V → Sto → Nat → Prop}
 (hQ : ∀ (x : Nat) (s' : Int) (σ' : Sto), (x = a ∨ x = b ∨ x = c) → σ' sid = some (.row 1 [.int .i64 s']) → (∀ i, i ≠ sid → σ' i = σ i) → Q (.int .i64 (x : Int)) σ' n) :
 run T (.raw 88 [.sl 2 (rw' d), .int .i64 (a : Int), .int .i64 (b : Int), .int .i64 (c : Int), .ptr sid 1 0 0, .fn F []] σ n 0) (memQ Q) := by
 refine run_rawE (fn := g88) rfl rfl ?_
 simp only [g88, b88, zO, zN, zM, zL, zG, zP, zQ, zI, zA, zT, zF, zB, zC, zD, zE, zH, zJ, zK]
 simp +contextual -implicitDefEqProofs (maxSteps := 2000000) only [↓wP, wS, seval]
 refine stepW_raw (by decide) (raw90 F hF d a b s sid n σ ha hb hs fun x y s1 σ1 hx hy h1 h2 => ?_)
 simp +contextual -implicitDefEqProofs (maxSteps := 2000000) only [↓wP, wS, seval]
 have hy' : y < d.size := by rcases hy with rfl | rfl <;> assumption
 have hx' : x < d.size := by rcases hx with rfl | rfl <;> assumption
 refine stepW_raw (by decide) (raw90 F hF d y c s1 sid n σ1 hy' hc h1 fun x2 y2 s2 σ2 hx2 hy2 h3 h4 => ?_)
 simp +contextual -implicitDefEqProofs (maxSteps := 2000000) only [↓wP, wS, seval]
 have hx2' : x2 < d.size := by rcases hx2 with rfl | rfl <;> assumption
 refine stepW_raw (by decide) (raw90 F hF d x x2 s2 sid n σ2 hx' hx2' h3 fun x3 y3 s3 σ3 hx3 hy3 h5 h6 => ?_)
 simp +contextual -implicitDefEqProofs (maxSteps := 2000000) only [↓wP, wS, seval]
 refine hQ y3 s3 σ3 ?_ h5 (fun i hi => by rw [h6 i hi, h4 i hi, h2 i hi])
 rcases hy3 with rfl | rfl
 ·rcases hx with rfl | rfl <;> simp
 ·rcases hx2 with rfl | rfl
  ·rcases hy with rfl | rfl <;> simp
  ·simp
theorem raw87 (F : Nat) (hF : CmpF F) (d : Array Rw) (a : Nat) (s : Int) (sid n : Nat) (σ : Sto) (ha : 1 ≤ a) (hb : a + 1 < d.size) (hn : d.size < 1000000) (hs : σ sid = some (.row 1 [.int .i64 s])) {Q : V → Sto → Nat → Prop}
 (hQ : ∀ (x : Nat) (s' : Int) (σ' : Sto), (x = a - 1 ∨ x = a ∨ x = a + 1) → σ' sid = some (.row 1 [.int .i64 s']) → (∀ i, i ≠ sid → σ' i = σ i) → Q (.int .i64 (x : Int)) σ' n) :
 run T (.raw 87 [.sl 2 (rw' d), .int .i64 (a : Int), .ptr sid 1 0 0, .fn F []] σ n 0) (memQ Q) := by
 refine run_rawE (fn := g87) rfl rfl ?_
 simp only [g87, b87, zO, zN, zM, zL, zG, zP, zQ, zI, zA, zT, zF, zB, zC, zD, zE, zH, zJ, zK]
 have w1 : IntKind.i64.wrap ((a : Int) - 1) = ((a - 1 : Nat) : Int) := by rw [wrap_i64] <;> omega
 have w2 : IntKind.i64.wrap ((a : Int) + 1) = ((a + 1 : Nat) : Int) := by rw [wrap_i64] <;> omega
 simp +contextual -implicitDefEqProofs (maxSteps := 2000000) only [↓wP, wS, seval, w1, w2]
 refine stepW_raw (by decide) (raw88 F hF d (a - 1) a (a + 1) s sid n σ (by omega) (by omega) (by omega) hs fun x s' σ' hx h1 h2 => ?_)
 simp +contextual -implicitDefEqProofs (maxSteps := 2000000) only [↓wP, wS, seval]
 exact hQ x s' σ' hx h1 h2
theorem r74 (F : Nat) (hF : CmpF F) (d : Array Rw) (a b : Nat) (hab : a < b) (hb : b ≤ d.size) (hn : d.size < 1000000) :
 ∃ (p : Nat) (h : Int), a ≤ p ∧ p < b ∧ (h = 0 ∨ h = 1 ∨ h = 2) ∧ res T 74 [.sl 2 (rw' d), .int .i64 (a : Int), .int .i64 (b : Int), .fn F []] = some (.tup [.int .i64 (p : Int), .int .i64 h]) := by
 obtain ⟨r, hr, p, h, h1, h2, h3, rfl⟩ := res_pure (T := T) (f := 74) (args := [.sl 2 (rw' d), .int .i64 (a : Int), .int .i64 (b : Int), .fn F []])
  (R := fun r => ∃ (p : Nat) (h : Int), a ≤ p ∧ p < b ∧ (h = 0 ∨ h = 1 ∨ h = 2) ∧ r = .tup [.int .i64 (p : Int), .int .i64 h]) (fn := g74) rfl rfl (by decide) (by
  simp only [g74, b74, zO, zN, zM, zL, zG, zP, zQ, zI, zA, zT, zF, zB, zC, zD, zE, zH, zJ, zK]
  have w1 : IntKind.i64.wrap ((b : Int) - (a : Int)) = ((b - a : Nat) : Int) := by rw [wrap_i64] <;> omega
  have q4 := bin_quo4 (b - a) (by omega)
  have w2 : IntKind.i64.wrap ((((b - a) / 4 : Nat) : Int) * 1) = (((b - a) / 4 : Nat) : Int) := by rw [wrap_i64] <;> omega
  have w3 : IntKind.i64.wrap ((((b - a) / 4 : Nat) : Int) * 2) = (((b - a) / 4 * 2 : Nat) : Int) := by rw [wrap_i64] <;> omega
  have w4 : IntKind.i64.wrap ((((b - a) / 4 : Nat) : Int) * 3) = (((b - a) / 4 * 3 : Nat) : Int) := by rw [wrap_i64] <;> omega
  have w5 : IntKind.i64.wrap ((a : Int) + (((b - a) / 4 : Nat) : Int)) = ((a + (b - a) / 4 : Nat) : Int) := by rw [wrap_i64] <;> omega
  have w6 : IntKind.i64.wrap ((a : Int) + (((b - a) / 4 * 2 : Nat) : Int)) = ((a + (b - a) / 4 * 2 : Nat) : Int) := by rw [wrap_i64] <;> omega
  have w7 : IntKind.i64.wrap ((a : Int) + (((b - a) / 4 * 3 : Nat) : Int)) = ((a + (b - a) / 4 * 3 : Nat) : Int) := by rw [wrap_i64] <;> omega
  by_cases c8 : (8 : Int) ≤ ((b - a : Nat) : Int)
  ·by_cases c50 : (50 : Int) ≤ ((b - a : Nat) : Int)
   ·simp +contextual -implicitDefEqProofs (maxSteps := 2000000) only [↓wP, wS, seval, w1, q4, w2, w3, w4, w5, w6, w7, c8, c50]
    obtain ⟨q, hq⟩ : ∃ q, q = (b - a) / 4 := ⟨_, rfl⟩
    have hq1 : 12 ≤ q := by omega
    have hq2 : q * 4 ≤ b - a := by omega
    rw [← hq]
    clear w1 q4 w2 w3 w4 w5 w6 w7 c8 c50
    have l1 : a + q + 1 < b := by omega
    have l2 : a + q * 2 + 1 < b := by omega
    have l3 : a + q * 3 + 1 < b := by omega
    have l4 : a + 1 ≤ a + q := by omega
    have l5 : a + 1 ≤ a + q * 2 := by omega
    have l6 : a + 1 ≤ a + q * 3 := by omega
    clear hq hq1 hq2
    generalize a + q = i1 at *
    generalize a + q * 2 = i2 at *
    generalize a + q * 3 = i3 at *
    refine stepW_raw (by decide) (raw87 F hF d i1 0 0 1 _ (by omega) (by omega) hn (by simp [upd]) fun x1 s1 σ1 hx1 g1 g2 => ?_)
    have b1 : a ≤ x1 ∧ x1 < b := by omega
    clear hx1
    simp +contextual -implicitDefEqProofs (maxSteps := 2000000) only [↓wP, wS, seval]
    refine stepW_raw (by decide) (raw87 F hF d i2 s1 0 1 σ1 (by omega) (by omega) hn g1 fun x2 s2 σ2 hx2 g3 g4 => ?_)
    have b2 : a ≤ x2 ∧ x2 < b := by omega
    clear hx2
    simp +contextual -implicitDefEqProofs (maxSteps := 2000000) only [↓wP, wS, seval]
    refine stepW_raw (by decide) (raw87 F hF d i3 s2 0 1 σ2 (by omega) (by omega) hn g3 fun x3 s3 σ3 hx3 g5 g6 => ?_)
    have b3 : a ≤ x3 ∧ x3 < b := by omega
    clear hx3
    simp +contextual -implicitDefEqProofs (maxSteps := 2000000) only [↓wP, wS, seval]
    refine stepW_raw (by decide) (raw88 F hF d x1 x2 x3 s3 0 1 σ3 (by omega) (by omega) (by omega) g5 fun x s' σ' hx h1 h2 => ?_)
    have hx' : a ≤ x ∧ x < b := by omega
    by_cases e0 : s' = 0
    ·simp +contextual -implicitDefEqProofs (maxSteps := 2000000) only [↓wP, wS, seval, h1, e0]
     exact ⟨x, 1, hx'.1, hx'.2, by simp, rfl⟩
    ·have d0 : (s' == 0) = false := by simpa using e0
     by_cases e12 : s' = 12
     ·simp +contextual -implicitDefEqProofs (maxSteps := 2000000) only [↓wP, wS, seval, h1, e12]
      exact ⟨x, 2, hx'.1, hx'.2, by simp, rfl⟩
     ·have d12 : (s' == 12) = false := by simpa using e12
      simp +contextual -implicitDefEqProofs (maxSteps := 2000000) only [↓wP, wS, seval, h1, d0, d12]
      exact ⟨x, 0, hx'.1, hx'.2, by simp, rfl⟩
   ·simp +contextual -implicitDefEqProofs (maxSteps := 2000000) only [↓wP, wS, seval, w1, q4, w2, w3, w4, w5, w6, w7, c8, c50]
    refine stepW_raw (by decide) (raw88 F hF d _ _ _ 0 0 1 _ (by omega) (by omega) (by omega) (by simp [upd]) fun x s' σ' hx h1 h2 => ?_)
    have hx' : a ≤ x ∧ x < b := by omega
    by_cases e0 : s' = 0
    ·simp +contextual -implicitDefEqProofs (maxSteps := 2000000) only [↓wP, wS, seval, h1, e0]
     exact ⟨x, 1, hx'.1, hx'.2, by simp, rfl⟩
    ·have d0 : (s' == 0) = false := by simpa using e0
     by_cases e12 : s' = 12
     ·simp +contextual -implicitDefEqProofs (maxSteps := 2000000) only [↓wP, wS, seval, h1, e12]
      exact ⟨x, 2, hx'.1, hx'.2, by simp, rfl⟩
     ·have d12 : (s' == 12) = false := by simpa using e12
      simp +contextual -implicitDefEqProofs (maxSteps := 2000000) only [↓wP, wS, seval, h1, d0, d12]
      exact ⟨x, 0, hx'.1, hx'.2, by simp, rfl⟩
  ·simp +contextual -implicitDefEqProofs (maxSteps := 2000000) only [↓wP, wS, seval, w1, q4, w2, w3, w4, w5, w6, w7, c8]
   exact ⟨a + (b - a) / 4 * 2, 1, by omega, by omega, by simp, rfl⟩)
 exact ⟨p, h, h1, h2, h3, hr⟩
end Go.Q.SW
end

section
/- Small sorts, a part turned round, patterns broken. -/
namespace Go.Q.SW
open Go.Q Go.Sort
def At (σ σ0 : Sto) (id : Nat) (d : Array Rw) : Prop := σ id = some (.row 2 (rw' d)) ∧ ∀ i, i ≠ id → σ i = σ0 i
theorem rw_set {d : Array Rw} {i : Nat} {x : Rw} : (rw' d).set i (.agg [.int .u64 x.id, slV 1 i32V x.v]) = rw' (d.setIfInBounds i x) := by
 unfold rw'
 rw [Array.toList_setIfInBounds, List.map_set]
 rfl
theorem rw_set_at {d : Array Rw} {i j : Nat} {x : Rw} (hj : j < d.size) : ∃ (u : Int) (w : Vc), ((rw' d).set i (.agg [.int .u64 x.id, slV 1 i32V x.v]))[j]? = some (.agg [.int .u64 u, slV 1 i32V w]) := by
 rw [rw_set, rw_at (by simpa using hj)]
 exact ⟨_, _, rfl⟩
theorem rw_swp (d : Array Rw) (i j : Nat) : ((rw' d).set i (.agg [.int .u64 (d[j]!).id, slV 1 i32V (d[j]!).v])).set j (.agg [.int .u64 (d[i]!).id, slV 1 i32V (d[i]!).v]) = rw' (swp d i j) := by
 rw [rw_set, rw_set]
 rfl
theorem At.swp {σ σ0 : Sto} {id : Nat} {d : Array Rw} (h : At σ σ0 id d) (i j : Nat) :
 At (upd (upd σ id (some (.row 2 ((rw' d).set i (.agg [.int .u64 (d[j]!).id, slV 1 i32V (d[j]!).v]))))) id
  (some (.row 2 (((rw' d).set i (.agg [.int .u64 (d[j]!).id, slV 1 i32V (d[j]!).v])).set j (.agg [.int .u64 (d[i]!).id, slV 1 i32V (d[i]!).v]))))) σ0 id (swp d i j) := by
 refine ⟨?_, fun k hk => ?_⟩
 ·simp only [upd, if_true, rw_swp]
 ·simp only [upd, hk, if_false, h.2 k hk]
theorem At.refl {σ : Sto} {id : Nat} {d : Array Rw} (h : σ id = some (.row 2 (rw' d))) : At σ σ id d := ⟨h, fun _ _ => rfl⟩
theorem insIn_lt {lt : Rw → Rw → Bool} {a j : Nat} {d : Array Rw} (h : a < j + 1) (hl : lt d[j + 1]! d[j]! = true) : insInner lt a (j + 1) d = insInner lt a j (Go.Sort.swp d (j + 1) j) := by
 rw [insInner]; simp [h, hl]
theorem insIn_stop {lt : Rw → Rw → Bool} {a j : Nat} {d : Array Rw} (h : j ≤ a ∨ (0 < j ∧ lt d[j]! d[j - 1]! = false)) : insInner lt a j d = d := by
 cases j with
 | zero => rfl
 | succ j =>
   rw [insInner]
   rcases h with h | h
   ·have : ¬ a < j + 1 := by omega
    simp [this]
   ·simp only [Nat.add_sub_cancel] at h
    simp [h.2]
theorem raw71 (F : Nat) (hF : CmpF F) (d : Array Rw) (a b id n : Nat) (σ : Sto) (hab : a ≤ b) (hb : b ≤ d.size) (hn : d.size < 1000000) (hσ : σ id = some (.row 2 (rw' d))) {Q : V → Sto → Nat → Prop}
 (hQ : ∀ σ', At σ' σ id (insertionSort ahR d a b) → Q .undef σ' n) :
 run T (.raw 71 [.ref id 0 d.size 2, .int .i64 (a : Int), .int .i64 (b : Int), .fn F []] σ n 0) (memQ Q) := by
 refine run_rawE (fn := g71) rfl rfl ?_
 simp only [g71, b71, zO, zN, zM, zL, zG, zP, zQ, zI, zA, zT, zF, zB, zC, zD, zE, zH, zJ, zK]
 have w1 : IntKind.i64.wrap ((a : Int) + 1) = ((a + 1 : Nat) : Int) := by rw [wrap_i64] <;> omega
 generalize hsz : d.size = N at *
 simp +contextual -implicitDefEqProofs (maxSteps := 2000000) only [↓wP, wS, seval, w1]
 refine WC_loopI 0 (fun (s : Nat × Array Rw) env σ' n' => n' = n ∧ env 0 = .ref id 0 N 2 ∧ env 1 = .int .i64 (a : Int) ∧ env 2 = .int .i64 (b : Int) ∧ env 3 = .fn F [] ∧ env 8 = .int .i64 (s.1 : Int) ∧
  a < s.1 ∧ (s.1 ≤ b ∨ s.1 = a + 1) ∧ s.2.size = N ∧ At σ' σ id s.2 ∧ insOuter ahR a b s.1 s.2 = insertionSort ahR d a b) (fun s => b + 1 - s.1) ?_ (a + 1, d) _ _ _ ?_
 ·intro ⟨i, e⟩ env σ1 n1 ⟨h1, h2, h3, h4, h5, h6, h7, h8, h9, h10, h11⟩
  subst h1
  simp only at h6 h7 h8 h9 h10 h11
  by_cases hlt : i < b
  ·have w2 : IntKind.i64.wrap ((i : Int) + 1) = ((i + 1 : Nat) : Int) := by rw [wrap_i64] <;> omega
   have hlt' : (i : Int) < (b : Int) := by omega
   rw [insOuter, if_pos hlt] at h11
   simp +contextual -implicitDefEqProofs (maxSteps := 2000000) only [↓wP, wS, seval, h2, h3, h4, h5, h6, hlt']
   refine WC_loopI 0 (fun (s : Nat × Array Rw) env σ' n' => n' = n1 ∧ env 0 = .ref id 0 N 2 ∧ env 1 = .int .i64 (a : Int) ∧ env 2 = .int .i64 (b : Int) ∧ env 3 = .fn F [] ∧ env 8 = .int .i64 (i : Int) ∧ env 9 = .int .i64 (s.1 : Int) ∧
    s.1 ≤ i ∧ s.2.size = N ∧ At σ' σ id s.2 ∧ insInner ahR a s.1 s.2 = insInner ahR a i e) (fun s => s.1) ?_ (i, e) _ _ _ ?_
   ·clear h2 h3 h4 h5 h6 h10
    intro ⟨j, g⟩ env σ2 n2 ⟨k1, k2, k3, k4, k5, k6, k7, k8, k9, k10, k11⟩
    subst k1
    simp only at k7 k8 k9 k10 k11
    have hat := k10.1
    by_cases hja : a < j
    ·obtain ⟨j, rfl⟩ : ∃ j', j = j' + 1 := ⟨j - 1, by omega⟩
     have hja' : (a : Int) < ((j + 1 : Nat) : Int) := by omega
     have w3 : IntKind.i64.wrap (((j + 1 : Nat) : Int) - 1) = (j : Int) := by rw [wrap_i64] <;> omega
     have x1 := rw_at (d := g) (i := j + 1) (by omega)
     have x2 := rw_at (d := g) (i := j) (by omega)
     have l1 : j + 1 < N := by omega
     have l2 : j < N := by omega
     by_cases hc : cmpU (g[j + 1]!).id (g[j]!).id < 0
     ·have hah : ahR g[j + 1]! g[j]! = true := by rw [← cmp_lt]; simpa using hc
      obtain ⟨u, v, x3⟩ := rw_set_at (d := g) (i := j + 1) (j := j) (x := g[j]!) (by omega)
      simp +contextual -implicitDefEqProofs (maxSteps := 2000000) only [↓wP, wS, seval, k2, k3, k4, k5, k6, k7, hja', w3, hat, l1, l2, x1, x2, x3, hF, hc]
      refine ⟨(j, swp g (j + 1) j), by dsimp only; omega, rfl, by dsimp only; omega, by rw [swp_size, k9], k10.swp _ _, ?_⟩
      dsimp only
      rw [← insIn_lt hja hah]
      exact k11
     ·have hah : ahR g[j + 1]! g[j]! = false := by rw [← cmp_lt]; simpa using hc
      simp +contextual -implicitDefEqProofs (maxSteps := 2000000) only [↓wP, wS, seval, k2, k3, k4, k5, k6, k7, hja', w3, hat, l1, l2, x1, x2, hF, hc, w2]
      refine ⟨(i + 1, g), by dsimp only; omega, rfl, by dsimp only; omega, by dsimp only; omega, k9, k10, ?_⟩
      dsimp only
      rw [insIn_stop (.inr ⟨by omega, hah⟩)] at k11
      rw [k11]
      exact h11
    ·have hja' : ¬ (a : Int) < (j : Int) := by omega
     simp +contextual -implicitDefEqProofs (maxSteps := 2000000) only [↓wP, wS, seval, k2, k3, k4, k5, k6, k7, hja', w2]
     refine ⟨(i + 1, g), by dsimp only; omega, rfl, by dsimp only; omega, by dsimp only; omega, k9, k10, ?_⟩
     dsimp only
     rw [insIn_stop (.inl (by omega))] at k11
     rw [k11]
     exact h11
   ·simp +contextual -implicitDefEqProofs (maxSteps := 2000000) only [↓wP, wS, seval, h2, h3, h4, h5, h6]
    exact ⟨h9, h10⟩
  ·have hlt' : ¬ (i : Int) < (b : Int) := by omega
   rw [insOuter, if_neg hlt] at h11
   simp +contextual -implicitDefEqProofs (maxSteps := 2000000) only [↓wP, wS, seval, h2, h3, h4, h5, h6, hlt']
   refine hQ _ ?_
   rw [← h11]
   exact h10
 ·simp +contextual -implicitDefEqProofs (maxSteps := 2000000) only [↓wP, wS, seval]
  exact ⟨by omega, .inr trivial, hsz, At.refl hσ, rfl⟩
theorem raw75 (F : Nat) (hF : CmpF F) (d : Array Rw) (a b id n : Nat) (σ : Sto) (hab : a < b) (hb : b ≤ d.size) (hn : d.size < 1000000) (hσ : σ id = some (.row 2 (rw' d))) {Q : V → Sto → Nat → Prop}
 (hQ : ∀ σ' d', At σ' σ id d' → PermIn a b d d' → Q .undef σ' n) :
 run T (.raw 75 [.ref id 0 d.size 2, .int .i64 (a : Int), .int .i64 (b : Int), .fn F []] σ n 0) (memQ Q) := by
 refine run_rawE (fn := g75) rfl rfl ?_
 simp only [g75, b75, zO, zN, zM, zL, zG, zP, zQ, zI, zA, zT, zF, zB, zC, zD, zE, zH, zJ, zK]
 have w1 : IntKind.i64.wrap ((b : Int) - 1) = ((b - 1 : Nat) : Int) := by rw [wrap_i64] <;> omega
 have hp : ∀ d' : Array Rw, PermIn a b d d' → d'.size = d.size := fun d' h => h.1
 generalize hsz : d.size = N at *
 simp +contextual -implicitDefEqProofs (maxSteps := 2000000) only [↓wP, wS, seval, w1]
 refine WC_loopI 0 (fun (s : (Nat × Nat) × Array Rw) env σ' n' => n' = n ∧ env 0 = .ref id 0 N 2 ∧ env 8 = .int .i64 (s.1.1 : Int) ∧ env 9 = .int .i64 (s.1.2 : Int) ∧
  a ≤ s.1.1 ∧ s.1.2 < b ∧ At σ' σ id s.2 ∧ PermIn a b d s.2) (fun s => s.1.2) ?_ ((a, b - 1), d) _ _ _ ?_
 ·intro ⟨⟨i, j⟩, e⟩ env σ1 n1 ⟨h1, h2, h3, h4, h5, h6, h7, h8⟩
  subst h1
  simp only at h3 h4 h5 h6 h7 h8
  by_cases hlt : i < j
  ·obtain ⟨j, rfl⟩ : ∃ j', j = j' + 1 := ⟨j - 1, by omega⟩
   have hlt' : (i : Int) < ((j + 1 : Nat) : Int) := by omega
   have w2 : IntKind.i64.wrap ((i : Int) + 1) = ((i + 1 : Nat) : Int) := by rw [wrap_i64] <;> omega
   have w3 : IntKind.i64.wrap (((j + 1 : Nat) : Int) - 1) = (j : Int) := by rw [wrap_i64] <;> omega
   have he := hp e h8
   have x1 := rw_at (d := e) (i := i) (by omega)
   have x2 := rw_at (d := e) (i := j + 1) (by omega)
   obtain ⟨u, v, x3⟩ := rw_set_at (d := e) (i := i) (j := j + 1) (x := e[j + 1]!) (by omega)
   have l1 : i < N := by omega
   have l2 : j + 1 < N := by omega
   have hat := h7.1
   simp +contextual -implicitDefEqProofs (maxSteps := 2000000) only [↓wP, wS, seval, h2, h3, h4, hlt', w2, w3, x1, x2, x3, l1, l2, hat]
   refine ⟨((i + 1, j), swp e i (j + 1)), by dsimp only; omega, rfl, rfl, by dsimp only; omega, by dsimp only; omega, h7.swp _ _, ?_⟩
   exact permIn_trans _ _ _ _ _ h8 (swp_permIn e a b i (j + 1) h5 (by omega) (by omega) h6 (by omega))
  ·have hlt' : ¬ (i : Int) < (j : Int) := by omega
   simp +contextual -implicitDefEqProofs (maxSteps := 2000000) only [↓wP, wS, seval, h2, h3, h4, hlt']
   exact hQ _ _ h7 h8
 ·simp +contextual -implicitDefEqProofs (maxSteps := 2000000) only [↓wP, wS, seval]
  exact ⟨by omega, At.refl hσ, permIn_refl _ _ _⟩
theorem bin_shl (k : IntKind) (x : Int) (m : Nat) : ∃ y, binV .shl (.int k x) (.int .u64 (m : Int)) = some (.int k y) := by
 refine ⟨k.wrap (x * 2 ^ (min (m : Int).toNat k.bits)), ?_⟩
 have : ¬ ((m : Int) < 0) := by omega
 simp [binV, pureV, Go.binOp, Op.shift, this]
 rfl
theorem bin_shr (k : IntKind) (x : Int) (m : Nat) : ∃ y, binV .shr (.int k x) (.int .u64 (m : Int)) = some (.int k y) := by
 refine ⟨x.fdiv (2 ^ (min (m : Int).toNat k.bits)), ?_⟩
 have : ¬ ((m : Int) < 0) := by omega
 simp [binV, pureV, Go.binOp, Op.shift, this]
 rfl
theorem bin_and64 (x : Int) (m : Nat) (hm : m < 18446744073709551616) : ∃ y : Nat, y ≤ m ∧ binV .and (.int .u64 x) (.int .u64 (m : Int)) = some (.int .u64 (y : Int)) := by
 have hle : (BitVec.ofInt 64 x &&& BitVec.ofInt 64 (m : Int)).toNat ≤ m := by
  rw [BitVec.toNat_and]
  refine Nat.le_trans Nat.and_le_right ?_
  simp
  exact Nat.mod_le _ _
 refine ⟨(BitVec.ofInt 64 x &&& BitVec.ofInt 64 (m : Int)).toNat, hle, ?_⟩
 have hw : IntKind.u64.wrap ((BitVec.ofInt 64 x &&& BitVec.ofInt 64 (m : Int)).toNat : Int) = ((BitVec.ofInt 64 x &&& BitVec.ofInt 64 (m : Int)).toNat : Int) := by rw [wrap_u64] <;> omega
 have := bin_and .u64 x (m : Int)
 rw [this]
 congr 2
theorem raw86 (F : Nat) (hF : CmpF F) (r : Int) (sid n : Nat) (σ : Sto) (hs : σ sid = some (.row 1 [.int .u64 r])) {Q : V → Sto → Nat → Prop}
 (hQ : ∀ (r' : Int) (σ' : Sto), σ' sid = some (.row 1 [.int .u64 r']) → (∀ i, i ≠ sid → σ' i = σ i) → Q (.int .u64 r') σ' n) :
 run T (.raw 86 [.ptr sid 1 0 0] σ n 0) (memQ Q) := by
 refine run_rawE (fn := g86) rfl rfl ?_
 simp only [g86, b86, zO, zN, zM, zL, zG, zP, zQ, zI, zA, zT, zF, zB, zC, zD, zE, zH, zJ, zK]
 obtain ⟨y1, e1⟩ := bin_shl .u64 r 13
 have x1 := bin_xor .u64 r y1
 generalize IntKind.u64.wrap ↑(BitVec.ofInt IntKind.u64.bits r ^^^ BitVec.ofInt IntKind.u64.bits y1).toNat = r1 at x1
 obtain ⟨y2, e2⟩ := bin_shr .u64 r1 7
 have x2 := bin_xor .u64 r1 y2
 generalize IntKind.u64.wrap ↑(BitVec.ofInt IntKind.u64.bits r1 ^^^ BitVec.ofInt IntKind.u64.bits y2).toNat = r2 at x2
 obtain ⟨y3, e3⟩ := bin_shl .u64 r2 17
 have x3 := bin_xor .u64 r2 y3
 generalize IntKind.u64.wrap ↑(BitVec.ofInt IntKind.u64.bits r2 ^^^ BitVec.ofInt IntKind.u64.bits y3).toNat = r3 at x3
 simp only [show ((13 : Nat) : Int) = 13 from rfl, show ((7 : Nat) : Int) = 7 from rfl, show ((17 : Nat) : Int) = 17 from rfl] at e1 e2 e3
 simp +contextual -implicitDefEqProofs (maxSteps := 2000000) only [↓wP, wS, seval, hs, e1, x1, e2, x2, e3, x3]
 exact hQ _ _ (by simp [upd]) (fun i hi => by simp [upd, hi])
def chk85 (m : Nat) : Bool := match exJob T 60 (.pure 85 [.int .i64 (m : Int)]) with
 | some (.val (.int .u64 M)) => decide (0 < M ∧ M ≤ 2 * (m : Int))
 | _ => false
theorem all85 : (List.range 130).all (fun m => decide (m < 8) || chk85 m) = true := by decide +kernel
theorem r85 (m : Nat) (h8 : 8 ≤ m) (h60 : m < 130) : ∃ M : Nat, 0 < M ∧ M ≤ 2 * m ∧ res T 85 [.int .i64 (m : Int)] = some (.int .u64 (M : Int)) := by
 have h := List.all_eq_true.1 all85 m (List.mem_range.2 h60)
 have h8' : ¬ m < 8 := by omega
 simp only [h8', decide_false, Bool.false_or] at h
 unfold chk85 at h
 split at h
 ·rename_i M hM
  simp only [decide_eq_true_eq] at h
  refine ⟨M.toNat, by omega, by omega, ?_⟩
  rw [show ((M.toNat : Nat) : Int) = M by omega]
  exact run_res (exJob_sound 60 _ _ hM)
 ·cases h
theorem raw73 (F : Nat) (hF : CmpF F) (d : Array Rw) (a b id n : Nat) (σ : Sto) (h8 : 8 ≤ b - a) (h60 : b - a < 130) (hb : b ≤ d.size) (hn : d.size < 1000000) (hid : id < n) (hσ : σ id = some (.row 2 (rw' d))) {Q : V → Sto → Nat → Prop}
 (hQ : ∀ σ' d' n', n ≤ n' → σ' id = some (.row 2 (rw' d')) → (∀ i, i ≠ id → i < n → σ' i = σ i) → PermIn a b d d' → Q .undef σ' n') :
 run T (.raw 73 [.ref id 0 d.size 2, .int .i64 (a : Int), .int .i64 (b : Int), .fn F []] σ n 0) (memQ Q) := by
 refine run_rawE (fn := g73) rfl rfl ?_
 simp only [g73, b73, zO, zN, zM, zL, zG, zP, zQ, zI, zA, zT, zF, zB, zC, zD, zE, zH, zJ, zK]
 have hp : ∀ d' : Array Rw, PermIn a b d d' → d'.size = d.size := fun d' h => h.1
 obtain ⟨L, hL⟩ : ∃ L, L = b - a := ⟨_, rfl⟩
 have w1 : IntKind.i64.wrap ((b : Int) - (a : Int)) = (L : Int) := by rw [wrap_i64] <;> omega
 have c8 : (8 : Int) ≤ (L : Int) := by omega
 obtain ⟨M, hM1, hM2, hM⟩ := r85 L (by omega) (by omega)
 have f85 := callE_tr (fs := true) (by decide) hM (by simp [Tr]) rfl
 have q4 := bin_quo4 L (by omega)
 have wu : IntKind.u64.wrap (L : Int) = (L : Int) := by rw [wrap_u64] <;> omega
 have w2 : IntKind.i64.wrap (((L / 4 : Nat) : Int) * 2) = ((L / 4 * 2 : Nat) : Int) := by rw [wrap_i64] <;> omega
 obtain ⟨t, ht⟩ : ∃ t, t = a + L / 4 * 2 := ⟨_, rfl⟩
 have w3 : IntKind.i64.wrap ((a : Int) + ((L / 4 * 2 : Nat) : Int)) = (t : Int) := by rw [wrap_i64] <;> omega
 have w4 : IntKind.i64.wrap ((t : Int) - 1) = ((t - 1 : Nat) : Int) := by rw [wrap_i64] <;> omega
 have w5 : IntKind.i64.wrap ((t : Int) + 1) = ((t + 1 : Nat) : Int) := by rw [wrap_i64] <;> omega
 have wm : IntKind.u64.wrap ((M : Int) - 1) = ((M - 1 : Nat) : Int) := by rw [wrap_u64] <;> omega
 have hidn : (id = n) = False := by simp; omega
 generalize hsz : d.size = N at *
 simp +contextual -implicitDefEqProofs (maxSteps := 2000000) only [↓wP, wS, seval, w1, c8, wu, f85, q4, w2, w3, w4, w5]
 refine WC_loopI 0 (fun (s : Nat × (Array Rw × Int)) env σ' n' => n' = n + 1 ∧ env 0 = .ref id 0 N 2 ∧ env 1 = .int .i64 (a : Int) ∧ env 8 = .int .i64 (L : Int) ∧ env 9 = .ptr n 1 0 0 ∧ env 10 = .int .u64 (M : Int) ∧ env 11 = .int .i64 (s.1 : Int) ∧
  a ≤ s.1 ∧ s.1 ≤ t + 2 ∧ σ' id = some (.row 2 (rw' s.2.1)) ∧ σ' n = some (.row 1 [.int .u64 s.2.2]) ∧ (∀ i, i ≠ id → i < n → σ' i = σ i) ∧ PermIn a b d s.2.1) (fun s => t + 3 - s.1) ?_ (t - 1, (d, (L : Int))) _ _ _ ?_
 ·intro ⟨i, e, r⟩ env σ1 n1 ⟨h1, h2, h3, h4, h5, h6, h7, h8', h9, h10, h11, h12, h13⟩
  subst h1
  simp only at h7 h8' h9 h10 h11 h13
  have he := hp e h13
  by_cases hlt : i ≤ t + 1
  ·have hlt' : (i : Int) ≤ ((t + 1 : Nat) : Int) := by omega
   have wi : IntKind.i64.wrap ((i : Int) + 1) = ((i + 1 : Nat) : Int) := by rw [wrap_i64] <;> omega
   simp +contextual -implicitDefEqProofs (maxSteps := 2000000) only [↓wP, wS, seval, h2, h3, h4, h5, h6, h7, q4, w2, w3, w5, hlt']
   refine stepW_raw (by decide) (raw86 F hF r n (n + 1) σ1 h11 fun r' σ2 g1 g2 => ?_)
   obtain ⟨y, hy, ey⟩ := bin_and64 r' (M - 1) (by omega)
   have hg : σ2 id = some (.row 2 (rw' e)) := by rw [g2 id (by omega), h10]
   have wy : IntKind.i64.wrap (y : Int) = (y : Int) := by rw [wrap_i64] <;> omega
   have x1 := rw_at (d := e) (i := i) (by omega)
   have l1 : i < N := by omega
   by_cases hge : L ≤ y
   ·have hge' : (L : Int) ≤ (y : Int) := by omega
    have wd : IntKind.i64.wrap ((y : Int) - (L : Int)) = ((y - L : Nat) : Int) := by rw [wrap_i64] <;> omega
    have wa : IntKind.i64.wrap ((a : Int) + ((y - L : Nat) : Int)) = ((a + (y - L) : Nat) : Int) := by rw [wrap_i64] <;> omega
    have x2 := rw_at (d := e) (i := a + (y - L)) (by omega)
    have l2 : a + (y - L) < N := by omega
    obtain ⟨u, v, x3⟩ := rw_set_at (d := e) (i := i) (j := a + (y - L)) (x := e[a + (y - L)]!) (by omega)
    simp +contextual -implicitDefEqProofs (maxSteps := 2000000) only [↓wP, wS, seval, h2, h3, h4, h5, h6, h7, wm, ey, wy, hge', wd, wa, hg, x1, x2, x3, l1, l2, wi, hidn]
    refine ⟨(i + 1, (swp e i (a + (y - L)), r')), by dsimp only; omega, rfl, by dsimp only; omega, by dsimp only; omega, ?_, ?_, ?_, ?_⟩
    ·dsimp only; rw [rw_swp]
    ·have a1 : n ≠ id := by omega
     simp only [a1, if_false]; exact g1
    ·intro k hk hkn
     rw [g2 k (by omega), h12 k hk hkn]
    ·exact permIn_trans _ _ _ _ _ h13 (swp_permIn e a b i (a + (y - L)) h8' (by omega) (by omega) (by omega) (by omega))
   ·have hge' : ¬ (L : Int) ≤ (y : Int) := by omega
    have wa : IntKind.i64.wrap ((a : Int) + (y : Int)) = ((a + y : Nat) : Int) := by rw [wrap_i64] <;> omega
    have x2 := rw_at (d := e) (i := a + y) (by omega)
    have l2 : a + y < N := by omega
    obtain ⟨u, v, x3⟩ := rw_set_at (d := e) (i := i) (j := a + y) (x := e[a + y]!) (by omega)
    simp +contextual -implicitDefEqProofs (maxSteps := 2000000) only [↓wP, wS, seval, h2, h3, h4, h5, h6, h7, wm, ey, wy, hge', wa, hg, x1, x2, x3, l1, l2, wi, hidn]
    refine ⟨(i + 1, (swp e i (a + y), r')), by dsimp only; omega, rfl, by dsimp only; omega, by dsimp only; omega, ?_, ?_, ?_, ?_⟩
    ·dsimp only; rw [rw_swp]
    ·have a1 : n ≠ id := by omega
     simp only [a1, if_false]; exact g1
    ·intro k hk hkn
     rw [g2 k (by omega), h12 k hk hkn]
    ·exact permIn_trans _ _ _ _ _ h13 (swp_permIn e a b i (a + y) h8' (by omega) (by omega) (by omega) (by omega))
  ·have hlt' : ¬ (i : Int) ≤ ((t + 1 : Nat) : Int) := by omega
   simp +contextual -implicitDefEqProofs (maxSteps := 2000000) only [↓wP, wS, seval, h2, h3, h4, h5, h6, h7, q4, w2, w3, w5, hlt']
   exact hQ _ e _ (by omega) h10 h12 h13
 ·simp +contextual -implicitDefEqProofs (maxSteps := 2000000) only [↓wP, wS, seval, hidn]
  refine ⟨by omega, by omega, hσ, fun i h1 h2 => ?_, permIn_refl _ _ _⟩
  have a1 : i ≠ n := by omega
  simp only [a1, if_false]
end Go.Q.SW
end

section
/- The partitions of a sort. -/
namespace Go.Q.SW
open Go.Q Go.Sort
theorem su_go {p : Rw → Bool} {d : Array Rw} {i j : Nat} (h : i ≤ j) (hp : p d[i]! = true) : scanUp p d j (i + 1) = scanUp p d j i := by
 conv => rhs; rw [scanUp]
 rw [if_pos (by simp [h, hp])]
theorem su_stop {p : Rw → Bool} {d : Array Rw} {i j : Nat} (h : ¬ i ≤ j ∨ p d[i]! = false) : scanUp p d j i = i := by
 rw [scanUp]
 rcases h with h | h <;> simp [h]
theorem sd_go {p : Rw → Bool} {d : Array Rw} {i j : Nat} (h : i ≤ j + 1) (hp : p d[j + 1]! = true) : scanDown p d i j = scanDown p d i (j + 1) := by
 conv => rhs; rw [scanDown]
 rw [if_pos (by simp [h, hp])]
theorem sd_stop {p : Rw → Bool} {d : Array Rw} {i j : Nat} (h : ¬ i ≤ j ∨ p d[j]! = false) : scanDown p d i j = j := by
 cases j with
 | zero => rfl
 | succ j =>
   rw [scanDown]
   rcases h with h | h
   ·simp [h]
   ·simp [h]
theorem raw77 (F : Nat) (hF : CmpF F) (d : Array Rw) (a b p id n : Nat) (σ : Sto) (hap : a ≤ p) (hpb : p < b) (hb : b ≤ d.size) (hn : d.size < 1000000) (hσ : σ id = some (.row 2 (rw' d))) {Q : V → Sto → Nat → Prop}
 (hQ : ∀ σ', At σ' σ id (partitionEqual ahR d a b p).2 → Q (.int .i64 ((partitionEqual ahR d a b p).1 : Int)) σ' n) :
 run T (.raw 77 [.ref id 0 d.size 2, .int .i64 (a : Int), .int .i64 (b : Int), .int .i64 (p : Int), .fn F []] σ n 0) (memQ Q) := by
 refine run_rawE (fn := g77) rfl rfl ?_
 simp only [g77, b77, zO, zN, zM, zL, zG, zP, zQ, zI, zA, zT, zF, zB, zC, zD, zE, zH, zJ, zK]
 have w1 : IntKind.i64.wrap ((a : Int) + 1) = ((a + 1 : Nat) : Int) := by rw [wrap_i64] <;> omega
 have w2 : IntKind.i64.wrap ((b : Int) - 1) = ((b - 1 : Nat) : Int) := by rw [wrap_i64] <;> omega
 have y1 := rw_at (d := d) (i := a) (by omega)
 have y2 := rw_at (d := d) (i := p) (by omega)
 obtain ⟨u, v, y3⟩ := rw_set_at (d := d) (i := a) (j := p) (x := d[p]!) (by omega)
 have hat0 := (At.refl hσ).swp a p
 have hs0 : (swp d a p).size = d.size := swp_size _ _ _
 unfold partitionEqual at hQ
 generalize hsz : d.size = N at *
 have m1 : a < N := by omega
 have m2 : p < N := by omega
 simp +contextual -implicitDefEqProofs (maxSteps := 2000000) only [↓wP, wS, seval, w1, w2, y1, y2, y3, m1, m2, hσ]
 generalize (upd (upd σ id (some (.row 2 ((rw' d).set a (.agg [.int .u64 (d[p]!).id, slV 1 i32V (d[p]!).v]))))) id
  (some (.row 2 (((rw' d).set a (.agg [.int .u64 (d[p]!).id, slV 1 i32V (d[p]!).v])).set p (.agg [.int .u64 (d[a]!).id, slV 1 i32V (d[a]!).v]))))) = σ0 at hat0
 generalize swp d a p = d0 at *
 refine WC_loopI 0 (fun (s : (Nat × Nat) × Array Rw) env σ' n' => n' = n ∧ env 0 = .ref id 0 N 2 ∧ env 1 = .int .i64 (a : Int) ∧ env 4 = .fn F [] ∧ env 11 = .int .i64 (s.1.1 : Int) ∧ env 12 = .int .i64 (s.1.2 : Int) ∧
  a < s.1.1 ∧ s.1.1 ≤ s.1.2 + 2 ∧ s.1.2 < b ∧ s.2.size = N ∧ At σ' σ id s.2 ∧ partEqLoop ahR a s.1.1 s.1.2 s.2 = partEqLoop ahR a (a + 1) (b - 1) d0) (fun s => s.1.2 + 1 - s.1.1) ?_ ((a + 1, b - 1), d0) _ _ _ ?_
 ·intro ⟨⟨i, j⟩, e⟩ env σ1 n1 ⟨h1, h2, h3, h4, h5, h6, h7, h8, h9, h10, h11, h12⟩
  subst h1
  simp only at h5 h6 h7 h8 h9 h10 h11 h12
  have hat := h11.1
  have xa := rw_at (d := e) (i := a) (by omega)
  rw [partEqLoop_eq] at h12
  simp +contextual -implicitDefEqProofs (maxSteps := 2000000) only [↓wP, wS, seval]
  refine WC_loopE 2 0 (fun (i' : Nat) env σ' n' => σ' = σ1 ∧ n' = n1 ∧ env 0 = .ref id 0 N 2 ∧ env 1 = .int .i64 (a : Int) ∧ env 4 = .fn F [] ∧ env 11 = .int .i64 (i' : Int) ∧ env 12 = .int .i64 (j : Int) ∧
   i ≤ i' ∧ i' ≤ j + 2 ∧ scanUp (fun x => !ahR e[a]! x) e j i' = scanUp (fun x => !ahR e[a]! x) e j i) (fun i' => j + 1 - i')
   (fun env σ' n' => σ' = σ1 ∧ n' = n1 ∧ env 0 = .ref id 0 N 2 ∧ env 1 = .int .i64 (a : Int) ∧ env 4 = .fn F [] ∧ env 11 = .int .i64 ((scanUp (fun x => !ahR e[a]! x) e j i : Nat) : Int) ∧ env 12 = .int .i64 (j : Int) ∧ scanUp (fun x => !ahR e[a]! x) e j i ≤ j + 2) ?_ ?_ i _ _ _ ?_
  ·clear h2 h3 h4 h5 h6
   intro i' env σ2 n2 ⟨k1, k2, k3, k4, k5, k6, k7, k8, k9, k10⟩
   subst k1 k2
   by_cases hle : i' ≤ j
   ·have hle' : (i' : Int) ≤ (j : Int) := by omega
    have wi : IntKind.i64.wrap ((i' : Int) + 1) = ((i' + 1 : Nat) : Int) := by rw [wrap_i64] <;> omega
    have x1 := rw_at (d := e) (i := i') (by omega)
    have l1 : i' < N := by omega
    by_cases hc : cmpU (e[a]!).id (e[i']!).id < 0
    ·have hah : ahR e[a]! e[i']! = true := by rw [← cmp_lt]; simpa using hc
     have hst := su_stop (p := fun x => !ahR e[a]! x) (d := e) (i := i') (j := j) (.inr (by simp [hah]))
     rw [hst] at k10
     rw [← k10]
     simp +contextual -implicitDefEqProofs (maxSteps := 2000000) only [↓wP, wS, seval, exQ_exit, k3, k4, k5, k6, k7, hle', hat, m1, l1, xa, x1, hF, hc]
     omega
    ·have hah : ahR e[a]! e[i']! = false := by rw [← cmp_lt]; simpa using hc
     simp +contextual -implicitDefEqProofs (maxSteps := 2000000) only [↓wP, wS, seval, exQ_exit, k3, k4, k5, k6, k7, hle', hat, m1, l1, xa, x1, hF, hc, wi]
     exact ⟨i' + 1, by omega, rfl, by omega, by omega, by rw [su_go hle (by simp [hah])]; exact k10⟩
   ·have hle' : ¬ (i' : Int) ≤ (j : Int) := by omega
    have hst := su_stop (p := fun x => !ahR e[a]! x) (d := e) (i := i') (j := j) (.inl hle)
    rw [hst] at k10
    rw [← k10]
    simp +contextual -implicitDefEqProofs (maxSteps := 2000000) only [↓wP, wS, seval, exQ_exit, k3, k4, k5, k6, k7, hle']
    omega
  ·clear h2 h3 h4 h5 h6
   intro env σ2 n2 ⟨k1, k2, h2, h3, h4, h5, h6, k8⟩
   subst k1 k2
   have hge := scanUp_ge (fun x => !ahR e[a]! x) e j i
   generalize scanUp (fun x => !ahR e[a]! x) e j i = i2 at *
   simp +contextual -implicitDefEqProofs (maxSteps := 2000000) only [↓wP, wS, seval]
   refine WC_loopE 4 0 (fun (j' : Nat) env σ' n' => σ' = σ2 ∧ n' = n2 ∧ env 0 = .ref id 0 N 2 ∧ env 1 = .int .i64 (a : Int) ∧ env 4 = .fn F [] ∧ env 11 = .int .i64 (i2 : Int) ∧ env 12 = .int .i64 (j' : Int) ∧
    j' ≤ j ∧ i2 ≤ j' + 2 ∧ scanDown (fun x => ahR e[a]! x) e i2 j' = scanDown (fun x => ahR e[a]! x) e i2 j) (fun j' => j')
    (fun env σ' n' => σ' = σ2 ∧ n' = n2 ∧ env 0 = .ref id 0 N 2 ∧ env 1 = .int .i64 (a : Int) ∧ env 4 = .fn F [] ∧ env 11 = .int .i64 (i2 : Int) ∧ env 12 = .int .i64 ((scanDown (fun x => ahR e[a]! x) e i2 j : Nat) : Int) ∧ i2 ≤ scanDown (fun x => ahR e[a]! x) e i2 j + 2) ?_ ?_ j _ _ _ ?_
   ·clear h2 h3 h4 h5 h6
    intro j' env σ3 n3 ⟨k1, k2, k3, k4, k5, k6, k7, k8, k9, k10⟩
    subst k1 k2
    by_cases hle : i2 ≤ j'
    ·have hle' : (i2 : Int) ≤ (j' : Int) := by omega
     obtain ⟨j', rfl⟩ : ∃ q, j' = q + 1 := ⟨j' - 1, by omega⟩
     have wi : IntKind.i64.wrap (((j' + 1 : Nat) : Int) - 1) = (j' : Int) := by rw [wrap_i64] <;> omega
     have x1 := rw_at (d := e) (i := j' + 1) (by omega)
     have l1 : j' + 1 < N := by omega
     by_cases hc : cmpU (e[a]!).id (e[j' + 1]!).id < 0
     ·have hah : ahR e[a]! e[j' + 1]! = true := by rw [← cmp_lt]; simpa using hc
      simp +contextual -implicitDefEqProofs (maxSteps := 2000000) only [↓wP, wS, seval, exQ_exit, k3, k4, k5, k6, k7, hle', hat, m1, l1, xa, x1, hF, hc, wi]
      exact ⟨j', by omega, rfl, by omega, by omega, by rw [sd_go hle hah]; exact k10⟩
     ·have hah : ahR e[a]! e[j' + 1]! = false := by rw [← cmp_lt]; simpa using hc
      have hst := sd_stop (p := fun x => ahR e[a]! x) (d := e) (i := i2) (j := j' + 1) (.inr hah)
      rw [hst] at k10
      rw [← k10]
      simp +contextual -implicitDefEqProofs (maxSteps := 2000000) only [↓wP, wS, seval, exQ_exit, k3, k4, k5, k6, k7, hle', hat, m1, l1, xa, x1, hF, hc]
      omega
    ·have hle' : ¬ (i2 : Int) ≤ (j' : Int) := by omega
     have hst := sd_stop (p := fun x => ahR e[a]! x) (d := e) (i := i2) (j := j') (.inl hle)
     rw [hst] at k10
     rw [← k10]
     simp +contextual -implicitDefEqProofs (maxSteps := 2000000) only [↓wP, wS, seval, exQ_exit, k3, k4, k5, k6, k7, hle']
     omega
   ·clear h2 h3 h4 h5 h6
    intro env σ3 n3 ⟨k1, k2, h2, h3, h4, h5, h6, k9⟩
    subst k1 k2
    have hle := scanDown_le (fun x => ahR e[a]! x) e i2 j
    generalize scanDown (fun x => ahR e[a]! x) e i2 j = j2 at *
    by_cases hgt : j2 < i2
    ·have hgt' : (j2 : Int) < (i2 : Int) := by omega
     rw [if_pos hgt] at h12
     simp +contextual -implicitDefEqProofs (maxSteps := 2000000) only [↓wP, wS, seval, h2, h3, h4, h5, h6, hgt']
     have := hQ σ3
     rw [← h12] at this
     exact this h11
    ·have hgt' : ¬ (j2 : Int) < (i2 : Int) := by omega
     rw [if_neg hgt] at h12
     have wi : IntKind.i64.wrap ((i2 : Int) + 1) = ((i2 + 1 : Nat) : Int) := by rw [wrap_i64] <;> omega
     have wj : IntKind.i64.wrap ((j2 : Int) - 1) = ((j2 - 1 : Nat) : Int) := by rw [wrap_i64] <;> omega
     have x1 := rw_at (d := e) (i := i2) (by omega)
     have x2 := rw_at (d := e) (i := j2) (by omega)
     obtain ⟨u, v, x3⟩ := rw_set_at (d := e) (i := i2) (j := j2) (x := e[j2]!) (by omega)
     have l1 : i2 < N := by omega
     have l2 : j2 < N := by omega
     simp +contextual -implicitDefEqProofs (maxSteps := 2000000) only [↓wP, wS, seval, h2, h3, h4, h5, h6, hgt', wi, wj, x1, x2, x3, l1, l2, hat]
     refine ⟨((i2 + 1, j2 - 1), swp e i2 j2), by dsimp only; omega, rfl, rfl, by dsimp only; omega, by dsimp only; omega, by dsimp only; omega, by rw [swp_size, h10], h11.swp _ _, h12⟩
   ·simp +contextual -implicitDefEqProofs (maxSteps := 2000000) only [↓wP, wS, seval, h2, h3, h4, h5, h6]
    exact k8
  ·simp +contextual -implicitDefEqProofs (maxSteps := 2000000) only [↓wP, wS, seval, h2, h3, h4, h5, h6]
   exact h8
 ·simp +contextual -implicitDefEqProofs (maxSteps := 2000000) only [↓wP, wS, seval]
  exact ⟨by omega, by omega, by omega, hs0, hat0⟩
theorem raw78 (F : Nat) (hF : CmpF F) (d : Array Rw) (a b p id n : Nat) (σ : Sto) (hap : a ≤ p) (hpb : p < b) (hb : b ≤ d.size) (hn : d.size < 1000000) (hσ : σ id = some (.row 2 (rw' d))) {Q : V → Sto → Nat → Prop}
 (hQ : ∀ σ', At σ' σ id (partition ahR d a b p).2.2 → Q (.tup [.int .i64 ((partition ahR d a b p).1 : Int), .bool (partition ahR d a b p).2.1]) σ' n) :
 run T (.raw 78 [.ref id 0 d.size 2, .int .i64 (a : Int), .int .i64 (b : Int), .int .i64 (p : Int), .fn F []] σ n 0) (memQ Q) := by
 refine run_rawE (fn := g78) rfl rfl ?_
 simp only [g78, b78, zO, zN, zM, zL, zG, zP, zQ, zI, zA, zT, zF, zB, zC, zD, zE, zH, zJ, zK]
 have w1 : IntKind.i64.wrap ((a : Int) + 1) = ((a + 1 : Nat) : Int) := by rw [wrap_i64] <;> omega
 have w2 : IntKind.i64.wrap ((b : Int) - 1) = ((b - 1 : Nat) : Int) := by rw [wrap_i64] <;> omega
 have y1 := rw_at (d := d) (i := a) (by omega)
 have y2 := rw_at (d := d) (i := p) (by omega)
 obtain ⟨u, v, y3⟩ := rw_set_at (d := d) (i := a) (j := p) (x := d[p]!) (by omega)
 have h11 := (At.refl hσ).swp a p
 have h10 : (swp d a p).size = d.size := swp_size _ _ _
 unfold partition at hQ
 generalize hsz : d.size = N at *
 have m1 : a < N := by omega
 have m2 : p < N := by omega
 simp +contextual -implicitDefEqProofs (maxSteps := 2000000) only [↓wP, wS, seval, w1, w2, y1, y2, y3, m1, m2, hσ]
 generalize (upd (upd σ id (some (.row 2 ((rw' d).set a (.agg [.int .u64 (d[p]!).id, slV 1 i32V (d[p]!).v]))))) id
  (some (.row 2 (((rw' d).set a (.agg [.int .u64 (d[p]!).id, slV 1 i32V (d[p]!).v])).set p (.agg [.int .u64 (d[a]!).id, slV 1 i32V (d[a]!).v]))))) = σ1 at h11
 generalize swp d a p = e at *
 simp only [gt_iff_lt] at hQ
 have hat := h11.1
 have xa := rw_at (d := e) (i := a) (by omega)
 obtain ⟨n1, hn1⟩ : ∃ n1, n1 = n := ⟨_, rfl⟩
 rw [← hn1] at hQ ⊢
 have h8 : a + 1 ≤ b - 1 + 2 := by omega
 have h2 : True := trivial
 have h3 : True := trivial
 have h4 : True := trivial
 have h5 : True := trivial
 have h6 : True := trivial
 refine WC_loopE 0 0 (fun (i' : Nat) env σ' n' => σ' = σ1 ∧ n' = n1 ∧ env 0 = .ref id 0 N 2 ∧ env 1 = .int .i64 (a : Int) ∧ env 4 = .fn F [] ∧ env 12 = .int .i64 (i' : Int) ∧ env 13 = .int .i64 ((b - 1 : Nat) : Int) ∧
  a + 1 ≤ i' ∧ i' ≤ b - 1 + 2 ∧ scanUp (fun x => ahR x e[a]!) e (b - 1) i' = scanUp (fun x => ahR x e[a]!) e (b - 1) (a + 1)) (fun i' => b - 1 + 1 - i')
  (fun env σ' n' => σ' = σ1 ∧ n' = n1 ∧ env 0 = .ref id 0 N 2 ∧ env 1 = .int .i64 (a : Int) ∧ env 4 = .fn F [] ∧ env 12 = .int .i64 ((scanUp (fun x => ahR x e[a]!) e (b - 1) (a + 1) : Nat) : Int) ∧ env 13 = .int .i64 ((b - 1 : Nat) : Int) ∧ scanUp (fun x => ahR x e[a]!) e (b - 1) (a + 1) ≤ b - 1 + 2) ?_ ?_ (a + 1) _ _ _ ?_
 ·clear h2 h3 h4 h5 h6
  intro i' env σ2 n2 ⟨k1, k2, k3, k4, k5, k6, k7, k8, k9, k10⟩
  subst k1 k2
  by_cases hle : i' ≤ b - 1
  ·have hle' : (i' : Int) ≤ ((b - 1 : Nat) : Int) := by omega
   have wi : IntKind.i64.wrap ((i' : Int) + 1) = ((i' + 1 : Nat) : Int) := by rw [wrap_i64] <;> omega
   have x1 := rw_at (d := e) (i := i') (by omega)
   have l1 : i' < N := by omega
   by_cases hc : cmpU (e[i']!).id (e[a]!).id < 0
   ·have hah : ahR e[i']! e[a]! = true := by rw [← cmp_lt]; simpa using hc
    simp +contextual -implicitDefEqProofs (maxSteps := 2000000) only [↓wP, wS, seval, exQ_exit, k3, k4, k5, k6, k7, hle', hat, m1, l1, xa, x1, hF, hc, wi]
    exact ⟨i' + 1, by omega, rfl, by omega, by omega, by rw [su_go hle (by simp [hah])]; exact k10⟩
   ·have hah : ahR e[i']! e[a]! = false := by rw [← cmp_lt]; simpa using hc
    have hst := su_stop (p := (fun x => ahR x e[a]!)) (d := e) (i := i') (j := b - 1) (.inr (by simp [hah]))
    rw [hst] at k10
    rw [← k10]
    simp +contextual -implicitDefEqProofs (maxSteps := 2000000) only [↓wP, wS, seval, exQ_exit, k3, k4, k5, k6, k7, hle', hat, m1, l1, xa, x1, hF, hc]
    omega
  ·have hle' : ¬ (i' : Int) ≤ ((b - 1 : Nat) : Int) := by omega
   have hst := su_stop (p := (fun x => ahR x e[a]!)) (d := e) (i := i') (j := b - 1) (.inl hle)
   rw [hst] at k10
   rw [← k10]
   simp +contextual -implicitDefEqProofs (maxSteps := 2000000) only [↓wP, wS, seval, exQ_exit, k3, k4, k5, k6, k7, hle']
   omega
 ·clear h2 h3 h4 h5 h6
  intro env σ2 n2 ⟨k1, k2, h2, h3, h4, h5, h6, k8⟩
  subst k1 k2
  have hge := scanUp_ge (fun x => ahR x e[a]!) e (b - 1) (a + 1)
  generalize scanUp (fun x => ahR x e[a]!) e (b - 1) (a + 1) = i2 at *
  simp +contextual -implicitDefEqProofs (maxSteps := 2000000) only [↓wP, wS, seval]
  refine WC_loopE 2 0 (fun (j' : Nat) env σ' n' => σ' = σ2 ∧ n' = n2 ∧ env 0 = .ref id 0 N 2 ∧ env 1 = .int .i64 (a : Int) ∧ env 4 = .fn F [] ∧ env 12 = .int .i64 (i2 : Int) ∧ env 13 = .int .i64 (j' : Int) ∧
   j' ≤ b - 1 ∧ i2 ≤ j' + 2 ∧ scanDown (fun x => !ahR x e[a]!) e i2 j' = scanDown (fun x => !ahR x e[a]!) e i2 (b - 1)) (fun j' => j')
   (fun env σ' n' => σ' = σ2 ∧ n' = n2 ∧ env 0 = .ref id 0 N 2 ∧ env 1 = .int .i64 (a : Int) ∧ env 4 = .fn F [] ∧ env 12 = .int .i64 (i2 : Int) ∧ env 13 = .int .i64 ((scanDown (fun x => !ahR x e[a]!) e i2 (b - 1) : Nat) : Int) ∧ i2 ≤ scanDown (fun x => !ahR x e[a]!) e i2 (b - 1) + 2) ?_ ?_ (b - 1) _ _ _ ?_
  ·clear h2 h3 h4 h5 h6
   intro j' env σ3 n3 ⟨k1, k2, k3, k4, k5, k6, k7, k8, k9, k10⟩
   subst k1 k2
   by_cases hle : i2 ≤ j'
   ·have hle' : (i2 : Int) ≤ (j' : Int) := by omega
    obtain ⟨j', rfl⟩ : ∃ q, j' = q + 1 := ⟨j' - 1, by omega⟩
    have wi : IntKind.i64.wrap (((j' + 1 : Nat) : Int) - 1) = (j' : Int) := by rw [wrap_i64] <;> omega
    have x1 := rw_at (d := e) (i := j' + 1) (by omega)
    have l1 : j' + 1 < N := by omega
    by_cases hc : cmpU (e[j' + 1]!).id (e[a]!).id < 0
    ·have hah : ahR e[j' + 1]! e[a]! = true := by rw [← cmp_lt]; simpa using hc
     have hst := sd_stop (p := (fun x => !ahR x e[a]!)) (d := e) (i := i2) (j := j' + 1) (.inr (by simp [hah]))
     rw [hst] at k10
     rw [← k10]
     simp +contextual -implicitDefEqProofs (maxSteps := 2000000) only [↓wP, wS, seval, exQ_exit, k3, k4, k5, k6, k7, hle', hat, m1, l1, xa, x1, hF, hc]
     omega
    ·have hah : ahR e[j' + 1]! e[a]! = false := by rw [← cmp_lt]; simpa using hc
     simp +contextual -implicitDefEqProofs (maxSteps := 2000000) only [↓wP, wS, seval, exQ_exit, k3, k4, k5, k6, k7, hle', hat, m1, l1, xa, x1, hF, hc, wi]
     exact ⟨j', by omega, rfl, by omega, by omega, by rw [sd_go hle (by simp [hah])]; exact k10⟩
   ·have hle' : ¬ (i2 : Int) ≤ (j' : Int) := by omega
    have hst := sd_stop (p := (fun x => !ahR x e[a]!)) (d := e) (i := i2) (j := j') (.inl hle)
    rw [hst] at k10
    rw [← k10]
    simp +contextual -implicitDefEqProofs (maxSteps := 2000000) only [↓wP, wS, seval, exQ_exit, k3, k4, k5, k6, k7, hle']
    omega
  ·clear h2 h3 h4 h5 h6
   intro env σ3 n3 ⟨k1, k2, h2, h3, h4, h5, h6, k9⟩
   subst k1 k2
   have hle := scanDown_le (fun x => !ahR x e[a]!) e i2 (b - 1)
   generalize scanDown (fun x => !ahR x e[a]!) e i2 (b - 1) = j2 at *
   by_cases hgt : j2 < i2
   ·have hgt' : (j2 : Int) < (i2 : Int) := by omega
    have x1 := rw_at (d := e) (i := j2) (by omega)
    have x2 := rw_at (d := e) (i := a) (by omega)
    obtain ⟨u, v, x3⟩ := rw_set_at (d := e) (i := j2) (j := a) (x := e[a]!) (by omega)
    have l1 : j2 < N := by omega
    have l2 : a < N := by omega
    simp +contextual -implicitDefEqProofs (maxSteps := 2000000) only [↓wP, wS, seval, h2, h3, h4, h5, h6, hgt', x1, x2, x3, l1, l2, hat]
    rw [if_pos hgt] at hQ
    exact hQ _ (h11.swp _ _)
   ·have hgt' : ¬ (j2 : Int) < (i2 : Int) := by omega
    rw [if_neg hgt] at hQ
    have wi : IntKind.i64.wrap ((i2 : Int) + 1) = ((i2 + 1 : Nat) : Int) := by rw [wrap_i64] <;> omega
    have wj : IntKind.i64.wrap ((j2 : Int) - 1) = ((j2 - 1 : Nat) : Int) := by rw [wrap_i64] <;> omega
    have x1 := rw_at (d := e) (i := i2) (by omega)
    have x2 := rw_at (d := e) (i := j2) (by omega)
    obtain ⟨u, v, x3⟩ := rw_set_at (d := e) (i := i2) (j := j2) (x := e[j2]!) (by omega)
    have l1 : i2 < N := by omega
    have l2 : j2 < N := by omega
    have hat1 := h11.swp i2 j2
    have hs1 : (swp e i2 j2).size = N := by rw [swp_size, h10]
    simp +contextual -implicitDefEqProofs (maxSteps := 2000000) only [↓wP, wS, seval, h2, h3, h4, h5, h6, hgt', wi, wj, x1, x2, x3, l1, l2, hat]
    generalize (upd (upd σ3 id (some (.row 2 ((rw' e).set i2 (.agg [.int .u64 (e[j2]!).id, slV 1 i32V (e[j2]!).v]))))) id
     (some (.row 2 (((rw' e).set i2 (.agg [.int .u64 (e[j2]!).id, slV 1 i32V (e[j2]!).v])).set j2 (.agg [.int .u64 (e[i2]!).id, slV 1 i32V (e[i2]!).v]))))) = σ5 at hat1
    generalize swp e i2 j2 = d1 at *
    have hR : ∀ (j3 : Nat) (e : Array Rw), (j3, e) = partLoop ahR a (i2 + 1) (j2 - 1) d1 → e.size = N → j3 < b → ∀ σ', At σ' σ id (swp e j3 a) → Q (.tup [.int .i64 (j3 : Int), .bool false]) σ' n3 := by
     intro j3 e h1 _ _ σ' h4
     rw [← h1] at hQ
     exact hQ _ h4
    generalize i2 = i0 at *
    generalize j2 = j0 at *
    clear x1 x2 x3 l1 l2 k8 k9 h10 h11 hgt' wi wj
    refine WC_loopI 0 (fun (s : (Nat × Nat) × Array Rw) env σ' n' => n' = n3 ∧ env 0 = .ref id 0 N 2 ∧ env 1 = .int .i64 (a : Int) ∧ env 4 = .fn F [] ∧ env 12 = .int .i64 (s.1.1 : Int) ∧ env 13 = .int .i64 (s.1.2 : Int) ∧
     a < s.1.1 ∧ s.1.1 ≤ s.1.2 + 2 ∧ s.1.2 < b ∧ s.2.size = N ∧ At σ' σ id s.2 ∧ partLoop ahR a s.1.1 s.1.2 s.2 = partLoop ahR a (i0 + 1) (j0 - 1) d1) (fun s => s.1.2 + 1 - s.1.1) ?_ ((i0 + 1, j0 - 1), d1) _ _ _ ?_
    ·clear hat xa
     intro ⟨⟨i, j⟩, e⟩ env σ1 n1 ⟨h1, h2, h3, h4, h5, h6, h7, h8, h9, h10, h11, h12⟩
     subst h1
     simp only at h5 h6 h7 h8 h9 h10 h11 h12
     have hat := h11.1
     have xa := rw_at (d := e) (i := a) (by omega)
     rw [partLoop_eq] at h12
     simp +contextual -implicitDefEqProofs (maxSteps := 2000000) only [↓wP, wS, seval]
     refine WC_loopE 6 0 (fun (i' : Nat) env σ' n' => σ' = σ1 ∧ n' = n1 ∧ env 0 = .ref id 0 N 2 ∧ env 1 = .int .i64 (a : Int) ∧ env 4 = .fn F [] ∧ env 12 = .int .i64 (i' : Int) ∧ env 13 = .int .i64 ((j : Nat) : Int) ∧
      i ≤ i' ∧ i' ≤ j + 2 ∧ scanUp (fun x => ahR x e[a]!) e (j) i' = scanUp (fun x => ahR x e[a]!) e (j) (i)) (fun i' => j + 1 - i')
      (fun env σ' n' => σ' = σ1 ∧ n' = n1 ∧ env 0 = .ref id 0 N 2 ∧ env 1 = .int .i64 (a : Int) ∧ env 4 = .fn F [] ∧ env 12 = .int .i64 ((scanUp (fun x => ahR x e[a]!) e (j) (i) : Nat) : Int) ∧ env 13 = .int .i64 ((j : Nat) : Int) ∧ scanUp (fun x => ahR x e[a]!) e (j) (i) ≤ j + 2) ?_ ?_ (i) _ _ _ ?_
     ·clear h2 h3 h4 h5 h6
      intro i' env σ2 n2 ⟨k1, k2, k3, k4, k5, k6, k7, k8, k9, k10⟩
      subst k1 k2
      by_cases hle : i' ≤ j
      ·have hle' : (i' : Int) ≤ ((j : Nat) : Int) := by omega
       have wi : IntKind.i64.wrap ((i' : Int) + 1) = ((i' + 1 : Nat) : Int) := by rw [wrap_i64] <;> omega
       have x1 := rw_at (d := e) (i := i') (by omega)
       have l1 : i' < N := by omega
       by_cases hc : cmpU (e[i']!).id (e[a]!).id < 0
       ·have hah : ahR e[i']! e[a]! = true := by rw [← cmp_lt]; simpa using hc
        simp +contextual -implicitDefEqProofs (maxSteps := 2000000) only [↓wP, wS, seval, exQ_exit, k3, k4, k5, k6, k7, hle', hat, m1, l1, xa, x1, hF, hc, wi]
        exact ⟨i' + 1, by omega, rfl, by omega, by omega, by rw [su_go hle (by simp [hah])]; exact k10⟩
       ·have hah : ahR e[i']! e[a]! = false := by rw [← cmp_lt]; simpa using hc
        have hst := su_stop (p := (fun x => ahR x e[a]!)) (d := e) (i := i') (j := j) (.inr (by simp [hah]))
        rw [hst] at k10
        rw [← k10]
        simp +contextual -implicitDefEqProofs (maxSteps := 2000000) only [↓wP, wS, seval, exQ_exit, k3, k4, k5, k6, k7, hle', hat, m1, l1, xa, x1, hF, hc]
        omega
      ·have hle' : ¬ (i' : Int) ≤ ((j : Nat) : Int) := by omega
       have hst := su_stop (p := (fun x => ahR x e[a]!)) (d := e) (i := i') (j := j) (.inl hle)
       rw [hst] at k10
       rw [← k10]
       simp +contextual -implicitDefEqProofs (maxSteps := 2000000) only [↓wP, wS, seval, exQ_exit, k3, k4, k5, k6, k7, hle']
       omega
     ·clear h2 h3 h4 h5 h6
      intro env σ2 n2 ⟨k1, k2, h2, h3, h4, h5, h6, k8⟩
      subst k1 k2
      have hge := scanUp_ge (fun x => ahR x e[a]!) e (j) (i)
      generalize scanUp (fun x => ahR x e[a]!) e (j) (i) = i2 at *
      simp +contextual -implicitDefEqProofs (maxSteps := 2000000) only [↓wP, wS, seval]
      refine WC_loopE 8 0 (fun (j' : Nat) env σ' n' => σ' = σ2 ∧ n' = n2 ∧ env 0 = .ref id 0 N 2 ∧ env 1 = .int .i64 (a : Int) ∧ env 4 = .fn F [] ∧ env 12 = .int .i64 (i2 : Int) ∧ env 13 = .int .i64 (j' : Int) ∧
       j' ≤ j ∧ i2 ≤ j' + 2 ∧ scanDown (fun x => !ahR x e[a]!) e i2 j' = scanDown (fun x => !ahR x e[a]!) e i2 (j)) (fun j' => j')
       (fun env σ' n' => σ' = σ2 ∧ n' = n2 ∧ env 0 = .ref id 0 N 2 ∧ env 1 = .int .i64 (a : Int) ∧ env 4 = .fn F [] ∧ env 12 = .int .i64 (i2 : Int) ∧ env 13 = .int .i64 ((scanDown (fun x => !ahR x e[a]!) e i2 (j) : Nat) : Int) ∧ i2 ≤ scanDown (fun x => !ahR x e[a]!) e i2 (j) + 2) ?_ ?_ (j) _ _ _ ?_
      ·clear h2 h3 h4 h5 h6
       intro j' env σ3 n3 ⟨k1, k2, k3, k4, k5, k6, k7, k8, k9, k10⟩
       subst k1 k2
       by_cases hle : i2 ≤ j'
       ·have hle' : (i2 : Int) ≤ (j' : Int) := by omega
        obtain ⟨j', rfl⟩ : ∃ q, j' = q + 1 := ⟨j' - 1, by omega⟩
        have wi : IntKind.i64.wrap (((j' + 1 : Nat) : Int) - 1) = (j' : Int) := by rw [wrap_i64] <;> omega
        have x1 := rw_at (d := e) (i := j' + 1) (by omega)
        have l1 : j' + 1 < N := by omega
        by_cases hc : cmpU (e[j' + 1]!).id (e[a]!).id < 0
        ·have hah : ahR e[j' + 1]! e[a]! = true := by rw [← cmp_lt]; simpa using hc
         have hst := sd_stop (p := (fun x => !ahR x e[a]!)) (d := e) (i := i2) (j := j' + 1) (.inr (by simp [hah]))
         rw [hst] at k10
         rw [← k10]
         simp +contextual -implicitDefEqProofs (maxSteps := 2000000) only [↓wP, wS, seval, exQ_exit, k3, k4, k5, k6, k7, hle', hat, m1, l1, xa, x1, hF, hc]
         omega
        ·have hah : ahR e[j' + 1]! e[a]! = false := by rw [← cmp_lt]; simpa using hc
         simp +contextual -implicitDefEqProofs (maxSteps := 2000000) only [↓wP, wS, seval, exQ_exit, k3, k4, k5, k6, k7, hle', hat, m1, l1, xa, x1, hF, hc, wi]
         exact ⟨j', by omega, rfl, by omega, by omega, by rw [sd_go hle (by simp [hah])]; exact k10⟩
       ·have hle' : ¬ (i2 : Int) ≤ (j' : Int) := by omega
        have hst := sd_stop (p := (fun x => !ahR x e[a]!)) (d := e) (i := i2) (j := j') (.inl hle)
        rw [hst] at k10
        rw [← k10]
        simp +contextual -implicitDefEqProofs (maxSteps := 2000000) only [↓wP, wS, seval, exQ_exit, k3, k4, k5, k6, k7, hle']
        omega
      ·clear h2 h3 h4 h5 h6
       intro env σ3 n3 ⟨k1, k2, h2, h3, h4, h5, h6, k9⟩
       subst k1 k2
       have hle := scanDown_le (fun x => !ahR x e[a]!) e i2 (j)
       generalize scanDown (fun x => !ahR x e[a]!) e i2 (j) = j2 at *
       by_cases hgt : j2 < i2
       ·have hgt' : (j2 : Int) < (i2 : Int) := by omega
        rw [if_pos hgt] at h12
        have x1 := rw_at (d := e) (i := j2) (by omega)
        have x2 := rw_at (d := e) (i := a) (by omega)
        obtain ⟨u, v, x3⟩ := rw_set_at (d := e) (i := j2) (j := a) (x := e[a]!) (by omega)
        have l1 : j2 < N := by omega
        have l2 : a < N := by omega
        simp +contextual -implicitDefEqProofs (maxSteps := 2000000) only [↓wP, wS, seval, h2, h3, h4, h5, h6, hgt', x1, x2, x3, l1, l2, hat]
        have := hR j2 e h12 h10 (by omega)
        exact this _ (h11.swp _ _)
       ·have hgt' : ¬ (j2 : Int) < (i2 : Int) := by omega
        rw [if_neg hgt] at h12
        have wi : IntKind.i64.wrap ((i2 : Int) + 1) = ((i2 + 1 : Nat) : Int) := by rw [wrap_i64] <;> omega
        have wj : IntKind.i64.wrap ((j2 : Int) - 1) = ((j2 - 1 : Nat) : Int) := by rw [wrap_i64] <;> omega
        have x1 := rw_at (d := e) (i := i2) (by omega)
        have x2 := rw_at (d := e) (i := j2) (by omega)
        obtain ⟨u, v, x3⟩ := rw_set_at (d := e) (i := i2) (j := j2) (x := e[j2]!) (by omega)
        have l1 : i2 < N := by omega
        have l2 : j2 < N := by omega
        simp +contextual -implicitDefEqProofs (maxSteps := 2000000) only [↓wP, wS, seval, h2, h3, h4, h5, h6, hgt', wi, wj, x1, x2, x3, l1, l2, hat]
        refine ⟨((i2 + 1, j2 - 1), swp e i2 j2), by dsimp only; omega, rfl, rfl, by dsimp only; omega, by dsimp only; omega, by dsimp only; omega, by rw [swp_size, h10], h11.swp _ _, h12⟩
      ·simp +contextual -implicitDefEqProofs (maxSteps := 2000000) only [↓wP, wS, seval, h2, h3, h4, h5, h6]
       exact k8
     ·simp +contextual -implicitDefEqProofs (maxSteps := 2000000) only [↓wP, wS, seval, h2, h3, h4, h5, h6]
      omega
    ·simp +contextual -implicitDefEqProofs (maxSteps := 2000000) only [↓wP, wS, seval, h2, h3, h4, h5, h6]
     exact ⟨by omega, by omega, by omega, hs1, hat1⟩
  ·simp +contextual -implicitDefEqProofs (maxSteps := 2000000) only [↓wP, wS, seval, h2, h3, h4, h5, h6]
   exact k8
 ·simp +contextual -implicitDefEqProofs (maxSteps := 2000000) only [↓wP, wS, seval, h2, h3, h4, h5, h6]
  omega
end Go.Q.SW
end

section
/- Heaps; parts that are nearly in order. -/
namespace Go.Q.SW
open Go.Q Go.Sort
open Nat renaming reduceEqDiff → n1w, reduceAdd → n2w, reduceSub → n3w, reduceLeDiff → n4w, reduceLT → n5w, reduceMul → n6w
open Int renaming reduceBNe → i1w, reduceBEq → i2w, reduceLT → i3w, reduceLE → i4w, reduceGT → i5w
theorem bin_quo2 (m : Nat) (h : m < 9223372036854775808) : binV .quo (.int .i64 (m : Int)) (.int .i64 2) = some (.int .i64 ((m / 2 : Nat) : Int)) := by
 rw [bin_quo .i64 (m : Int) 2 (by decide)]
 have e : (m : Int).tdiv 2 = ((m / 2 : Nat) : Int) := rfl
 rw [e, wrap_nat (by omega)]
theorem raw84 (F : Nat) (hF : CmpF F) (d : Array Rw) (N lo hi first id n : Nat) (σ : Sto) (hN : d.size = N) (hb : first + hi ≤ N) (hlo : lo ≤ N) (hn : N < 1000000) (hσ : σ id = some (.row 2 (rw' d))) {Q : V → Sto → Nat → Prop}
 (hQ : ∀ σ', At σ' σ id (siftDown ahR hi first lo d) → Q .undef σ' n) :
 run T (.raw 84 [.ref id 0 N 2, .int .i64 (lo : Int), .int .i64 (hi : Int), .int .i64 (first : Int), .fn F []] σ n 0) (memQ Q) := by
 refine run_rawE (fn := g84) rfl rfl ?_
 simp only [g84, b84, zO, zN, zM, zL, zG, zP, zQ, zI, zA, zT, zF, zB, zC, zD, zE, zH, zJ, zK]
 simp +contextual -implicitDefEqProofs (maxSteps := 2000000) only [↓wP, wS, seval]
 refine WC_loopI 0 (fun (s : Nat × Array Rw) env σ' n' => n' = n ∧ env 0 = .ref id 0 N 2 ∧ env 2 = .int .i64 (hi : Int) ∧ env 3 = .int .i64 (first : Int) ∧ env 4 = .fn F [] ∧ env 10 = .int .i64 (s.1 : Int) ∧
  s.1 ≤ N ∧ s.2.size = N ∧ At σ' σ id s.2 ∧ siftDown ahR hi first s.1 s.2 = siftDown ahR hi first lo d) (fun s => hi - s.1) ?_ (lo, d) _ _ _ ?_
 ·intro ⟨r, e⟩ env σ1 n1 ⟨h1, h2, h3, h4, h5, h6, h7, h8, h9, h10⟩
  subst h1
  dsimp only at h6 h7 h8 h9 h10
  obtain ⟨t, ht⟩ : ∃ t, t = 2 * r := ⟨_, rfl⟩
  obtain ⟨c1, hc1⟩ : ∃ c1, c1 = 2 * r + 1 := ⟨_, rfl⟩
  obtain ⟨c2, hc2⟩ : ∃ c2, c2 = 2 * r + 2 := ⟨_, rfl⟩
  have w0 : IntKind.i64.wrap (2 * (r : Int)) = (t : Int) := by rw [wrap_i64] <;> omega
  have w1 : IntKind.i64.wrap ((t : Int) + 1) = (c1 : Int) := by rw [wrap_i64] <;> omega
  have w2 : IntKind.i64.wrap ((c1 : Int) + 1) = (c2 : Int) := by rw [wrap_i64] <;> omega
  rw [siftDown, show 2 * r + 1 + 1 = c2 by omega, show 2 * r + 1 = c1 by omega] at h10
  by_cases hc : hi ≤ c1
  ·have hc' : (hi : Int) ≤ (c1 : Int) := by omega
   rw [dif_pos hc] at h10
   simp +contextual -implicitDefEqProofs (maxSteps := 2000000) only [↓wP, wS, seval, h2, h3, h4, h5, h6, w0, w1, hc']
   refine hQ _ ?_
   rw [← h10]
   exact h9
  have hc' : ¬ (hi : Int) ≤ (c1 : Int) := by omega
  rw [dif_neg hc] at h10
  obtain ⟨p, hp⟩ : ∃ p, p = first + r := ⟨_, rfl⟩
  obtain ⟨p1, hp1⟩ : ∃ p1, p1 = first + c1 := ⟨_, rfl⟩
  obtain ⟨p2, hp2⟩ : ∃ p2, p2 = first + c2 := ⟨_, rfl⟩
  have w3 : IntKind.i64.wrap ((first : Int) + (r : Int)) = (p : Int) := by rw [wrap_i64] <;> omega
  have w4 : IntKind.i64.wrap ((first : Int) + (c1 : Int)) = (p1 : Int) := by rw [wrap_i64] <;> omega
  have w5 : IntKind.i64.wrap ((first : Int) + (c2 : Int)) = (p2 : Int) := by rw [wrap_i64] <;> omega
  have w6 : IntKind.i64.wrap ((p1 : Int) + 1) = (p2 : Int) := by rw [wrap_i64] <;> omega
  have l0 : p < N := by omega
  have l1 : p1 < N := by omega
  have x0 := rw_at (d := e) (i := p) (by omega)
  have x1 := rw_at (d := e) (i := p1) (by omega)
  have hat := h9.1
  rw [← hp, ← hp1, ← hp2, show p1 + 1 = p2 by omega] at h10
  obtain ⟨u1, v1, y1⟩ := rw_set_at (d := e) (i := p) (j := p1) (x := e[p1]!) (by omega)
  by_cases hs : c2 < hi
  ·have hs' : (c2 : Int) < (hi : Int) := by omega
   have l2 : p2 < N := by omega
   have x2 := rw_at (d := e) (i := p2) (by omega)
   obtain ⟨u2, v2, y2⟩ := rw_set_at (d := e) (i := p) (j := p2) (x := e[p2]!) (by omega)
   by_cases k1 : cmpU (e[p1]!).id (e[p2]!).id < 0
   ·have a1 : ahR e[p1]! e[p2]! = true := by rw [← cmp_lt]; simpa using k1
    rw [if_pos (by simp [hs, a1])] at h10
    by_cases k2 : cmpU (e[p]!).id (e[p2]!).id < 0
    ·have a2 : ahR e[p]! e[p2]! = true := by rw [← cmp_lt]; simpa using k2
     rw [if_neg (by simp [a2]), dif_pos hs] at h10
     simp +contextual -implicitDefEqProofs (maxSteps := 2000000) only [↓wP, wS, seval, h2, h3, h4, h5, h6, w0, w1, w2, w3, w4, w5, w6, hc', hs', hat, l0, l1, l2, x0, x1, x2, y2, hF, k1, k2]
     exact ⟨(c2, swp e p p2), by dsimp only; omega, rfl, by dsimp only; omega, by rw [swp_size, h8], h9.swp _ _, h10⟩
    ·have a2 : ahR e[p]! e[p2]! = false := by rw [← cmp_lt]; simpa using k2
     rw [if_pos (by simp [a2])] at h10
     simp +contextual -implicitDefEqProofs (maxSteps := 2000000) only [↓wP, wS, seval, h2, h3, h4, h5, h6, w0, w1, w2, w3, w4, w5, w6, hc', hs', hat, l0, l1, l2, x0, x1, x2, hF, k1, k2]
     refine hQ _ ?_
     rw [← h10]
     exact h9
   ·have a1 : ahR e[p1]! e[p2]! = false := by rw [← cmp_lt]; simpa using k1
    rw [if_neg (by simp [a1])] at h10
    by_cases k2 : cmpU (e[p]!).id (e[p1]!).id < 0
    ·have a2 : ahR e[p]! e[p1]! = true := by rw [← cmp_lt]; simpa using k2
     rw [if_neg (by simp [a2])] at h10
     simp +contextual -implicitDefEqProofs (maxSteps := 2000000) only [↓wP, wS, seval, h2, h3, h4, h5, h6, w0, w1, w2, w3, w4, w5, w6, hc', hs', hat, l0, l1, l2, x0, x1, x2, y1, hF, k1, k2]
     exact ⟨(c1, swp e p p1), by dsimp only; omega, rfl, by dsimp only; omega, by rw [swp_size, h8], h9.swp _ _, h10⟩
    ·have a2 : ahR e[p]! e[p1]! = false := by rw [← cmp_lt]; simpa using k2
     rw [if_pos (by simp [a2])] at h10
     simp +contextual -implicitDefEqProofs (maxSteps := 2000000) only [↓wP, wS, seval, h2, h3, h4, h5, h6, w0, w1, w2, w3, w4, w5, w6, hc', hs', hat, l0, l1, l2, x0, x1, x2, hF, k1, k2]
     refine hQ _ ?_
     rw [← h10]
     exact h9
  ·have hs' : ¬ (c2 : Int) < (hi : Int) := by omega
   rw [if_neg (by simp [hs])] at h10
   by_cases k2 : cmpU (e[p]!).id (e[p1]!).id < 0
   ·have a2 : ahR e[p]! e[p1]! = true := by rw [← cmp_lt]; simpa using k2
    rw [if_neg (by simp [a2])] at h10
    simp +contextual -implicitDefEqProofs (maxSteps := 2000000) only [↓wP, wS, seval, h2, h3, h4, h5, h6, w0, w1, w2, w3, w4, w5, w6, hc', hs', hat, l0, l1, x0, x1, y1, hF, k2]
    exact ⟨(c1, swp e p p1), by dsimp only; omega, rfl, by dsimp only; omega, by rw [swp_size, h8], h9.swp _ _, h10⟩
   ·have a2 : ahR e[p]! e[p1]! = false := by rw [← cmp_lt]; simpa using k2
    rw [if_pos (by simp [a2])] at h10
    simp +contextual -implicitDefEqProofs (maxSteps := 2000000) only [↓wP, wS, seval, h2, h3, h4, h5, h6, w0, w1, w2, w3, w4, w5, w6, hc', hs', hat, l0, l1, x0, x1, hF, k2]
    refine hQ _ ?_
    rw [← h10]
    exact h9
 ·simp +contextual -implicitDefEqProofs (maxSteps := 2000000) only [↓wP, wS, seval]
  exact ⟨hlo, hN, At.refl hσ⟩
theorem At.trans {σ σ1 σ2 : Sto} {id : Nat} {d e : Array Rw} (h : At σ2 σ1 id e) (h' : At σ1 σ id d) : At σ2 σ id e := ⟨h.1, fun i hi => (h.2 i hi).trans (h'.2 i hi)⟩
theorem sift_size (hi first root : Nat) (d : Array Rw) : (siftDown ahR hi first root d).size = d.size := by
 have key : ∀ (k root : Nat) (d : Array Rw), hi - root ≤ k → (siftDown ahR hi first root d).size = d.size := by
  intro k
  induction k with
  | zero =>
    intro root d hk
    rw [siftDown]
    rw [dif_pos (by omega)]
  | succ k ih =>
    intro root d hk
    rw [siftDown]
    split
    ·rfl
    ·split
     ·split
      ·rfl
      ·split
       ·rw [ih _ _ (by omega), swp_size]
       ·rfl
     ·split
      ·rfl
      ·rw [ih _ _ (by omega), swp_size]
 exact key _ root d (Nat.le_refl _)
theorem raw72 (F : Nat) (hF : CmpF F) (d : Array Rw) (N a b id n : Nat) (σ : Sto) (hN : d.size = N) (hab : a < b) (hb : b ≤ N) (hn : N < 1000000) (hσ : σ id = some (.row 2 (rw' d))) {Q : V → Sto → Nat → Prop}
 (hQ : ∀ σ', At σ' σ id (heapSort ahR d a b) → Q .undef σ' n) :
 run T (.raw 72 [.ref id 0 N 2, .int .i64 (a : Int), .int .i64 (b : Int), .fn F []] σ n 0) (memQ Q) := by
 refine run_rawE (fn := g72) rfl rfl ?_
 simp only [g72, b72, zO, zN, zM, zL, zG, zP, zQ, zI, zA, zT, zF, zB, zC, zD, zE, zH, zJ, zK]
 obtain ⟨hi, hhi⟩ : ∃ hi, hi = b - a := ⟨_, rfl⟩
 have w1 : IntKind.i64.wrap ((b : Int) - (a : Int)) = (hi : Int) := by rw [wrap_i64] <;> omega
 have w2 : IntKind.i64.wrap ((hi : Int) - 1) = ((hi - 1 : Nat) : Int) := by rw [wrap_i64] <;> omega
 have q2 := bin_quo2 (hi - 1) (by omega)
 unfold heapSort at hQ
 rw [← hhi] at hQ
 simp +contextual -implicitDefEqProofs (maxSteps := 2000000) only [↓wP, wS, seval, w1, w2, q2]
 refine WC_cutB (fun env σ' n' => n' = n ∧ env 0 = .ref id 0 N 2 ∧ env 3 = .fn F [] ∧ env 8 = .int .i64 (a : Int) ∧ env 9 = .int .i64 0 ∧ env 10 = .int .i64 (hi : Int) ∧ At σ' σ id (heapBuild ahR hi a ((hi - 1) / 2 + 1) d) ∧ (heapBuild ahR hi a ((hi - 1) / 2 + 1) d).size = N) ?_ ?_
 ·refine WC_loopI 0 (fun (s : Nat × Array Rw) env σ' n' => n' = n ∧ env 0 = .ref id 0 N 2 ∧ env 3 = .fn F [] ∧ env 8 = .int .i64 (a : Int) ∧ env 9 = .int .i64 0 ∧ env 10 = .int .i64 (hi : Int) ∧ env 11 = .int .i64 ((s.1 : Int) - 1) ∧
   s.1 ≤ N ∧ s.2.size = N ∧ At σ' σ id s.2 ∧ heapBuild ahR hi a s.1 s.2 = heapBuild ahR hi a ((hi - 1) / 2 + 1) d) (fun s => s.1) ?_ ((hi - 1) / 2 + 1, d) _ _ _ ?_
  ·intro ⟨k, e⟩ env σ1 n1 ⟨h1, h2, h3, h4, h5, h6, h7, h8, h9, h10, h11⟩
   subst h1
   dsimp only at h7 h8 h9 h10 h11
   cases k with
   | zero =>
     have hk : ¬ ((0 : Int) ≤ ((0 : Nat) : Int) - 1) := by decide
     simp +contextual -implicitDefEqProofs (maxSteps := 2000000) only [↓wP, wS, seval, h2, h3, h4, h5, h6, h7, hk]
     rw [← h11]
     exact ⟨rfl, rfl, rfl, h2, h3, h4, h5, h6, h10, h9⟩
   | succ k =>
     rw [show ((k + 1 : Nat) : Int) - 1 = (k : Int) by omega] at h7
     have hk : (0 : Int) ≤ (k : Int) := by omega
     have wk : IntKind.i64.wrap ((k : Int) - 1) = (k : Int) - 1 := by rw [wrap_i64] <;> omega
     simp +contextual -implicitDefEqProofs (maxSteps := 2000000) only [↓wP, wS, seval, h2, h3, h4, h5, h6, h7, hk]
     refine stepW_raw (by decide) (raw84 F hF e N k hi a id n1 σ1 h9 (by omega) (by omega) hn h10.1 fun σ2 hat => ?_)
     simp +contextual -implicitDefEqProofs (maxSteps := 2000000) only [↓wP, wS, seval, h2, h3, h4, h5, h6, h7, wk]
     exact ⟨(k, siftDown ahR hi a k e), by dsimp only; omega, rfl, by dsimp only; omega, by rw [sift_size, h9], hat.trans h10, h11⟩
  ·simp +contextual -implicitDefEqProofs (maxSteps := 2000000) only [↓wP, wS, seval]
   exact ⟨by congr 1; omega, by omega, hN, At.refl hσ⟩
 ·intro env σ' n' ⟨h1, h2, h3, h4, h5, h6, h7, h8⟩
  subst h1
  generalize heapBuild ahR hi a ((hi - 1) / 2 + 1) d = d1 at *
  simp +contextual -implicitDefEqProofs (maxSteps := 2000000) only [↓wP, wS, seval, h2, h3, h4, h5, h6, w2]
  refine WC_loopI 0 (fun (s : Nat × Array Rw) env σ'' n'' => n'' = n' ∧ env 0 = .ref id 0 N 2 ∧ env 3 = .fn F [] ∧ env 8 = .int .i64 (a : Int) ∧ env 9 = .int .i64 0 ∧ env 12 = .int .i64 ((s.1 : Int) - 1) ∧
   s.1 ≤ hi ∧ s.2.size = N ∧ At σ'' σ id s.2 ∧ heapPop ahR a s.1 s.2 = heapPop ahR a hi d1) (fun s => s.1) ?_ (hi, d1) _ _ _ ?_
  ·clear h2 h3 h4 h5 h6
   intro ⟨k, e⟩ env σ1 n1 ⟨h1, h2, h3, h4, h5, h7', h8', h9, h10, h11⟩
   subst h1
   dsimp only at h7' h8' h9 h10 h11
   cases k with
   | zero =>
     have hk : ¬ ((0 : Int) ≤ ((0 : Nat) : Int) - 1) := by decide
     simp +contextual -implicitDefEqProofs (maxSteps := 2000000) only [↓wP, wS, seval, h2, h3, h4, h5, h7', hk]
     refine hQ _ ?_
     rw [← h11]
     exact h10
   | succ k =>
     rw [show ((k + 1 : Nat) : Int) - 1 = (k : Int) by omega] at h7'
     have hk : (0 : Int) ≤ (k : Int) := by omega
     have wk : IntKind.i64.wrap ((k : Int) - 1) = (k : Int) - 1 := by rw [wrap_i64] <;> omega
     obtain ⟨p, hp⟩ : ∃ p, p = a + k := ⟨_, rfl⟩
     have wp : IntKind.i64.wrap ((a : Int) + (k : Int)) = (p : Int) := by rw [wrap_i64] <;> omega
     have l0 : a < N := by omega
     have l1 : p < N := by omega
     have x0 := rw_at (d := e) (i := a) (by omega)
     have x1 := rw_at (d := e) (i := p) (by omega)
     obtain ⟨u1, v1, y1⟩ := rw_set_at (d := e) (i := a) (j := p) (x := e[p]!) (by omega)
     have hat := h10.1
     have h12 : heapPop ahR a (k + 1) e = heapPop ahR a k (siftDown ahR k a 0 (swp e a p)) := by rw [hp]; rfl
     rw [h12] at h11
     simp +contextual -implicitDefEqProofs (maxSteps := 2000000) only [↓wP, wS, seval, h2, h3, h4, h5, h7', hk, wp, hat, l0, l1, x0, x1, y1]
     have hsw := h10.swp a p
     refine stepW_raw (by decide) (raw84 F hF (swp e a p) N 0 k a id n1 _ (by rw [swp_size, h9]) (by omega) (by omega) hn hsw.1 fun σ2 hat2 => ?_)
     simp +contextual -implicitDefEqProofs (maxSteps := 2000000) only [↓wP, wS, seval, h2, h3, h4, h5, h7', wk]
     exact ⟨(k, siftDown ahR k a 0 (swp e a p)), by dsimp only; omega, rfl, by dsimp only; omega, by rw [sift_size, swp_size, h9], hat2.trans hsw, h11⟩
  ·simp +contextual -implicitDefEqProofs (maxSteps := 2000000) only [↓wP, wS, seval, h2, h3, h4, h5]
   exact ⟨by congr 1; omega, h8, h7⟩
theorem ss_go {d : Array Rw} {b i : Nat} (h : i < b) (hl : ahR d[i]! d[i - 1]! = false) : scanSorted ahR d b (i + 1) = scanSorted ahR d b i := by
 conv => rhs; rw [scanSorted]
 rw [if_pos (by simp [h, hl])]
theorem ss_stop {d : Array Rw} {b i : Nat} (h : ¬ i < b ∨ ahR d[i]! d[i - 1]! = true) : scanSorted ahR d b i = i := by
 rw [scanSorted]
 rcases h with h | h <;> simp [h]
theorem shiftD_size : ∀ (j : Nat) (d : Array Rw), (shiftDown ahR j d).size = d.size
 | 0, _ => rfl
 | j + 1, d => by
   rw [shiftDown]
   split
   ·rfl
   ·rw [shiftD_size j, swp_size]
theorem raw76 (F : Nat) (hF : CmpF F) (d : Array Rw) (N a b id n : Nat) (σ : Sto) (hN : d.size = N) (hab : a < b) (hb : b ≤ N) (hn : N < 1000000) (hσ : σ id = some (.row 2 (rw' d))) {Q : V → Sto → Nat → Prop}
 (hQ : ∀ σ', At σ' σ id (partialInsertionSort ahR d a b).1 → Q (.bool (partialInsertionSort ahR d a b).2) σ' n) :
 run T (.raw 76 [.ref id 0 N 2, .int .i64 (a : Int), .int .i64 (b : Int), .fn F []] σ n 0) (memQ Q) := by
 refine run_rawE (fn := g76) rfl rfl ?_
 simp only [g76, b76, zO, zN, zM, zL, zG, zP, zQ, zI, zA, zT, zF, zB, zC, zD, zE, zH, zJ, zK]
 have w1 : IntKind.i64.wrap ((a : Int) + 1) = ((a + 1 : Nat) : Int) := by rw [wrap_i64] <;> omega
 have w2 : IntKind.i64.wrap ((b : Int) - (a : Int)) = ((b - a : Nat) : Int) := by rw [wrap_i64] <;> omega
 unfold partialInsertionSort at hQ
 simp +contextual -implicitDefEqProofs (maxSteps := 2000000) only [↓wP, wQ, wQ1, wQ2, wQ3, wR, boxE, partsOf, ↓reduceIte, n1w, n2w, n3w, n4w, n5w, n6w, reduceCtorEq, i1w, i2w, i3w, i4w, i5w, w1]
 refine WC_loopI 0 (fun (s : (Nat × Nat) × Array Rw) env σ' n' => n' = n ∧ env 0 = .ref id 0 N 2 ∧ env 1 = .int .i64 (a : Int) ∧ env 2 = .int .i64 (b : Int) ∧ env 3 = .fn F [] ∧ env 9 = .int .i64 (s.1.2 : Int) ∧ env 10 = .int .i64 ((5 - s.1.1 : Nat) : Int) ∧
  s.1.1 ≤ 5 ∧ a < s.1.2 ∧ s.1.2 ≤ b ∧ s.2.size = N ∧ At σ' σ id s.2 ∧ partialIns ahR a b s.1.1 s.1.2 s.2 = partialIns ahR a b 5 (a + 1) d) (fun s => s.1.1) ?_ ((5, a + 1), d) _ _ _ ?_
 ·intro ⟨⟨k, i⟩, e⟩ env σ1 n1 ⟨h1, h2, h3, h4, h5, h6, h7, h8, h9, h10, h11, h12, h13⟩
  subst h1
  dsimp only at h6 h7 h8 h9 h10 h11 h12 h13
  cases k with
  | zero =>
    have hk : ¬ (((5 - 0 : Nat) : Int) < 5) := by decide
    simp +contextual -implicitDefEqProofs (maxSteps := 2000000) only [↓wP, wQ, wQ1, wQ2, wQ3, wR, boxE, partsOf, ↓reduceIte, n1w, n2w, n3w, n4w, n5w, n6w, reduceCtorEq, i1w, i2w, i3w, i4w, i5w, h2, h3, h4, h5, h6, h7, hk]
    have hR : partialIns ahR a b 5 (a + 1) d = (e, false) := h13.symm
    rw [hR] at hQ
    exact hQ _ h12
  | succ k =>
    have hk : ((5 - (k + 1) : Nat) : Int) < 5 := by omega
    have wk : IntKind.i64.wrap (((5 - (k + 1) : Nat) : Int) + 1) = ((5 - k : Nat) : Int) := by rw [wrap_i64] <;> omega
    rw [partialIns_succ] at h13
    generalize hjj : (5 - (k + 1) : Nat) = jj at *
    have hat := h12.1
    simp +contextual -implicitDefEqProofs (maxSteps := 2000000) only [↓wP, wQ, wQ1, wQ2, wQ3, wR, boxE, partsOf, ↓reduceIte, n1w, n2w, n3w, n4w, n5w, n6w, reduceCtorEq, i1w, i2w, i3w, i4w, i5w, h2, h3, h4, h5, h6, h7, hk]
    refine WC_cutB (fun env σ' n' => σ' = σ1 ∧ n' = n1 ∧ env 0 = .ref id 0 N 2 ∧ env 1 = .int .i64 (a : Int) ∧ env 2 = .int .i64 (b : Int) ∧ env 3 = .fn F [] ∧ env 9 = .int .i64 ((scanSorted ahR e b i : Nat) : Int) ∧ env 10 = .int .i64 (jj : Int) ∧ a < scanSorted ahR e b i ∧ scanSorted ahR e b i ≤ b) ?_ ?_
    ·refine WC_loopI 0 (fun (i' : Nat) env σ' n' => σ' = σ1 ∧ n' = n1 ∧ env 0 = .ref id 0 N 2 ∧ env 1 = .int .i64 (a : Int) ∧ env 2 = .int .i64 (b : Int) ∧ env 3 = .fn F [] ∧ env 9 = .int .i64 (i' : Int) ∧ env 10 = .int .i64 (jj : Int) ∧
      a < i' ∧ i' ≤ b ∧ scanSorted ahR e b i' = scanSorted ahR e b i) (fun i' => b - i') ?_ i _ _ _ ?_
     ·clear h2 h3 h4 h5 h6 h7
      intro i' env σ2 n2 ⟨k1, k2, k3, k4, k5, k6, k7, k8, k9, k10, k11⟩
      subst k1 k2
      by_cases hlt : i' < b
      ·have hlt' : (i' : Int) < (b : Int) := by omega
       have w3 : IntKind.i64.wrap ((i' : Int) - 1) = ((i' - 1 : Nat) : Int) := by rw [wrap_i64] <;> omega
       have w4 : IntKind.i64.wrap ((i' : Int) + 1) = ((i' + 1 : Nat) : Int) := by rw [wrap_i64] <;> omega
       have x1 := rw_at (d := e) (i := i') (by omega)
       have x2 := rw_at (d := e) (i := i' - 1) (by omega)
       have l1 : i' < N := by omega
       have l2 : i' - 1 < N := by omega
       by_cases hc : cmpU (e[i']!).id (e[i' - 1]!).id < 0
       ·have hah : ahR e[i']! e[i' - 1]! = true := by rw [← cmp_lt]; simpa using hc
        have hst := ss_stop (d := e) (b := b) (i := i') (.inr hah)
        rw [hst] at k11
        rw [← k11]
        simp +contextual -implicitDefEqProofs (maxSteps := 2000000) only [↓wP, wQ, wQ1, wQ2, wQ3, wR, boxE, partsOf, ↓reduceIte, n1w, n2w, n3w, n4w, n5w, n6w, reduceCtorEq, i1w, i2w, i3w, i4w, i5w, exQ_exit, k3, k4, k5, k6, k7, k8, hlt', w3, w4, x1, x2, l1, l2, hat, hF, hc]
        exact ⟨k9, k10⟩
       ·have hah : ahR e[i']! e[i' - 1]! = false := by rw [← cmp_lt]; simpa using hc
        simp +contextual -implicitDefEqProofs (maxSteps := 2000000) only [↓wP, wQ, wQ1, wQ2, wQ3, wR, boxE, partsOf, ↓reduceIte, n1w, n2w, n3w, n4w, n5w, n6w, reduceCtorEq, i1w, i2w, i3w, i4w, i5w, exQ_exit, k3, k4, k5, k6, k7, k8, hlt', w3, w4, x1, x2, l1, l2, hat, hF, hc]
        exact ⟨i' + 1, by omega, rfl, by omega, by omega, by rw [ss_go hlt hah]; exact k11⟩
      ·have hlt' : ¬ (i' : Int) < (b : Int) := by omega
       have hst := ss_stop (d := e) (b := b) (i := i') (.inl hlt)
       rw [hst] at k11
       rw [← k11]
       simp +contextual -implicitDefEqProofs (maxSteps := 2000000) only [↓wP, wQ, wQ1, wQ2, wQ3, wR, boxE, partsOf, ↓reduceIte, n1w, n2w, n3w, n4w, n5w, n6w, reduceCtorEq, i1w, i2w, i3w, i4w, i5w, exQ_exit, k3, k4, k5, k6, k7, k8, hlt']
       exact ⟨k9, k10⟩
     ·exact ⟨rfl, rfl, h2, h3, h4, h5, h6, h7, h9, h10, rfl⟩
    ·clear h2 h3 h4 h5 h6 h7
     intro env σ2 n2 ⟨k1, k2, h2, h3, h4, h5, h6, h7, g1, g2⟩
     subst k1 k2
     generalize scanSorted ahR e b i = i2 at *
     by_cases e1 : i2 = b
     ·have e1' : ((i2 : Int) == (b : Int)) = true := by simp [e1]
      rw [if_pos e1] at h13
      simp +contextual -implicitDefEqProofs (maxSteps := 2000000) only [↓wP, wQ, wQ1, wQ2, wQ3, wR, boxE, partsOf, ↓reduceIte, n1w, n2w, n3w, n4w, n5w, n6w, reduceCtorEq, i1w, i2w, i3w, i4w, i5w, h2, h3, h4, h5, h6, h7, e1']
      have := hQ σ2
      rw [← h13] at this
      exact this h12
     have e1' : ((i2 : Int) == (b : Int)) = false := by simp; omega
     rw [if_neg e1] at h13
     by_cases e2 : b - a < 50
     ·have e2' : ((b - a : Nat) : Int) < 50 := by omega
      rw [if_pos e2] at h13
      simp +contextual -implicitDefEqProofs (maxSteps := 2000000) only [↓wP, wQ, wQ1, wQ2, wQ3, wR, boxE, partsOf, ↓reduceIte, n1w, n2w, n3w, n4w, n5w, n6w, reduceCtorEq, i1w, i2w, i3w, i4w, i5w, h2, h3, h4, h5, h6, h7, e1', w2, e2']
      have := hQ σ2
      rw [← h13] at this
      exact this h12
     have e2' : ¬ ((b - a : Nat) : Int) < 50 := by omega
     rw [if_neg e2] at h13
     have w3 : IntKind.i64.wrap ((i2 : Int) - 1) = ((i2 - 1 : Nat) : Int) := by rw [wrap_i64] <;> omega
     have w4 : IntKind.i64.wrap ((i2 : Int) + 1) = ((i2 + 1 : Nat) : Int) := by rw [wrap_i64] <;> omega
     have w5 : IntKind.i64.wrap ((i2 : Int) - (a : Int)) = ((i2 - a : Nat) : Int) := by rw [wrap_i64] <;> omega
     have w6 : IntKind.i64.wrap ((b : Int) - (i2 : Int)) = ((b - i2 : Nat) : Int) := by rw [wrap_i64] <;> omega
     have x1 := rw_at (d := e) (i := i2) (by omega)
     have x2 := rw_at (d := e) (i := i2 - 1) (by omega)
     obtain ⟨u, v, x3⟩ := rw_set_at (d := e) (i := i2) (j := i2 - 1) (x := e[i2 - 1]!) (by omega)
     have l1 : i2 < N := by omega
     have l2 : i2 - 1 < N := by omega
     have hsw := h12.swp i2 (i2 - 1)
     simp +contextual -implicitDefEqProofs (maxSteps := 2000000) only [↓wP, wQ, wQ1, wQ2, wQ3, wR, boxE, partsOf, ↓reduceIte, n1w, n2w, n3w, n4w, n5w, n6w, reduceCtorEq, i1w, i2w, i3w, i4w, i5w, h2, h3, h4, h5, h6, h7, e1', w2, e2', w3, w5, x1, x2, x3, l1, l2, hat]
     generalize (upd (upd σ2 id (some (.row 2 ((rw' e).set i2 (.agg [.int .u64 (e[i2 - 1]!).id, slV 1 i32V (e[i2 - 1]!).v]))))) id
      (some (.row 2 (((rw' e).set i2 (.agg [.int .u64 (e[i2 - 1]!).id, slV 1 i32V (e[i2 - 1]!).v])).set (i2 - 1) (.agg [.int .u64 (e[i2]!).id, slV 1 i32V (e[i2]!).v]))))) = σ3 at hsw
     have hsz : (swp e i2 (i2 - 1)).size = N := by rw [swp_size, h11]
     generalize swp e i2 (i2 - 1) = g0 at *
     clear x1 x2 x3 hat h12
     refine condC_cut (fun env σ' n' => n' = n2 ∧ env 0 = .ref id 0 N 2 ∧ env 1 = .int .i64 (a : Int) ∧ env 2 = .int .i64 (b : Int) ∧ env 3 = .fn F [] ∧ env 9 = .int .i64 (i2 : Int) ∧ env 10 = .int .i64 (jj : Int) ∧ At σ' σ id (fixDown ahR a i2 g0)) ?_ ?_ ?_
     ·intro hx
      have hx' : 2 ≤ i2 - a := by have := of_decide_eq_true hx; omega
      have hfd : fixDown ahR a i2 g0 = shiftDown ahR (i2 - 1) g0 := by unfold fixDown; rw [if_pos hx']
      rw [hfd]
      simp +contextual -implicitDefEqProofs (maxSteps := 2000000) only [↓wP, wQ, wQ1, wQ2, wQ3, wR, boxE, partsOf, ↓reduceIte, n1w, n2w, n3w, n4w, n5w, n6w, reduceCtorEq, i1w, i2w, i3w, i4w, i5w, h2, h3, h4, h5, h6, h7, w3]
      refine WC_cutB (fun env σ' n' => n' = n2 ∧ env 0 = .ref id 0 N 2 ∧ env 1 = .int .i64 (a : Int) ∧ env 2 = .int .i64 (b : Int) ∧ env 3 = .fn F [] ∧ env 9 = .int .i64 (i2 : Int) ∧ env 10 = .int .i64 (jj : Int) ∧ At σ' σ id (shiftDown ahR (i2 - 1) g0)) ?_ ?_
      ·refine WC_loopI 0 (fun (s : Nat × Array Rw) env σ' n' => n' = n2 ∧ env 0 = .ref id 0 N 2 ∧ env 1 = .int .i64 (a : Int) ∧ env 2 = .int .i64 (b : Int) ∧ env 3 = .fn F [] ∧ env 9 = .int .i64 (i2 : Int) ∧ env 10 = .int .i64 (jj : Int) ∧ env 11 = .int .i64 (s.1 : Int) ∧
        s.1 < N ∧ s.2.size = N ∧ At σ' σ id s.2 ∧ shiftDown ahR s.1 s.2 = shiftDown ahR (i2 - 1) g0) (fun s => s.1) ?_ (i2 - 1, g0) _ _ _ ?_
       ·clear h2 h3 h4 h5 h6 h7 hsw hx
        intro ⟨j, g⟩ env σ4 n4 ⟨k1, h2, h3, h4, h5, h6, h7, k2, k3, k4, k5, k6⟩
        subst k1
        dsimp only at k2 k3 k4 k5 k6
        have hat := k5.1
        cases j with
        | zero =>
          have hj : ¬ ((1 : Int) ≤ ((0 : Nat) : Int)) := by decide
          simp +contextual -implicitDefEqProofs (maxSteps := 2000000) only [↓wP, wQ, wQ1, wQ2, wQ3, wR, boxE, partsOf, ↓reduceIte, n1w, n2w, n3w, n4w, n5w, n6w, reduceCtorEq, i1w, i2w, i3w, i4w, i5w, h2, h3, h4, h5, h6, h7, k2, hj]
          rw [← k6]
          exact ⟨rfl, rfl, rfl, h2, h3, h4, h5, h6, h7, k5⟩
        | succ j =>
          have hj : (1 : Int) ≤ ((j + 1 : Nat) : Int) := by omega
          have wj : IntKind.i64.wrap (((j + 1 : Nat) : Int) - 1) = (j : Int) := by rw [wrap_i64] <;> omega
          have x1 := rw_at (d := g) (i := j + 1) (by omega)
          have x2 := rw_at (d := g) (i := j) (by omega)
          obtain ⟨u, v, x3⟩ := rw_set_at (d := g) (i := j + 1) (j := j) (x := g[j]!) (by omega)
          have m1 : j + 1 < N := by omega
          have m2 : j < N := by omega
          rw [shiftDown] at k6
          by_cases hc : cmpU (g[j + 1]!).id (g[j]!).id < 0
          ·have hah : ahR g[j + 1]! g[j]! = true := by rw [← cmp_lt]; simpa using hc
           rw [if_neg (by simp [hah])] at k6
           simp +contextual -implicitDefEqProofs (maxSteps := 2000000) only [↓wP, wQ, wQ1, wQ2, wQ3, wR, boxE, partsOf, ↓reduceIte, n1w, n2w, n3w, n4w, n5w, n6w, reduceCtorEq, i1w, i2w, i3w, i4w, i5w, h2, h3, h4, h5, h6, h7, k2, hj, wj, x1, x2, x3, m1, m2, hat, hF, hc]
           exact ⟨(j, swp g (j + 1) j), by dsimp only; omega, rfl, by dsimp only; omega, by rw [swp_size, k4], k5.swp _ _, k6⟩
          ·have hah : ahR g[j + 1]! g[j]! = false := by rw [← cmp_lt]; simpa using hc
           rw [if_pos (by simp [hah])] at k6
           simp +contextual -implicitDefEqProofs (maxSteps := 2000000) only [↓wP, wQ, wQ1, wQ2, wQ3, wR, boxE, partsOf, ↓reduceIte, n1w, n2w, n3w, n4w, n5w, n6w, reduceCtorEq, i1w, i2w, i3w, i4w, i5w, h2, h3, h4, h5, h6, h7, k2, hj, wj, x1, x2, m1, m2, hat, hF, hc]
           rw [← k6]
           exact ⟨rfl, rfl, rfl, h2, h3, h4, h5, h6, h7, k5⟩
       ·simp +contextual -implicitDefEqProofs (maxSteps := 2000000) only [↓wP, wQ, wQ1, wQ2, wQ3, wR, boxE, partsOf, ↓reduceIte, n1w, n2w, n3w, n4w, n5w, n6w, reduceCtorEq, i1w, i2w, i3w, i4w, i5w, h2, h3, h4, h5, h6, h7]
        exact ⟨l2, hsz, hsw⟩
      ·intro env σ' n' hh
       exact ⟨rfl, hh⟩
     ·intro hx
      have hx' : ¬ 2 ≤ i2 - a := by have := of_decide_eq_false hx; omega
      have hfd : fixDown ahR a i2 g0 = g0 := by unfold fixDown; rw [if_neg hx']
      rw [hfd]
      simp +contextual -implicitDefEqProofs (maxSteps := 2000000) only [↓wP, wQ, wQ1, wQ2, wQ3, wR, boxE, partsOf, ↓reduceIte, n1w, n2w, n3w, n4w, n5w, n6w, reduceCtorEq, i1w, i2w, i3w, i4w, i5w, h2, h3, h4, h5, h6, h7]
      exact hsw
     ·clear h2 h3 h4 h5 h6 h7 hsw
      intro env σ4 n4 ⟨k1, h2, h3, h4, h5, h6, h7, hsw⟩
      subst k1
      have hsz2 : (fixDown ahR a i2 g0).size = N := by
       unfold fixDown
       split
       ·rw [shiftD_size, hsz]
       ·exact hsz
      generalize fixDown ahR a i2 g0 = g1 at *
      clear hsz
      simp +contextual -implicitDefEqProofs (maxSteps := 2000000) only [↓wP, wQ, wQ1, wQ2, wQ3, wR, boxE, partsOf, ↓reduceIte, n1w, n2w, n3w, n4w, n5w, n6w, reduceCtorEq, i1w, i2w, i3w, i4w, i5w, h2, h3, h4, h5, h6, h7, w6]
      refine condC_cut (fun env σ' n' => n' = n4 ∧ env 0 = .ref id 0 N 2 ∧ env 1 = .int .i64 (a : Int) ∧ env 2 = .int .i64 (b : Int) ∧ env 3 = .fn F [] ∧ env 9 = .int .i64 (i2 : Int) ∧ env 10 = .int .i64 (jj : Int) ∧ At σ' σ id (fixUp ahR b i2 g1) ∧ (fixUp ahR b i2 g1).size = N) ?_ ?_ ?_
      ·intro hx
       have hx' : 2 ≤ b - i2 := by have := of_decide_eq_true hx; omega
       have hfd : fixUp ahR b i2 g1 = shiftUp ahR b (i2 + 1) g1 := by unfold fixUp; rw [if_pos hx']
       rw [hfd]
       simp +contextual -implicitDefEqProofs (maxSteps := 2000000) only [↓wP, wQ, wQ1, wQ2, wQ3, wR, boxE, partsOf, ↓reduceIte, n1w, n2w, n3w, n4w, n5w, n6w, reduceCtorEq, i1w, i2w, i3w, i4w, i5w, h2, h3, h4, h5, h6, h7, w4]
       refine WC_cutB (fun env σ' n' => n' = n4 ∧ env 0 = .ref id 0 N 2 ∧ env 1 = .int .i64 (a : Int) ∧ env 2 = .int .i64 (b : Int) ∧ env 3 = .fn F [] ∧ env 9 = .int .i64 (i2 : Int) ∧ env 10 = .int .i64 (jj : Int) ∧ At σ' σ id (shiftUp ahR b (i2 + 1) g1) ∧ (shiftUp ahR b (i2 + 1) g1).size = N) ?_ ?_
       ·refine WC_loopI 0 (fun (s : Nat × Array Rw) env σ' n' => n' = n4 ∧ env 0 = .ref id 0 N 2 ∧ env 1 = .int .i64 (a : Int) ∧ env 2 = .int .i64 (b : Int) ∧ env 3 = .fn F [] ∧ env 9 = .int .i64 (i2 : Int) ∧ env 10 = .int .i64 (jj : Int) ∧ env 12 = .int .i64 (s.1 : Int) ∧
         1 ≤ s.1 ∧ s.1 ≤ b ∧ s.2.size = N ∧ At σ' σ id s.2 ∧ shiftUp ahR b s.1 s.2 = shiftUp ahR b (i2 + 1) g1) (fun s => b - s.1) ?_ (i2 + 1, g1) _ _ _ ?_
        ·clear h2 h3 h4 h5 h6 h7 hsw hx
         intro ⟨j, g⟩ env σ5 n5 ⟨k1, h2, h3, h4, h5, h6, h7, k2, k2', k3, k4, k5, k6⟩
         subst k1
         dsimp only at k2 k2' k3 k4 k5 k6
         have hat := k5.1
         rw [shiftUp] at k6
         by_cases hlt : j < b
         ·rw [if_pos hlt] at k6
          have hj : (j : Int) < (b : Int) := by omega
          have wj : IntKind.i64.wrap ((j : Int) - 1) = ((j - 1 : Nat) : Int) := by rw [wrap_i64] <;> omega
          have wj2 : IntKind.i64.wrap ((j : Int) + 1) = ((j + 1 : Nat) : Int) := by rw [wrap_i64] <;> omega
          have x1 := rw_at (d := g) (i := j) (by omega)
          have x2 := rw_at (d := g) (i := j - 1) (by omega)
          obtain ⟨u, v, x3⟩ := rw_set_at (d := g) (i := j) (j := j - 1) (x := g[j - 1]!) (by omega)
          have m1 : j < N := by omega
          have m2 : j - 1 < N := by omega
          by_cases hc : cmpU (g[j]!).id (g[j - 1]!).id < 0
          ·have hah : ahR g[j]! g[j - 1]! = true := by rw [← cmp_lt]; simpa using hc
           rw [if_neg (by simp [hah])] at k6
           simp +contextual -implicitDefEqProofs (maxSteps := 2000000) only [↓wP, wQ, wQ1, wQ2, wQ3, wR, boxE, partsOf, ↓reduceIte, n1w, n2w, n3w, n4w, n5w, n6w, reduceCtorEq, i1w, i2w, i3w, i4w, i5w, h2, h3, h4, h5, h6, h7, k2, hj, wj, wj2, x1, x2, x3, m1, m2, hat, hF, hc]
           exact ⟨(j + 1, swp g j (j - 1)), by dsimp only; omega, rfl, by dsimp only; omega, by dsimp only; omega, by rw [swp_size, k4], k5.swp _ _, k6⟩
          ·have hah : ahR g[j]! g[j - 1]! = false := by rw [← cmp_lt]; simpa using hc
           rw [if_pos (by simp [hah])] at k6
           simp +contextual -implicitDefEqProofs (maxSteps := 2000000) only [↓wP, wQ, wQ1, wQ2, wQ3, wR, boxE, partsOf, ↓reduceIte, n1w, n2w, n3w, n4w, n5w, n6w, reduceCtorEq, i1w, i2w, i3w, i4w, i5w, h2, h3, h4, h5, h6, h7, k2, hj, wj, wj2, x1, x2, m1, m2, hat, hF, hc]
           rw [← k6]
           exact ⟨rfl, rfl, rfl, h2, h3, h4, h5, h6, h7, k5, k4⟩
         ·rw [if_neg hlt] at k6
          have hj : ¬ (j : Int) < (b : Int) := by omega
          simp +contextual -implicitDefEqProofs (maxSteps := 2000000) only [↓wP, wQ, wQ1, wQ2, wQ3, wR, boxE, partsOf, ↓reduceIte, n1w, n2w, n3w, n4w, n5w, n6w, reduceCtorEq, i1w, i2w, i3w, i4w, i5w, h2, h3, h4, h5, h6, h7, k2, hj]
          rw [← k6]
          exact ⟨rfl, rfl, rfl, h2, h3, h4, h5, h6, h7, k5, k4⟩
        ·simp +contextual -implicitDefEqProofs (maxSteps := 2000000) only [↓wP, wQ, wQ1, wQ2, wQ3, wR, boxE, partsOf, ↓reduceIte, n1w, n2w, n3w, n4w, n5w, n6w, reduceCtorEq, i1w, i2w, i3w, i4w, i5w, h2, h3, h4, h5, h6, h7]
         exact ⟨by omega, hsz2, hsw⟩
       ·intro env σ' n' hh
        exact ⟨rfl, hh⟩
      ·intro hx
       have hx' : ¬ 2 ≤ b - i2 := by have := of_decide_eq_false hx; omega
       have hfd : fixUp ahR b i2 g1 = g1 := by unfold fixUp; rw [if_neg hx']
       rw [hfd]
       simp +contextual -implicitDefEqProofs (maxSteps := 2000000) only [↓wP, wQ, wQ1, wQ2, wQ3, wR, boxE, partsOf, ↓reduceIte, n1w, n2w, n3w, n4w, n5w, n6w, reduceCtorEq, i1w, i2w, i3w, i4w, i5w, h2, h3, h4, h5, h6, h7]
       exact ⟨hsw, hsz2⟩
      ·clear h2 h3 h4 h5 h6 h7 hsw
       intro env σ5 n5 ⟨k1, h2, h3, h4, h5, h6, h7, hsw, hsz3⟩
       subst k1
       simp +contextual -implicitDefEqProofs (maxSteps := 2000000) only [↓wP, wQ, wQ1, wQ2, wQ3, wR, boxE, partsOf, ↓reduceIte, n1w, n2w, n3w, n4w, n5w, n6w, reduceCtorEq, i1w, i2w, i3w, i4w, i5w, h2, h3, h4, h5, h6, h7, wk]
       exact ⟨((k, i2), fixUp ahR b i2 g1), by dsimp only; omega, rfl, rfl, by dsimp only; omega, by dsimp only; omega, by dsimp only; omega, hsz3, hsw, h13⟩
 ·simp +contextual -implicitDefEqProofs (maxSteps := 2000000) only [↓wP, wQ, wQ1, wQ2, wQ3, wR, boxE, partsOf, ↓reduceIte, n1w, n2w, n3w, n4w, n5w, n6w, reduceCtorEq, i1w, i2w, i3w, i4w, i5w]
  exact ⟨rfl, by omega, by omega, hN, At.refl hσ⟩
end Go.Q.SW
end

section
/- A sort of few. -/
namespace Go.Q.SW
open Go.Q Go.Sort
theorem raw112N (F : Nat) (hF : CmpF F) {d : Array Rw} {N : Nat} (hN : d.size = N) (a b id n : Nat) (σ : Sto) (hab : a ≤ b) (hb : b ≤ N) (hn : N < 1000000) (hσ : σ id = some (.row 2 (rw' d))) {Q : V → Sto → Nat → Prop}
 (hQ : ∀ σ', At σ' σ id (insertionSort ahR d a b) → Q .undef σ' n) :
 run T (.raw 71 [.ref id 0 N 2, .int .i64 (a : Int), .int .i64 (b : Int), .fn F []] σ n 0) (memQ Q) := by subst hN; exact raw71 F hF d a b id n σ hab hb hn hσ hQ
theorem raw114N (F : Nat) (hF : CmpF F) {d : Array Rw} {N : Nat} (hN : d.size = N) (a b id n : Nat) (σ : Sto) (h8 : 8 ≤ b - a) (h60 : b - a < 130) (hb : b ≤ N) (hn : N < 1000000) (hid : id < n) (hσ : σ id = some (.row 2 (rw' d))) {Q : V → Sto → Nat → Prop}
 (hQ : ∀ σ' d' n', n ≤ n' → σ' id = some (.row 2 (rw' d')) → (∀ i, i ≠ id → i < n → σ' i = σ i) → PermIn a b d d' → Q .undef σ' n') :
 run T (.raw 73 [.ref id 0 N 2, .int .i64 (a : Int), .int .i64 (b : Int), .fn F []] σ n 0) (memQ Q) := by subst hN; exact raw73 F hF d a b id n σ h8 h60 hb hn hid hσ hQ
theorem raw116N (F : Nat) (hF : CmpF F) {d : Array Rw} {N : Nat} (hN : d.size = N) (a b id n : Nat) (σ : Sto) (hab : a < b) (hb : b ≤ N) (hn : N < 1000000) (hσ : σ id = some (.row 2 (rw' d))) {Q : V → Sto → Nat → Prop}
 (hQ : ∀ σ' d', At σ' σ id d' → PermIn a b d d' → Q .undef σ' n) :
 run T (.raw 75 [.ref id 0 N 2, .int .i64 (a : Int), .int .i64 (b : Int), .fn F []] σ n 0) (memQ Q) := by subst hN; exact raw75 F hF d a b id n σ hab hb hn hσ hQ
theorem raw118N (F : Nat) (hF : CmpF F) {d : Array Rw} {N : Nat} (hN : d.size = N) (a b p id n : Nat) (σ : Sto) (hap : a ≤ p) (hpb : p < b) (hb : b ≤ N) (hn : N < 1000000) (hσ : σ id = some (.row 2 (rw' d))) {Q : V → Sto → Nat → Prop}
 (hQ : ∀ σ', At σ' σ id (partitionEqual ahR d a b p).2 → Q (.int .i64 ((partitionEqual ahR d a b p).1 : Int)) σ' n) :
 run T (.raw 77 [.ref id 0 N 2, .int .i64 (a : Int), .int .i64 (b : Int), .int .i64 (p : Int), .fn F []] σ n 0) (memQ Q) := by subst hN; exact raw77 F hF d a b p id n σ hap hpb hb hn hσ hQ
theorem raw119N (F : Nat) (hF : CmpF F) {d : Array Rw} {N : Nat} (hN : d.size = N) (a b p id n : Nat) (σ : Sto) (hap : a ≤ p) (hpb : p < b) (hb : b ≤ N) (hn : N < 1000000) (hσ : σ id = some (.row 2 (rw' d))) {Q : V → Sto → Nat → Prop}
 (hQ : ∀ σ', At σ' σ id (partition ahR d a b p).2.2 → Q (.tup [.int .i64 ((partition ahR d a b p).1 : Int), .bool (partition ahR d a b p).2.1]) σ' n) :
 run T (.raw 78 [.ref id 0 N 2, .int .i64 (a : Int), .int .i64 (b : Int), .int .i64 (p : Int), .fn F []] σ n 0) (memQ Q) := by subst hN; exact raw78 F hF d a b p id n σ hap hpb hb hn hσ hQ
theorem frz_row {d : Array Rw} {N id : Nat} {σ : Sto} (hN : d.size = N) (h : σ id = some (.row 2 (rw' d))) (k : Nat) : frz σ (k + 3) (.ref id 0 N 2) = some (.sl 2 (rw' d)) := by
 have hl : N = (rw' d).length := by rw [rw_len, hN]
 rw [hl]
 refine (Fz.ref (S := fun _ => True) h trivial (FzL.trees ?_ ?_)).1
 ·intro x hx
  unfold rw' at hx
  obtain ⟨y, -, rfl⟩ := List.mem_map.1 hx
  simp [rwV, Tr, Tr_slV]
 ·intro x hx c hc
  unfold rw' at hx
  obtain ⟨y, -, rfl⟩ := List.mem_map.1 hx
  simp only [rwV, V.cells, List.mem_cons, List.not_mem_nil, or_false] at hc
  rcases hc with rfl | rfl
  ·rfl
  ·exact Tr_slV _ _ _ _
theorem f74 (F : Nat) (hF : CmpF F) (d : Array Rw) (a b id N : Nat) (σ : Sto) (n lk : Nat) (hN : d.size = N) (hσ : σ id = some (.row 2 (rw' d))) (hab : a < b) (hb : b ≤ N) (hn : N < 1000000) :
 ∃ (p : Nat) (h : Int), a ≤ p ∧ p < b ∧ (h = 0 ∨ h = 1 ∨ h = 2) ∧ callE T true 74 [.ref id 0 N 2, .int .i64 (a : Int), .int .i64 (b : Int), .fn F []] σ n lk = some (.tup [.int .i64 (p : Int), .int .i64 h], σ, n) := by
 obtain ⟨p, h, h1, h2, h3, h4⟩ := r74 F hF d a b hab (by omega) (by omega)
 refine ⟨p, h, h1, h2, h3, ?_⟩
 rw [callE_eq (by decide)]
 have e : [V.ref id 0 N 2, .int .i64 (a : Int), .int .i64 (b : Int), .fn F []].mapM (frz σ 12) = some [.sl 2 (rw' d), .int .i64 (a : Int), .int .i64 (b : Int), .fn F []] := by
  simp only [List.mapM_cons, List.mapM_nil, frz_row hN hσ 9, frz_int, frz_fn]
  rfl
 rw [e, callR_some, h4, retE_some, backE_flat rfl]
 rfl
def Pdq (L N a0 b0 : Nat) (d : Array Rw) (a b lim : Nat) (e : Array Rw) : Prop :=
 a ≤ b ∧ b ≤ N ∧ b - a ≤ L ∧ b - a < 130 ∧ lim < 1000 ∧ e.size = N ∧ Below ahR a b e ∧
 ∀ R, PermIn a b e R → SortedIn ahR a b R → PermIn a0 b0 d R ∧ SortedIn ahR a0 b0 R
theorem Pdq.perm {L N a0 b0 a b lim : Nat} {d e e' : Array Rw} (h : Pdq L N a0 b0 d a b lim e) (hp : PermIn a b e e') : Pdq L N a0 b0 d a b lim e' := by
 obtain ⟨h1, h2, h3, h4, h6, h7, h8, h9⟩ := h
 exact ⟨h1, h2, h3, h4, h6, by rw [hp.1, h7], h8.perm (by omega) hp, fun R hR hs => h9 R (permIn_trans _ _ _ _ _ hp hR) hs⟩
theorem bin_quo8 (m : Nat) (h : m < 9223372036854775808) : binV .quo (.int .i64 (m : Int)) (.int .i64 8) = some (.int .i64 ((m / 8 : Nat) : Int)) := by
 rw [bin_quo .i64 (m : Int) 8 (by decide)]
 have e : (m : Int).tdiv 8 = ((m / 8 : Nat) : Int) := rfl
 rw [e, wrap_nat (by omega)]
def Sorts (F L : Nat) : Prop := ∀ (d : Array Rw) (a b lim id n N : Nat) (σ : Sto), b - a < L → a ≤ b → b - a < 130 → b ≤ N → N < 1000000 → lim < 1000 → id < n → d.size = N → σ id = some (.row 2 (rw' d)) →
 Below ahR a b d → ∀ {Q : V → Sto → Nat → Prop}, (∀ σ' d' n', n ≤ n' → σ' id = some (.row 2 (rw' d')) → (∀ i, i ≠ id → i < n → σ' i = σ i) → PermIn a b d d' → SortedIn ahR a b d' → Q .undef σ' n') →
 run T (.raw 62 [.ref id 0 N 2, .int .i64 (a : Int), .int .i64 (b : Int), .int .i64 (lim : Int), .fn F []] σ n 0) (memQ Q)
theorem raw62_step (F : Nat) (hF : CmpF F) (L : Nat) (ih : Sorts F L) : Sorts F (L + 1) := by
 intro d a b lim id n N σ hL hab h50 hb hn hlim hid hN hσ hB Q hQ
 refine run_rawE (fn := g62) rfl rfl ?_
 simp only [g62, b62, zO, zN, zM, zL, zG, zP, zQ, zI, zA, zT, zF, zB, zC, zD, zE, zH, zJ, zK]
 simp +contextual -implicitDefEqProofs (maxSteps := 2000000) only [↓wP, wS, seval]
 refine WC_loopI 0 (fun (s : (Nat × Nat) × Nat) env σ' n' => n ≤ n' ∧ env 0 = .ref id 0 N 2 ∧ env 1 = .int .i64 (s.1.1 : Int) ∧ env 2 = .int .i64 (s.1.2 : Int) ∧ env 3 = .int .i64 (s.2 : Int) ∧ env 4 = .fn F [] ∧
  (∃ wb, env 10 = .bool wb) ∧ (∃ wp, env 11 = .bool wp) ∧ (∀ i, i ≠ id → i < n → σ' i = σ i) ∧ ∃ e, Pdq L N a b d s.1.1 s.1.2 s.2 e ∧ σ' id = some (.row 2 (rw' e))) (fun s => s.1.2 - s.1.1) ?_ ((a, b), lim) _ _ _ ?_
 ·intro ⟨⟨a', b'⟩, lim'⟩ env σ1 n1 ⟨h1, h2, h3, h4, h5, h6, ⟨wb, h7⟩, ⟨wp, h8⟩, hf, e, hp, h9⟩
  dsimp only at h3 h4 h5 hp
  obtain ⟨p1, p2, p3, p4, p6, p7, p8, p9⟩ := hp
  have hp : Pdq L N a b d a' b' lim' e := ⟨p1, p2, p3, p4, p6, p7, p8, p9⟩
  have w1 : IntKind.i64.wrap ((b' : Int) - (a' : Int)) = ((b' - a' : Nat) : Int) := by rw [wrap_i64] <;> omega
  by_cases hle : b' - a' ≤ 12
  ·have hle' : ((b' - a' : Nat) : Int) ≤ 12 := by omega
   simp +contextual -implicitDefEqProofs (maxSteps := 2000000) only [↓wP, wS, seval, h2, h3, h4, h5, h6, w1, hle']
   refine stepW_raw (by decide) (raw112N F hF p7 a' b' id n1 σ1 p1 p2 hn h9 fun σ2 hat => ?_)
   simp +contextual -implicitDefEqProofs (maxSteps := 2000000) only [↓wP, wS, seval]
   have hs := insertionSort_holds (lt := ahR) swoA e a' b' p1 (by omega)
   have hR := p9 _ hs.1 hs.2
   exact hQ _ _ _ h1 hat.1 (fun i hi hin => by rw [hat.2 i hi, hf i hi hin]) hR.1 hR.2
  ·have hle' : ¬ ((b' - a' : Nat) : Int) ≤ 12 := by omega
   by_cases hl00 : lim' = 0
   ·have hl0 : ((lim' : Int) == 0) = true := by simp [hl00]
    simp +contextual -implicitDefEqProofs (maxSteps := 2000000) only [↓wP, wS, seval, h2, h3, h4, h5, h6, h7, h8, w1, hle', hl0]
    refine stepW_raw (by decide) (raw72 F hF e N a' b' id n1 σ1 p7 (by omega) p2 hn h9 fun σ2 hat => ?_)
    simp +contextual -implicitDefEqProofs (maxSteps := 2000000) only [↓wP, wS, seval]
    have hs := heapSort_holds (lt := ahR) swoA e a' b' p1 (by omega)
    have hR := p9 _ hs.1 hs.2
    exact hQ _ _ _ h1 hat.1 (fun i hi hin => by rw [hat.2 i hi, hf i hi hin]) hR.1 hR.2
   have hl0 : ((lim' : Int) == 0) = false := by simp; omega
   simp +contextual -implicitDefEqProofs (maxSteps := 2000000) only [↓wP, wS, seval, h2, h3, h4, h5, h6, h7, h8, w1, hle', hl0]
   refine condC_cut (fun env' σ' n' => ∃ lim1 e1, n1 ≤ n' ∧ env' 0 = .ref id 0 N 2 ∧ env' 1 = .int .i64 (a' : Int) ∧ env' 2 = .int .i64 (b' : Int) ∧ env' 3 = .int .i64 ((lim1 : Nat) : Int) ∧ env' 4 = .fn F [] ∧
    env' 10 = .bool wb ∧ env' 11 = .bool wp ∧ env' 12 = .int .i64 ((b' - a' : Nat) : Int) ∧ lim' ≤ lim1 + 1 ∧ lim1 ≤ lim' ∧ σ' id = some (.row 2 (rw' e1)) ∧ PermIn a' b' e e1 ∧ (∀ i, i ≠ id → i < n → σ' i = σ i)) ?_ ?_ ?_
   ·intro hx
    have wl : IntKind.i64.wrap ((lim' : Int) - 1) = ((lim' - 1 : Nat) : Int) := by rw [wrap_i64] <;> omega
    simp +contextual -implicitDefEqProofs (maxSteps := 2000000) only [↓wP, wS, seval, h2, h3, h4, h5, h6, h7, h8]
    refine stepW_raw (by decide) (raw114N F hF p7 a' b' id n1 σ1 (by omega) (by omega) p2 hn (by omega) h9 fun σ2 d2 n2 g1 g2 g3 g4 => ?_)
    simp +contextual -implicitDefEqProofs (maxSteps := 2000000) only [↓wP, wS, seval, h2, h3, h4, h5, h6, h7, h8, wl]
    refine ⟨lim' - 1, d2, ?_⟩
    have : ∀ i, i ≠ id → i < n → σ2 i = σ i := fun i hi hin => by rw [g3 i hi (by omega), hf i hi hin]
    repeat' (first | assumption | rfl | omega | apply And.intro)
   ·intro hx
    simp +contextual -implicitDefEqProofs (maxSteps := 2000000) only [↓wP, wS, seval, h2, h3, h4, h5, h6, h7, h8]
    refine ⟨lim', e, ?_⟩
    have := permIn_refl e a' b'
    repeat' (first | assumption | rfl | omega | apply And.intro)
   ·clear h2 h3 h4 h5 h6 h7 h8 hf h9
    intro env σ1 n2 ⟨lim1, e1, hn1, h2, h3, h4, h5, h6, h7, h8, hlen, hl1, hl2, h9, hpm, hf⟩
    have hp1 := hp.perm hpm
    obtain ⟨q1, q2, q3, q4, q6, q7, q8, q9⟩ := hp1
    obtain ⟨p, hh, hp1', hp2', hh3, h115⟩ := f74 F hF e1 a' b' id N σ1 n2 0 q7 h9 (by omega) q2 hn
    simp +contextual -implicitDefEqProofs (maxSteps := 2000000) only [↓wP, wS, seval, h2, h3, h4, h5, h6, h7, h8, hlen, h115]
    refine condC_cut (fun env' σ' n' => ∃ (p' : Nat) (h' : Int) (e2 : Array Rw), n2 ≤ n' ∧ env' 0 = .ref id 0 N 2 ∧ env' 1 = .int .i64 (a' : Int) ∧ env' 2 = .int .i64 (b' : Int) ∧ env' 3 = .int .i64 ((lim1 : Nat) : Int) ∧ env' 4 = .fn F [] ∧
     env' 10 = .bool wb ∧ env' 11 = .bool wp ∧ env' 12 = .int .i64 ((b' - a' : Nat) : Int) ∧ env' 13 = .int .i64 (p' : Int) ∧ env' 14 = .int .i64 h' ∧ a' ≤ p' ∧ p' < b' ∧ σ' id = some (.row 2 (rw' e2)) ∧ PermIn a' b' e e2 ∧ (∀ i, i ≠ id → i < n → σ' i = σ i)) ?_ ?_ ?_
    ·intro hx
     have wb1 : IntKind.i64.wrap ((b' : Int) - 1) = ((b' - 1 : Nat) : Int) := by rw [wrap_i64] <;> omega
     have wpa : IntKind.i64.wrap ((p : Int) - (a' : Int)) = ((p - a' : Nat) : Int) := by rw [wrap_i64] <;> omega
     have wpp : IntKind.i64.wrap (((b' - 1 : Nat) : Int) - ((p - a' : Nat) : Int)) = ((b' - 1 - (p - a') : Nat) : Int) := by rw [wrap_i64] <;> omega
     simp +contextual -implicitDefEqProofs (maxSteps := 2000000) only [↓wP, wS, seval, h2, h3, h4, h5, h6, h7, h8, hlen]
     refine stepW_raw (by decide) (raw116N F hF q7 a' b' id n2 σ1 (by omega) q2 hn h9 fun σ2 d2 g1 g2 => ?_)
     simp +contextual -implicitDefEqProofs (maxSteps := 2000000) only [↓wP, wS, seval, h2, h3, h4, h5, h6, h7, h8, hlen, wb1, wpa, wpp]
     refine ⟨b' - 1 - (p - a'), 1, d2, ?_⟩
     have : ∀ i, i ≠ id → i < n → σ2 i = σ i := fun i hi hin => by rw [g1.2 i hi, hf i hi hin]
     have := permIn_trans _ _ _ _ _ hpm g2
     have := g1.1
     repeat' (first | assumption | rfl | omega | apply And.intro)
    ·intro hx
     simp +contextual -implicitDefEqProofs (maxSteps := 2000000) only [↓wP, wS, seval, h2, h3, h4, h5, h6, h7, h8, hlen]
     refine ⟨p, hh, e1, ?_⟩
     repeat' (first | assumption | rfl | omega | apply And.intro)
    ·clear h2 h3 h4 h5 h6 h7 h8 hlen hpm hf h9 q1 q2 q3 q4 q6 q7 q8 q9 h115
     intro env σ1 n3 ⟨p', h', e2, hn3, h2, h3, h4, h5, h6, h7, h8, hlen, h13, h14, hpa, hpb, h9, hpm, hf⟩
     obtain ⟨q1, q2, q3, q4, q6, q7, q8, q9⟩ := hp.perm hpm
     simp +contextual -implicitDefEqProofs (maxSteps := 2000000) only [↓wP, wS, seval, h2, h3, h4, h5, h6, h7, h8, hlen, h13, h14]
     refine condC_cut (fun env' σ' n' => ∃ (e3 : Array Rw), n3 ≤ n' ∧ env' 0 = .ref id 0 N 2 ∧ env' 1 = .int .i64 (a' : Int) ∧ env' 2 = .int .i64 (b' : Int) ∧ env' 3 = .int .i64 ((lim1 : Nat) : Int) ∧ env' 4 = .fn F [] ∧
      env' 10 = .bool wb ∧ env' 11 = .bool wp ∧ env' 12 = .int .i64 ((b' - a' : Nat) : Int) ∧ env' 13 = .int .i64 (p' : Int) ∧ σ' id = some (.row 2 (rw' e3)) ∧ PermIn a' b' e e3 ∧ (∀ i, i ≠ id → i < n → σ' i = σ i)) ?_ ?_ ?_
     ·intro hx
      simp +contextual -implicitDefEqProofs (maxSteps := 2000000) only [↓wP, wS, seval, h2, h3, h4, h5, h6, h7, h8, hlen, h13, h14]
      refine stepW_raw (by decide) (raw76 F hF e2 N a' b' id n3 σ1 q7 (by omega) q2 hn h9 fun σ2 hat => ?_)
      obtain ⟨ps1, ps2⟩ := partialInsertionSort_holds (lt := ahR) swoA e2 a' b' (by omega) (by omega) q8
      generalize (partialInsertionSort ahR e2 a' b').1 = e3 at *
      generalize (partialInsertionSort ahR e2 a' b').2 = r at *
      have hfr : ∀ i, i ≠ id → i < n → σ2 i = σ i := fun i hi hin => by rw [hat.2 i hi, hf i hi hin]
      have hpm3 := permIn_trans _ _ _ _ _ hpm ps1
      cases r
      ·simp +contextual -implicitDefEqProofs (maxSteps := 2000000) only [↓wP, wS, seval, h2, h3, h4, h5, h6, h7, h8, hlen, h13, h14]
       exact ⟨e3, hat.1, hpm3, hfr⟩
      ·simp +contextual -implicitDefEqProofs (maxSteps := 2000000) only [↓wP, wS, seval, h2, h3, h4, h5, h6, h7, h8, hlen, h13, h14]
       have hR := q9 e3 ps1 (ps2 rfl)
       exact hQ _ _ _ (by omega) hat.1 hfr hR.1 hR.2
     ·intro hx
      simp +contextual -implicitDefEqProofs (maxSteps := 2000000) only [↓wP, wS, seval, h2, h3, h4, h5, h6, h7, h8, hlen, h13, h14]
      exact ⟨e2, h9, hpm, hf⟩
     ·clear h2 h3 h4 h5 h6 h7 h8 hlen h13 h14 hpm hf h9 q1 q2 q3 q4 q6 q7 q8 q9
      intro env σ2 n4 ⟨e3, hn4, h2, h3, h4, h5, h6, h7, h8, hlen, h13, h9, hpm, hf⟩
      have hn3' : n1 ≤ n4 := by omega
      clear hn4
      rename_i e2old
      obtain ⟨q1, q2, q3, q4, q6, q7, q8, q9⟩ := hp.perm hpm
      generalize e3 = e2 at *
      rw [seqQ_normal, WC_seq]
      refine WC_cut (fun env' σ' n' => n' = n4 ∧ σ' = σ2 ∧ env' 0 = .ref id 0 N 2 ∧ env' 1 = .int .i64 (a' : Int) ∧ env' 2 = .int .i64 (b' : Int) ∧ env' 3 = .int .i64 ((lim1 : Nat) : Int) ∧ env' 4 = .fn F [] ∧
       env' 10 = .bool wb ∧ env' 11 = .bool wp ∧ env' 12 = .int .i64 ((b' - a' : Nat) : Int) ∧ env' 13 = .int .i64 (p' : Int)) ?_ ?_
      ·by_cases ha0 : 0 < a'
       ·have ha0' : (0 : Int) < (a' : Int) := by omega
        have wa1 : IntKind.i64.wrap ((a' : Int) - 1) = ((a' - 1 : Nat) : Int) := by rw [wrap_i64] <;> omega
        have x1 := rw_at (d := e2) (i := a' - 1) (by omega)
        have x2 := rw_at (d := e2) (i := p') (by omega)
        have l1 : a' - 1 < N := by omega
        have l2 : p' < N := by omega
        by_cases hc : cmpU (e2[a' - 1]!).id (e2[p']!).id < 0
        ·simp +contextual -implicitDefEqProofs (maxSteps := 2000000) only [↓wP, wS, seval, h2, h3, h4, h5, h6, h7, h8, hlen, h13, ha0', wa1, h9, x1, x2, l1, l2, hF, hc]
        ·have hah : ahR e2[a' - 1]! e2[p']! = false := by rw [← cmp_lt]; simpa using hc
         simp +contextual -implicitDefEqProofs (maxSteps := 2000000) only [↓wP, wS, seval, h2, h3, h4, h5, h6, h7, h8, hlen, h13, ha0', wa1, h9, x1, x2, l1, l2, hF, hc]
         refine stepW_raw (by decide) (raw118N F hF q7 a' b' p' id n4 σ2 hpa hpb q2 hn h9 fun σ5 hat => ?_)
         obtain ⟨r1, r2, r3, r4, r5⟩ := round_eq (lt := ahR) swoA (partitionEqual_holds ahR) (d3 := e2) (d4 := (partitionEqual ahR e2 a' b' p').2) (mid := (partitionEqual ahR e2 a' b' p').1) (a := a') (b := b') (pivot := p') ha0 hpa hpb (by omega) q8 hah rfl
         simp +contextual -implicitDefEqProofs (maxSteps := 2000000) only [↓wP, wS, seval, h2, h3, h4, h5, h6, h7, h8, hlen, h13]
         generalize (partitionEqual ahR e2 a' b' p').2 = e3 at *
         generalize (partitionEqual ahR e2 a' b' p').1 = mid at *
         have hfr : ∀ i, i ≠ id → i < n → σ5 i = σ i := fun i hi hin => by rw [hat.2 i hi, hf i hi hin]
         refine ⟨((mid, b'), lim1), by dsimp only; omega, by omega, rfl, rfl, rfl, ⟨_, rfl⟩, ⟨_, rfl⟩, hfr, e3, ⟨r2, q2, by dsimp only; omega, by dsimp only; omega, by dsimp only; omega, by rw [r3, q7], r4, fun R hR hs => ?_⟩, hat.1⟩
         obtain ⟨t1, t2⟩ := r5 R hR hs
         exact q9 R t1 t2
       ·have ha0' : ¬ (0 : Int) < (a' : Int) := by omega
        simp +contextual -implicitDefEqProofs (maxSteps := 2000000) only [↓wP, wS, seval, h2, h3, h4, h5, h6, h7, h8, hlen, h13, ha0']
      ·clear h2 h3 h4 h5 h6 h7 h8 hlen h13
       intro env σ3 n5 ⟨hn5, hs5, h2, h3, h4, h5, h6, h7, h8, hlen, h13⟩
       subst hn5 hs5
       simp +contextual -implicitDefEqProofs (maxSteps := 2000000) only [↓wP, wS, seval, h2, h3, h4, h5, h6, h7, h8, hlen, h13]
       refine stepW_raw (by decide) (raw119N F hF q7 a' b' p' id n5 σ3 hpa hpb q2 hn h9 fun σ5 hat => ?_)
       obtain ⟨r1, r2, r3, r4, r5, r6, r7⟩ := round_part (lt := ahR) swoA (partition_holds ahR) (d3 := e2) (d4 := (partition ahR e2 a' b' p').2.2) (mid := (partition ahR e2 a' b' p').1) (ap := (partition ahR e2 a' b' p').2.1) (a := a') (b := b') (pivot := p') hpa hpb (by omega) q8 rfl
       generalize (partition ahR e2 a' b' p').2.2 = e3 at *
       generalize (partition ahR e2 a' b' p').1 = mid at *
       generalize (partition ahR e2 a' b' p').2.1 = ap at *
       have hfr : ∀ i, i ≠ id → i < n → σ5 i = σ i := fun i hi hin => by rw [hat.2 i hi, hf i hi hin]
       have wma : IntKind.i64.wrap ((mid : Int) - (a' : Int)) = ((mid - a' : Nat) : Int) := by rw [wrap_i64] <;> omega
       have wbm : IntKind.i64.wrap ((b' : Int) - (mid : Int)) = ((b' - mid : Nat) : Int) := by rw [wrap_i64] <;> omega
       have wm1 : IntKind.i64.wrap ((mid : Int) + 1) = ((mid + 1 : Nat) : Int) := by rw [wrap_i64] <;> omega
       have q8' := bin_quo8 (b' - a') (by omega)
       have hsz : e3.size = N := by rw [r3, q7]
       by_cases hlr : mid - a' < b' - mid
       ·have hlr' : ((mid - a' : Nat) : Int) < ((b' - mid : Nat) : Int) := by omega
        simp +contextual -implicitDefEqProofs (maxSteps := 2000000) only [↓wP, wS, seval, h2, h3, h4, h5, h6, h7, h8, hlen, h13, wma, wbm, wm1, q8', hlr']
        refine stepW_raw (by decide) (ih e3 a' mid lim1 id n5 N σ5 (by omega) r1 (by omega) (by omega) hn (by omega) (by omega) hsz hat.1 r4 fun σ6 d6 n6 k1 k2 k3 k4 k5 => ?_)
        obtain ⟨t1, t2⟩ := r6 d6 k4 k5
        simp +contextual -implicitDefEqProofs (maxSteps := 2000000) only [↓wP, wS, seval, h2, h3, h4, h5, h6, h7, h8, hlen, h13, wm1]
        have hfr2 : ∀ i, i ≠ id → i < n → σ6 i = σ i := fun i hi hin => by rw [k3 i hi (by omega), hfr i hi hin]
        refine ⟨((mid + 1, b'), lim1), by dsimp only; omega, by omega, rfl, rfl, rfl, ⟨_, rfl⟩, ⟨_, rfl⟩, hfr2, d6, ⟨by dsimp only; omega, q2, by dsimp only; omega, by dsimp only; omega, by dsimp only; omega, by rw [k4.1, hsz], t1, fun R hR hs => ?_⟩, k2⟩
        obtain ⟨u1, u2⟩ := t2 R hR hs
        exact q9 R u1 u2
       ·have hlr' : ¬ ((mid - a' : Nat) : Int) < ((b' - mid : Nat) : Int) := by omega
        simp +contextual -implicitDefEqProofs (maxSteps := 2000000) only [↓wP, wS, seval, h2, h3, h4, h5, h6, h7, h8, hlen, h13, wma, wbm, wm1, q8', hlr']
        refine stepW_raw (by decide) (ih e3 (mid + 1) b' lim1 id n5 N σ5 (by omega) (by omega) (by omega) q2 hn (by omega) (by omega) hsz hat.1 r5 fun σ6 d6 n6 k1 k2 k3 k4 k5 => ?_)
        obtain ⟨t1, t2⟩ := r7 d6 k4 k5
        simp +contextual -implicitDefEqProofs (maxSteps := 2000000) only [↓wP, wS, seval, h2, h3, h4, h5, h6, h7, h8, hlen, h13]
        have hfr2 : ∀ i, i ≠ id → i < n → σ6 i = σ i := fun i hi hin => by rw [k3 i hi (by omega), hfr i hi hin]
        refine ⟨((a', mid), lim1), by dsimp only; omega, by omega, rfl, rfl, rfl, ⟨_, rfl⟩, ⟨_, rfl⟩, hfr2, d6, ⟨by dsimp only; omega, by dsimp only; omega, by dsimp only; omega, by dsimp only; omega, by dsimp only; omega, by rw [k4.1, hsz], t1, fun R hR hs => ?_⟩, k2⟩
        obtain ⟨u1, u2⟩ := t2 R hR hs
        exact q9 R u1 u2
 ·simp +contextual -implicitDefEqProofs (maxSteps := 2000000) only [↓wP, wS, seval]
  exact ⟨⟨true, rfl⟩, ⟨true, rfl⟩, fun _ _ _ => trivial, d, ⟨hab, hb, by omega, h50, hlim, hN, hB, fun R hR hs => ⟨hR, hs⟩⟩, hσ⟩
theorem raw62 (F : Nat) (hF : CmpF F) : ∀ L : Nat, Sorts F L
 | 0 => fun _ _ _ _ _ _ _ _ h => absurd h (by omega)
 | L + 1 => raw62_step F hF L (raw62 F hF L)
def chk63 (m : Nat) : Bool := match exJob T 60 (.pure 63 [.int .u64 (m : Int)]) with
 | some (.val (.int .i64 M)) => decide (0 ≤ M ∧ M < 1000)
 | _ => false
theorem all63 : (List.range 129).all chk63 = true := by decide +kernel
theorem r63 (m : Nat) (h : m < 129) : ∃ M : Nat, M < 1000 ∧ res T 63 [.int .u64 (m : Int)] = some (.int .i64 (M : Int)) := by
 have h := List.all_eq_true.1 all63 m (List.mem_range.2 h)
 unfold chk63 at h
 split at h
 ·rename_i M hM
  simp only [decide_eq_true_eq] at h
  refine ⟨M.toNat, by omega, ?_⟩
  rw [show ((M.toNat : Nat) : Int) = M by omega]
  exact run_res (exJob_sound 60 _ _ hM)
 ·cases h
theorem raw41 (F : Nat) (hF : CmpF F) (d : Array Rw) (id n : Nat) (σ : Sto) (hd : d.size < 129) (hid : id < n) (hσ : σ id = some (.row 2 (rw' d))) {Q : V → Sto → Nat → Prop}
 (hQ : ∀ σ' d' n', n ≤ n' → σ' id = some (.row 2 (rw' d')) → (∀ i, i ≠ id → i < n → σ' i = σ i) → PermIn 0 d.size d d' → SortedIn ahR 0 d.size d' → Q .undef σ' n') :
 run T (.raw 41 [.ref id 0 d.size 2, .fn F []] σ n 0) (memQ Q) := by
 refine run_rawE (fn := g41) rfl rfl ?_
 simp only [g41, b41, zO, zN, zM, zL, zG, zP, zQ, zI, zA, zT, zF, zB, zC, zD, zE, zH, zJ, zK]
 obtain ⟨M, h2, h3⟩ := r63 d.size hd
 have f63 := callE_tr (fs := true) (by decide) h3 (by simp [Tr]) rfl
 have wu : IntKind.u64.wrap ((d.size : Nat) : Int) = ((d.size : Nat) : Int) := by rw [wrap_u64] <;> omega
 simp +contextual -implicitDefEqProofs (maxSteps := 2000000) only [↓wP, wS, seval, wu, f63]
 refine stepW_raw (by decide) (raw62 F hF (d.size + 1) d 0 d.size M id n d.size σ (by omega) (by omega) (by omega) (by omega) (by omega) h2 hid rfl hσ (.inl rfl) fun σ' d' n' k1 k2 k3 k4 k5 => ?_)
 simp +contextual -implicitDefEqProofs (maxSteps := 2000000) only [↓wP, wS, seval]
 exact hQ σ' d' n' k1 k2 k3 k4 k5
end Go.Q.SW
end

section
/- Rows at a time: facts gone over, a map's rows. -/
namespace Go.Q.SW
open Go.Q Go.Sort
theorem r40 (v : Vc) (h : (lst v).length ≤ 1000000) : res T 40 [slV 1 i32V v] = some (slV 1 i32V v) := by
 refine run_res (run_pure (fn := g40) rfl rfl (by decide) ?_)
 simp only [g40, b40, zO, zN, zM, zL, zG, zP, zQ, zI, zA, zT, zF, zB, zC, zD, zE, zH, zJ, zK]
 cases v with
 | none => simp +contextual -implicitDefEqProofs (maxSteps := 2000000) only [↓wP, wS, seval, slV_none, Option.isNone_none]
 | some l =>
   rw [lst_some] at h
   have hl : (l.map i32V).length * 4 ≤ LIM := by rw [List.length_map]; unfold LIM; omega
   simp +contextual -implicitDefEqProofs (maxSteps := 2000000) only [↓wP, wS, seval, slV_some, hl, true_or]
   have := (fz_vec (σ := upd (upd (upd Sto.empty 0 (some (.row 1 []))) 0 none) 1 (some (.row 1 (l.map i32V)))) (i := 1) (L := l) (by simp [upd]) (S := fun _ => True) trivial)
   have h12 := (Fz.ref (k := 11) (S := fun _ => True) (σ := upd (upd (upd Sto.empty 0 (some (.row 1 []))) 0 none) 1 (some (.row 1 (l.map i32V)))) (id := 1) (sz := 1) (xs := l.map i32V) (by simp [upd]) trivial (FzL.trees (fun y hy => by obtain ⟨t, -, rfl⟩ := List.mem_map.1 hy; rfl) (fun y hy c hc => by obtain ⟨t, -, rfl⟩ := List.mem_map.1 hy; simp [i32V, V.cells] at hc; subst hc; rfl))).1
   simpa using h12
def f40 (v : Vc) (h : (lst v).length ≤ 1000000) := callE_tr (by decide) (r40 v h) (by simp [Tr, Tr_slV]) (Nw_slV _ _ _ _)
end Go.Q.SW
end

section
/- The rows at a time: the loop over facts. -/
namespace Go.Q.SW
open Go.Q Go.Sort
end Go.Q.SW
end

section
/- ideal.rows: the rows at a time, sorted. -/
namespace Go.Q.SW
open Go.Q Go.Sort
open Nat renaming reduceEqDiff → n1w, reduceAdd → n2w, reduceSub → n3w, reduceLeDiff → n4w, reduceLT → n5w, reduceMul → n6w
open Int renaming reduceBNe → i1w, reduceBEq → i2w, reduceLT → i3w, reduceLE → i4w, reduceGT → i5w
def Seen (R D : List Rw) (L : List (En Int Vc)) (seen : List Nat) : Prop := (∀ r ∈ D, r ∈ R) ∧ (D.map (·.id)).Nodup ∧ ∀ e ∈ L, (e.2.2 ∈ seen ↔ (⟨e.1, e.2.1⟩ : Rw) ∈ D)
theorem nodup_len : ∀ {l m : List Int}, l.Nodup → (∀ x ∈ l, x ∈ m) → l.length ≤ m.length
 | [], _, _, _ => Nat.zero_le _
 | a :: l, m, h, hs => by
   rw [List.nodup_cons] at h
   have ha := hs a List.mem_cons_self
   have h1 := nodup_len (l := l) (m := m.erase a) h.2 (fun x hx => (List.mem_erase_of_ne (fun e => h.1 (by rw [← e]; exact hx))).2 (hs x (List.mem_cons_of_mem _ hx)))
   have h2 := List.length_erase_of_mem ha
   have h3 := List.length_pos_of_mem ha
   simp only [List.length_cons]; omega
theorem Seen.len {R D : List Rw} {L : List (En Int Vc)} {seen : List Nat} (h : Seen R D L seen) : D.length ≤ R.length := by
 have := nodup_len (l := D.map (·.id)) (m := R.map (·.id)) h.2.1 (fun x hx => by obtain ⟨r, hr, rfl⟩ := List.mem_map.1 hx; exact List.mem_map.2 ⟨r, h.1 r hr, rfl⟩)
 simpa using this
theorem key_inj : ∀ {L : List (En Int Vc)}, (L.map (·.1)).Nodup → ∀ {e e' : En Int Vc}, e ∈ L → e' ∈ L → e.1 = e'.1 → e = e'
 | [], _, e, e', he, _, _ => by simp at he
 | x :: L, h, e, e', he, he', hs => by
   rw [List.map_cons, List.nodup_cons] at h
   rcases List.mem_cons.1 he with e1 | he <;> rcases List.mem_cons.1 he' with e2 | he'
   ·rw [e1, e2]
   ·exact absurd (List.mem_map.2 ⟨e', he', by rw [← hs, e1]⟩) h.1
   ·exact absurd (List.mem_map.2 ⟨e, he, by rw [hs, e2]⟩) h.1
   ·exact key_inj h.2 he he' hs
theorem Seen.nil {R : List Rw} {L : List (En Int Vc)} : Seen R [] L [] := ⟨fun r hr => by simp at hr, List.nodup_nil, fun e he => by simp⟩
theorem Seen.step {R D : List Rw} {L : List (En Int Vc)} {seen : List Nat} {clk : Nat} (h : Seen R D L seen) (hm : MOk L clk) (hR : RM R L) {e : En Int Vc} (he : e ∈ L) (hn : e.2.2 ∉ seen) : Seen R (D ++ [⟨e.1, e.2.1⟩]) L (seen ++ [e.2.2]) := by
 obtain ⟨h1, h2, h3⟩ := h
 have hvw : vw L e.1 = some e.2.1 := (vw_some hm.keys).2 ⟨e.2.2, he⟩
 refine ⟨fun r hr => ?_, ?_, fun e' he' => ?_⟩
 ·rcases List.mem_append.1 hr with hr | hr
  ·exact h1 r hr
  ·rw [List.mem_singleton] at hr
   subst hr
   exact (hR.2 e.1 e.2.1).2 hvw
 ·rw [List.map_append]
  refine List.nodup_append.2 ⟨h2, by simp, fun a ha b hb => ?_⟩
  simp only [List.map_cons, List.map_nil, List.mem_singleton] at hb
  subst hb
  obtain ⟨r, hr, rfl⟩ := List.mem_map.1 ha
  intro hid
  have hv := (hR.2 r.id r.v).1 (h1 r hr)
  rw [hid, hvw, Option.some.injEq] at hv
  have : (⟨e.1, e.2.1⟩ : Rw) ∈ D := by
   have e1 : r = ⟨e.1, e.2.1⟩ := by cases r; simp only at hid hv; rw [hid, ← hv]
   rw [← e1]; exact hr
  exact hn ((h3 e he).2 this)
 ·rw [List.mem_append, List.mem_append, List.mem_singleton, List.mem_singleton, h3 e' he']
  constructor
  ·rintro (h | h)
   ·exact .inl h
   ·exact .inr (by rw [born_inj hm.born he' he h])
  ·rintro (h | h)
   ·exact .inl h
   ·simp only [Rw.mk.injEq] at h
    exact .inr (by rw [key_inj hm.keys he' he h.1])
theorem Seen.all {R D : List Rw} {L : List (En Int Vc)} {seen : List Nat} {clk : Nat} (h : Seen R D L seen) (hm : MOk L clk) (hR : RM R L) (hall : ∀ e ∈ L, e.2.2 ∈ seen) : ∀ x, x ∈ D ↔ x ∈ R := by
 intro x
 refine ⟨h.1 x, fun hx => ?_⟩
 have hv := (hR.2 x.id x.v).1 hx
 obtain ⟨s, hs⟩ := (vw_some hm.keys).1 hv
 exact (h.2.2 _ hs).1 (hall _ hs)
theorem raw71n (F : Nat) (σ : Sto) (n : Nat) {Q : V → Sto → Nat → Prop} (hQ : Q .undef σ n) : run T (.raw 71 [.nilS, .int .i64 0, .int .i64 0, .fn F []] σ n 0) (memQ Q) := by
 refine run_rawE (fn := g71) rfl rfl ?_
 simp only [g71, b71, zO, zN, zM, zL, zG, zP, zQ, zI, zA, zT, zF, zB, zC, zD, zE, zH, zJ, zK]
 have w1 : IntKind.i64.wrap ((0 : Int) + 1) = 1 := by decide
 simp +contextual -implicitDefEqProofs (maxSteps := 2000000) only [↓wP, wQ, wQ1, wQ2, wQ3, wR, boxE, partsOf, ↓reduceIte, n1w, n2w, n3w, n4w, n5w, n6w, reduceCtorEq, i1w, i2w, i3w, i4w, i5w, w1]
 refine WC_loopI 0 (fun (_ : Nat) env σ' n' => σ' = σ ∧ n' = n ∧ env 2 = .int .i64 0 ∧ env 8 = .int .i64 1) (fun s => s) ?_ 0 _ _ _ ?_
 ·intro _ env σ1 n1 ⟨h1, h2, h3, h4⟩
  subst h1 h2
  simp +contextual -implicitDefEqProofs (maxSteps := 2000000) only [↓wP, wQ, wQ1, wQ2, wQ3, wR, boxE, partsOf, ↓reduceIte, n1w, n2w, n3w, n4w, n5w, n6w, reduceCtorEq, i1w, i2w, i3w, i4w, i5w, h3, h4]
  exact hQ
 ·simp +contextual -implicitDefEqProofs (maxSteps := 2000000) only [↓wP, wQ, wQ1, wQ2, wQ3, wR, boxE, partsOf, ↓reduceIte, n1w, n2w, n3w, n4w, n5w, n6w, reduceCtorEq, i1w, i2w, i3w, i4w, i5w]
theorem raw62n (F : Nat) (M : Nat) (σ : Sto) (n : Nat) {Q : V → Sto → Nat → Prop} (hQ : Q .undef σ n) : run T (.raw 62 [.nilS, .int .i64 0, .int .i64 0, .int .i64 (M : Int), .fn F []] σ n 0) (memQ Q) := by
 refine run_rawE (fn := g62) rfl rfl ?_
 simp only [g62, b62, zO, zN, zM, zL, zG, zP, zQ, zI, zA, zT, zF, zB, zC, zD, zE, zH, zJ, zK]
 have w1 : IntKind.i64.wrap ((0 : Int) - 0) = 0 := by decide
 simp +contextual -implicitDefEqProofs (maxSteps := 2000000) only [↓wP, wQ, wQ1, wQ2, wQ3, wR, boxE, partsOf, ↓reduceIte, n1w, n2w, n3w, n4w, n5w, n6w, reduceCtorEq, i1w, i2w, i3w, i4w, i5w]
 refine WC_loopI 0 (fun (_ : Nat) env σ' n' => σ' = σ ∧ n' = n ∧ env 0 = .nilS ∧ env 1 = .int .i64 0 ∧ env 2 = .int .i64 0 ∧ env 4 = .fn F []) (fun s => s) ?_ 0 _ _ _ ?_
 ·intro _ env σ1 n1 ⟨h1, h2, h3, h4, h5, h6⟩
  subst h1 h2
  simp +contextual -implicitDefEqProofs (maxSteps := 2000000) only [↓wP, wQ, wQ1, wQ2, wQ3, wR, boxE, partsOf, ↓reduceIte, n1w, n2w, n3w, n4w, n5w, n6w, reduceCtorEq, i1w, i2w, i3w, i4w, i5w, h3, h4, h5, h6, w1]
  refine stepW_raw (by decide) (raw71n F σ1 n1 ?_)
  simp +contextual -implicitDefEqProofs (maxSteps := 2000000) only [↓wP, wQ, wQ1, wQ2, wQ3, wR, boxE, partsOf, ↓reduceIte, n1w, n2w, n3w, n4w, n5w, n6w, reduceCtorEq, i1w, i2w, i3w, i4w, i5w]
  exact hQ
 ·simp +contextual -implicitDefEqProofs (maxSteps := 2000000) only [↓wP, wQ, wQ1, wQ2, wQ3, wR, boxE, partsOf, ↓reduceIte, n1w, n2w, n3w, n4w, n5w, n6w, reduceCtorEq, i1w, i2w, i3w, i4w, i5w]
theorem raw41n (F : Nat) (σ : Sto) (n : Nat) {Q : V → Sto → Nat → Prop} (hQ : Q .undef σ n) : run T (.raw 41 [.nilS, .fn F []] σ n 0) (memQ Q) := by
 refine run_rawE (fn := g41) rfl rfl ?_
 simp only [g41, b41, zO, zN, zM, zL, zG, zP, zQ, zI, zA, zT, zF, zB, zC, zD, zE, zH, zJ, zK]
 obtain ⟨M, h2, h3⟩ := r63 0 (by omega)
 have f63 := callE_tr (fs := true) (by decide) h3 (by simp [Tr]) rfl
 have wu : IntKind.u64.wrap ((0 : Nat) : Int) = ((0 : Nat) : Int) := by decide
 simp +contextual -implicitDefEqProofs (maxSteps := 2000000) only [↓wP, wQ, wQ1, wQ2, wQ3, wR, boxE, partsOf, ↓reduceIte, n1w, n2w, n3w, n4w, n5w, n6w, reduceCtorEq, i1w, i2w, i3w, i4w, i5w, wu, f63]
 refine stepW_raw (by decide) (raw62n F M σ n ?_)
 simp +contextual -implicitDefEqProofs (maxSteps := 2000000) only [↓wP, wQ, wQ1, wQ2, wQ3, wR, boxE, partsOf, ↓reduceIte, n1w, n2w, n3w, n4w, n5w, n6w, reduceCtorEq, i1w, i2w, i3w, i4w, i5w]
 exact hQ
theorem sorted_asc {d d' : Array Rw} (hp : PermIn 0 d.size d d') (hs : SortedIn ahR 0 d.size d') (hn : (d.toList.map (·.id)).Nodup) : Asc d'.toList ∧ ∀ x, x ∈ d'.toList ↔ x ∈ d.toList := by
 have hsz := hp.1
 have hperm : d'.toList.Perm d.toList := by
  have := hp.2.2
  rw [← hsz] at this
  have e1 : (d'.extract 0 d'.size) = d' := by simp
  have e2 : (d.extract 0 d'.size) = d := by rw [hsz]; simp
  rw [e1, e2] at this
  exact this
 refine ⟨?_, fun x => hperm.mem_iff⟩
 unfold Asc
 rw [List.pairwise_iff_getElem]
 intro i j hi hj hij
 have hi' : i < d'.size := by simpa using hi
 have hj' : j < d'.size := by simpa using hj
 have h1 := hs i j (Nat.zero_le _) hij (by omega)
 have e1 : d'[i]! = d'.toList[i] := by simp [hi']
 have e2 : d'[j]! = d'.toList[j] := by simp [hj']
 rw [e1, e2] at h1
 have h2 : ¬ (d'.toList[j]).id < (d'.toList[i]).id := by simpa [ahR] using h1
 have hn' : (d'.toList.map (·.id)).Nodup := (hperm.map _).nodup_iff.2 hn
 rw [List.nodup_iff_pairwise_ne, List.pairwise_map, List.pairwise_iff_getElem] at hn'
 have := hn' i j hi hj hij
 omega
end Go.Q.SW
end

/- The compact code of this seat's functions, printed by a program. -/
import Derived.Test.YthlgaehihnoohaaGreatDoorQD
import Derived.Sort.Defs
import Derived.Sort.AssemblyPlain
set_option linter.unusedVariables false
set_option linter.unusedSimpArgs false
set_option linter.unusedSectionVars false
set_option linter.defProp false
section
namespace Go.Q.SD
def zO (d : Nat) (x : AI) : AOp := ⟨some d, none, x⟩
def zN (x : AI) : AOp := ⟨none, none, x⟩
def zM (d s : Nat) : AOp := ⟨some d, none, .mov (.tmp s)⟩
def zL (d s : Nat) : AOp := ⟨some d, none, .load false 1 (.tmp s)⟩
def zG (d g : Nat) (b : Bool) (x : AI) : AOp := ⟨some d, some (g, b), x⟩
def zP (x : AOp) : DOp := ⟨x, true, false, false, 0, [], none⟩
def zQ (x : AOp) : DOp := ⟨x, false, false, false, 0, [], none⟩
def zI (n : Int) : Opd := .con (.int .i64 n)
def zA (x : List AOp) (y : AC) : AC := .seq (.reg x) y
def zT (n : Nat) : Opd := .tmp n
def zF : Opd := .con (.bool false)
def zB (d s : Nat) : DOp := zP (zM d s)
def zC (d : Nat) (n : Int) : AOp := zO d (.mov (zI n))
def zD (d s n : Nat) : AOp := zO d (.faddr (zT s) n)
def zE (d n s : Nat) : AOp := zO d (.load true n (zT s))
def zH (d s : Nat) : AOp := zO d (.len (zT s))
def zJ (d s : Nat) (n : Int) : AOp := zO d (.bin .add (zT s) (zI n))
def zK (d s : Nat) : AOp := zO d (.box (zT s))
def b3 : AC :=
 (zA [zK 3 0,
 zK 5 2,
 zO 6 (.mov zF)]
 (.seq (zA [zO 14 (.call 4 []),
 zO 15 (.un .not (zT 14))]
 (.cond (zT 15)
 (zA [zO 6 (.mov zF)]
 .ret)
 .skip))
 (.seq (.regd [⟨[⟨zE 16 1 3, false, false, false, 0, [0], none⟩,
 ⟨zO 17 (.call 5 [(zT 16)]), false, false, false, 0, [0], none⟩,
 ⟨zE 18 4 5, false, false, false, 0, [0], none⟩,
 ⟨zO 19 (.call 6 [(zT 18)]), false, false, false, 0, [0], none⟩,
 ⟨zO 7 (.alloc (.agg [.nilS])), false, false, true, 0, [], none⟩], 1, [zN (.store 1 (zT 7) (zT 17)),
 zN (.store 4 (zT 5) (zT 19))]⟩])
 (.seq (.regd [⟨[⟨zE 21 1 7, false, false, false, 0, [0], none⟩,
 zB 22 1,
 ⟨zO 23 (.call 8 [(zT 22)]), false, false, false, 0, [0], none⟩,
 ⟨zO 24 (.call 7 [(zT 21), (zT 23)]), false, false, false, 0, [0], none⟩,
 zB 20 24,
 zP (zO 25 (.ext (zT 20) 0)),
 zP (zO 26 (.ext (zT 20) 1)),
 ⟨zO 8 (.alloc (.agg [.nilS, .nilS])), false, false, true, 0, [], none⟩,
 ⟨zN (.store 2 (zT 8) (zT 25)), false, true, false, 1, [], none⟩], 1, [zM 9 26]⟩])
 (.seq (zA [zM 27 9,
 zO 28 (.bin .neq (zT 27) (zI 0))]
 (.cond (zT 28)
 (zA [zO 6 (.mov (.con (.bool true)))]
 .ret)
 .skip))
 (zA [zE 30 1 7,
 zE 31 2 8,
 zE 32 4 5,
 zO 33 (.call 9 [(zT 30), (zT 31), (zT 32)]),
 zM 29 33,
 zO 34 (.ext (zT 29) 0),
 zO 35 (.ext (zT 29) 1),
 zM 10 34,
 zM 9 35]
 (.seq (zA [zM 36 9,
 zO 37 (.bin .neq (zT 36) (zI 0))]
 (.cond (zT 37)
 (zA [zM 38 10,
 zH 39 38,
 zO 40 (.bin .eql (zT 39) (zI 0)),
 zM 6 40]
 .ret)
 .skip))
 (zA [zE 42 1 7,
 zD 43 5 2,
 zL 44 43,
 zO 45 (.call 10 [(zT 42), (zT 44)]),
 zM 41 45,
 zO 46 (.ext (zT 41) 0),
 zO 47 (.ext (zT 41) 1),
 zM 11 46,
 zM 12 47]
 (.seq (zA [zM 48 12,
 zO 49 (.un .not (zT 48))]
 (.cond (zT 49)
 (zA [zO 6 (.mov zF)]
 .ret)
 .skip))
 (zA [zM 51 11,
 zD 52 8 0,
 zL 53 52,
 zE 54 4 5,
 zO 55 (.call 11 [(zT 51), (zT 53), (zT 54)]),
 zM 50 55,
 zO 56 (.ext (zT 50) 0),
 zO 57 (.ext (zT 50) 1),
 zM 13 56,
 zM 9 57]
 (zA [zM 58 9,
 zO 59 (.bin .eql (zT 58) (zI 0)),
 zM 60 59,
 zG 61 60 true (.mov (zT 10)),
 zG 62 60 true (.mov (zT 13)),
 zG 63 60 true (.call 12 [(zT 61), (zT 62)]),
 zO 64 (.pick (zT 60) (zT 63) zF),
 zM 6 64]
 .ret)))))))))))
def g3 : Fn := ⟨3, 65, [.tmp 6], b3⟩
def b4 : AC :=
 (zA [zO 0 (.mov zF)]
 (zA [zO 9 (.lit 1 [(.con (.int .i32 0))]),
 zO 10 (.lit 1 [(.con (.int .i32 10))]),
 zO 11 (.lit 1 [(.con (.int .i32 20))]),
 zO 12 (.lit 1 [(zT 9), (zT 10), (zT 11)]),
 zM 1 12]
 (zA [zO 13 (.lit 1 [(.con (.int .i32 1))]),
 zO 14 (.build [(.int .u64 0), .nilS] [(0, 1, (.con (.int .u64 1))), (1, 1, (zT 13))]),
 zO 15 (.lit 1 [(.con (.int .i32 9))]),
 zO 16 (.build [(.int .u64 0), .nilS] [(0, 1, (.con (.int .u64 2))), (1, 1, (zT 15))]),
 zO 17 (.lit 1 [(.con (.int .i32 12))]),
 zO 18 (.build [(.int .u64 0), .nilS] [(0, 1, (.con (.int .u64 3))), (1, 1, (zT 17))]),
 zO 19 (.lit 1 [(.con (.int .i32 22))]),
 zO 20 (.build [(.int .u64 0), .nilS] [(0, 1, (.con (.int .u64 4))), (1, 1, (zT 19))]),
 zO 21 (.lit 2 [(zT 14), (zT 16), (zT 18), (zT 20)]),
 zM 2 21]
 (zA [zM 23 2,
 zM 24 1,
 zO 25 (.lit 1 [(.con (.int .i32 6))]),
 zO 26 (.build [.nilS, (.int .i64 0)] [(0, 1, (zT 25)), (1, 1, (zI 3))]),
 zO 27 (.build [.nilS, (.int .i64 0), (.int .u64 0), (.int .i64 0)] [(0, 2, (zT 26)), (3, 1, (zI 1))]),
 zO 28 (.call 11 [(zT 23), (zT 24), (zT 27)]),
 zM 22 28,
 zO 29 (.ext (zT 22) 0),
 zO 30 (.ext (zT 22) 1),
 zM 3 29,
 zM 4 30]
 (zA [zM 32 1,
 zO 33 (.lit 1 [(.con (.int .i32 6))]),
 zO 34 (.call 13 [(zT 32), (zT 33), (zI 2)]),
 zM 31 34,
 zO 35 (.ext (zT 31) 0),
 zO 36 (.ext (zT 31) 1),
 zM 5 35,
 zM 6 36]
 (zA [zM 38 2,
 zO 39 (.lit 1 [(.con (.int .i32 6))]),
 zO 40 (.build [.nilS, (.int .i64 0)] [(0, 1, (zT 39)), (1, 1, (zI 3))]),
 zO 41 (.build [.nilS, (.int .i64 0), (.int .u64 0), (.int .i64 0)] [(0, 2, (zT 40)), (3, 1, (zI 1))]),
 zO 42 (.call 11 [(zT 38), (.con .nilS), (zT 41)]),
 zM 37 42,
 zO 43 (.ext (zT 37) 0),
 zO 44 (.ext (zT 37) 1),
 zM 7 43,
 zM 8 44]
 (zA [zM 45 4,
 zO 46 (.bin .eql (zT 45) (zI 0)),
 zM 47 46,
 zG 48 47 true (.mov (zT 6)),
 zG 49 47 true (.bin .eql (zT 48) (zI 0)),
 zO 50 (.pick (zT 47) (zT 49) zF),
 zM 51 50,
 zG 52 51 true (.mov (zT 8)),
 zG 53 51 true (.bin .eql (zT 52) (zI 240)),
 zO 54 (.pick (zT 51) (zT 53) zF),
 zM 55 54,
 zG 56 55 true (.mov (zT 3)),
 zG 57 55 true (.len (zT 56)),
 zG 58 55 true (.bin .eql (zT 57) (zI 2)),
 zO 59 (.pick (zT 55) (zT 58) zF),
 zM 60 59,
 zG 61 60 true (.mov (zT 3)),
 zG 62 60 true (.iaddr 2 (zT 61) (zI 0)),
 zG 63 60 true (.load true 2 (zT 62)),
 zG 64 60 true (.build [(.int .u64 0), (.int .u64 0)] [(0, 1, (.con (.int .u64 2))), (1, 1, (.con (.int .u64 9)))]),
 zG 65 60 true (.eqA false [.int, .int] (zT 63) (zT 64)),
 zO 66 (.pick (zT 60) (zT 65) zF),
 zM 67 66,
 zG 68 67 true (.mov (zT 5)),
 zG 69 67 true (.len (zT 68)),
 zG 70 67 true (.bin .eql (zT 69) (zI 2)),
 zO 71 (.pick (zT 67) (zT 70) zF),
 zM 72 71,
 zG 73 72 true (.mov (zT 5)),
 zG 74 72 true (.iaddr 1 (zT 73) (zI 0)),
 zG 75 72 true (.load false 1 (zT 74)),
 zG 76 72 true (.bin .eql (zT 75) (zI 1)),
 zO 77 (.pick (zT 72) (zT 76) zF),
 zM 0 77]
 .ret)))))))
def g4 : Fn := ⟨0, 78, [.tmp 0], b4⟩
def b5 : AC :=
 (zA [zK 1 0,
 zO 2 (.alloc (.agg [.nilS]))]
 (zA [zO 3 (.alloc (.agg [.nilS]))]
 (.seq (zA [zD 6 1 0,
 zL 7 6,
 zH 8 7,
 zC 9 0]
 (.block 0 (.loop (zA [zO 10 (.bin .lss (zT 9) (zT 8))]
 (.seq (.cond (zT 10)
 .skip
 (.exit 0))
 (.seq (.block 1 (zA [zM 11 9,
 zO 12 (.iaddr 5 (zT 7) (zT 9)),
 zE 13 5 12,
 zO 5 (.alloc (.agg [(.bool false), (.int .u64 0), (.int .u64 0), (.int .u64 0), .nilS])),
 zM 4 11,
 zN (.store 5 (zT 5) (zT 13))]
 (zA [zM 14 4,
 zO 15 (.bin .leq (zT 14) (zI 96))]
 (.cond (zT 15)
 (zA [zD 16 5 2,
 zD 17 16 2,
 zL 18 17,
 zD 19 5 2,
 zD 20 19 2,
 zL 21 20,
 zH 22 21,
 zO 23 (.min [(zT 22), (zI 5)]),
 zO 24 (.slice 1 (zT 18) none (some (zT 23))),
 zO 25 (.append 1 4 (.con .nilS) (zT 24)),
 zD 26 5 2,
 zD 27 26 2,
 zN (.store 1 (zT 27) (zT 25))]
 (.reg [zD 28 3 0,
 zL 29 28,
 zE 30 5 5,
 zO 31 (.lit 5 [(zT 30)]),
 zO 32 (.append 5 56 (zT 29) (zT 31)),
 zD 33 3 0,
 zN (.store 1 (zT 33) (zT 32))]))
 .skip))))
 (.reg [zJ 34 9 1,
 zM 9 34])))))))
 (zA [zE 35 1 3,
 zN (.store 1 (zT 2) (zT 35))]
 .ret))))
def g5 : Fn := ⟨1, 36, [.cell 2 true 1], b5⟩
def b6 : AC :=
 (zA [zK 1 0,
 zO 2 (.alloc (.agg [.nilS, (.int .i64 0), (.int .u64 0), (.int .i64 0)]))]
 (zA [zD 3 1 0,
 zD 4 3 0,
 zL 5 4,
 zO 6 (.call 14 [(zT 5)]),
 zD 7 1 0,
 zD 8 7 0,
 zN (.store 1 (zT 8) (zT 6))]
 (zA [zE 9 4 1,
 zN (.store 4 (zT 2) (zT 9))]
 .ret)))
def g6 : Fn := ⟨1, 10, [.cell 2 true 4], b6⟩
def b7 : AC :=
 (zA [zK 2 0,
 zO 4 (.alloc (.agg [.nilS, .nilS])),
 zC 5 0]
 (.seq (zA [zE 12 1 2,
 zO 13 (.call 15 [(zT 12)]),
 zM 6 13]
 (zA [zM 14 6,
 zO 15 (.bin .neq (zT 14) (zI 0))]
 (.cond (zT 15)
 (zA [zO 16 (.build [.nilS, .nilS] []),
 zM 17 6,
 zN (.store 2 (zT 4) (zT 16)),
 zM 5 17]
 .ret)
 .skip)))
 (.seq (zA [zM 18 1,
 zO 19 (.call 16 [(zT 18)]),
 zO 20 (.un .not (zT 19))]
 (.cond (zT 20)
 (zA [zO 21 (.build [.nilS, .nilS] []),
 zN (.store 2 (zT 4) (zT 21)),
 zC 5 230]
 .ret)
 .skip))
 (.seq (.regd [⟨[zB 22 1,
 ⟨zO 23 (.call 17 [(zT 22)]), false, false, false, 0, [0, 1], none⟩,
 zB 24 1,
 zP (zH 25 24),
 ⟨zO 26 (.mksl 2 16 (.agg [(.int .u64 0), (.int .u64 0)]) (zT 25)), false, false, true, 0, [1], none⟩,
 ⟨zO 27 (.build [.nilS, .nilS] [(0, 1, (zT 23)), (1, 1, (zT 26))]), true, false, false, 1, [], none⟩,
 ⟨zO 7 (.alloc (.agg [.nilS, .nilS])), false, false, true, 1, [0], none⟩], 2, [zN (.store 2 (zT 7) (zT 27))]⟩])
 (.seq (zA [zM 28 1,
 zH 29 28,
 zO 30 (.bin .eql (zT 29) (zI 0))]
 (.cond (zT 30)
 (zA [zO 31 (.build [.nilS, .nilS] []),
 zN (.store 2 (zT 4) (zT 31)),
 zC 5 0]
 .ret)
 .skip))
 (.seq (zA [zD 32 2 0,
 zL 33 32,
 zH 34 33,
 zC 35 0]
 (.block 0 (.loop (zA [zO 36 (.bin .lss (zT 35) (zT 34))]
 (.seq (.cond (zT 36)
 .skip
 (.exit 0))
 (.seq (.block 1 (zA [zM 37 35,
 zO 38 (.iaddr 5 (zT 33) (zT 35)),
 zE 39 5 38,
 zO 9 (.alloc (.agg [(.bool false), (.int .u64 0), (.int .u64 0), (.int .u64 0), .nilS])),
 zM 8 37,
 zN (.store 5 (zT 9) (zT 39))]
 (.seq (zA [zD 40 9 0,
 zL 41 40,
 zO 42 (.un .not (zT 41))]
 (.cond (zT 42)
 (.exit 1)
 .skip))
 (zA [zM 44 1,
 zD 45 9 2,
 zD 46 45 2,
 zL 47 46,
 zO 48 (.call 18 [(zT 44), (zT 47)]),
 zM 43 48,
 zO 49 (.ext (zT 43) 0),
 zO 50 (.ext (zT 43) 1),
 zM 10 49,
 zM 11 50]
 (.seq (zA [zM 51 11,
 zO 52 (.bin .neq (zT 51) (zI 0))]
 (.cond (zT 52)
 (zA [zO 53 (.build [.nilS, .nilS] []),
 zM 54 11,
 zN (.store 2 (zT 4) (zT 53)),
 zM 5 54]
 .ret)
 .skip))
 (.reg [zE 55 2 7,
 zM 56 10,
 zM 57 8,
 zO 58 (.call 19 [(zT 55), (zT 56), (zT 57)]),
 zN (.store 2 (zT 7) (zT 58))]))))))
 (.reg [zJ 59 35 1,
 zM 35 59])))))))
 (zA [zE 60 2 7,
 zN (.store 2 (zT 4) (zT 60)),
 zC 5 0]
 .ret)))))))
def g7 : Fn := ⟨2, 61, [.cell 4 true 2, .tmp 5], b7⟩
def b8 : AC :=
 (zA [zO 2 (.mov (.con .nilS))]
 (zA [zO 3 (.mov (.con .nilS))]
 (.seq (zA [zM 6 0,
 zH 7 6,
 zC 8 0]
 (.block 0 (.loop (zA [zO 9 (.bin .lss (zT 8) (zT 7))]
 (.seq (.cond (zT 9)
 .skip
 (.exit 0))
 (.seq (.block 1 (zA [zM 10 8,
 zO 11 (.iaddr 1 (zT 6) (zT 8)),
 zL 12 11,
 zM 4 10,
 zM 5 12]
 (zA [zM 13 4,
 zO 14 (.bin .leq (zT 13) (zI 6))]
 (.cond (zT 14)
 (.reg [zM 15 3,
 zM 16 5,
 zO 17 (.call 14 [(zT 16)]),
 zO 18 (.lit 1 [(zT 17)]),
 zO 19 (.append 1 24 (zT 15) (zT 18)),
 zM 3 19])
 .skip))))
 (.reg [zJ 20 8 1,
 zM 8 20])))))))
 (zA [zM 21 3,
 zM 2 21]
 .ret))))
def g8 : Fn := ⟨1, 22, [.tmp 2], b8⟩
def b9 : AC :=
 (zA [zK 3 0,
 zK 4 1,
 zK 5 2,
 zO 6 (.mov (.con .nilS)),
 zC 7 0]
 (.seq (zA [zE 15 4 5,
 zO 16 (.call 20 [(zT 15)]),
 zM 8 16]
 (zA [zM 17 8,
 zO 18 (.bin .neq (zT 17) (zI 0))]
 (.cond (zT 18)
 (zA [zM 19 8,
 zO 6 (.mov (.con .nilS)),
 zM 7 19]
 .ret)
 .skip)))
 (.seq (zA [zE 20 2 4,
 zO 21 (.call 21 [(zT 20)]),
 zM 9 21]
 (zA [zM 22 9,
 zO 23 (.bin .neq (zT 22) (zI 0))]
 (.cond (zT 23)
 (zA [zM 24 9,
 zO 6 (.mov (.con .nilS)),
 zM 7 24]
 .ret)
 .skip)))
 (.seq (zA [zE 25 1 3,
 zO 26 (.call 15 [(zT 25)]),
 zM 10 26]
 (zA [zM 27 10,
 zO 28 (.bin .neq (zT 27) (zI 0))]
 (.cond (zT 28)
 (zA [zM 29 10,
 zO 6 (.mov (.con .nilS)),
 zM 7 29]
 .ret)
 .skip)))
 (zA [zD 31 4 0,
 zL 32 31,
 zD 33 5 0,
 zD 34 33 0,
 zL 35 34,
 zD 36 5 3,
 zL 37 36,
 zO 38 (.call 13 [(zT 32), (zT 35), (zT 37)]),
 zM 30 38,
 zO 39 (.ext (zT 30) 0),
 zO 40 (.ext (zT 30) 1),
 zM 11 39,
 zM 12 40]
 (.seq (zA [zM 41 12,
 zO 42 (.bin .neq (zT 41) (zI 0))]
 (.cond (zT 42)
 (zA [zM 43 12,
 zO 6 (.mov (.con .nilS)),
 zM 7 43]
 .ret)
 .skip))
 (zA [zE 45 2 4,
 zM 46 11,
 zO 47 (.call 22 [(zT 45), (zT 46)]),
 zM 44 47,
 zO 48 (.ext (zT 44) 0),
 zO 49 (.ext (zT 44) 1),
 zO 13 (.alloc (.agg [(.int .u64 0), (.int .u64 0)])),
 zN (.store 2 (zT 13) (zT 48)),
 zM 12 49]
 (.seq (zA [zM 50 12,
 zO 51 (.bin .neq (zT 50) (zI 0))]
 (.cond (zT 51)
 (zA [zM 52 12,
 zO 6 (.mov (.con .nilS)),
 zM 7 52]
 .ret)
 .skip))
 (zA [zE 54 1 3,
 zD 55 5 2,
 zL 56 55,
 zO 57 (.call 23 [(zT 54), (zT 56)]),
 zM 53 57,
 zO 58 (.ext (zT 53) 0),
 zO 59 (.ext (zT 53) 1),
 zO 14 (.alloc (.agg [(.int .u64 0), (.int .u64 0)])),
 zN (.store 2 (zT 14) (zT 58)),
 zM 12 59]
 (.seq (zA [zM 60 12,
 zO 61 (.bin .neq (zT 60) (zI 0))]
 (.cond (zT 61)
 (zA [zM 62 12,
 zO 6 (.mov (.con .nilS)),
 zM 7 62]
 .ret)
 .skip))
 (.seq (.regd [⟨[⟨zE 63 1 3, false, false, false, 0, [0], none⟩,
 zQ (zE 64 2 13),
 zQ (zE 65 2 14),
 ⟨zO 66 (.lit 2 [(zT 64), (zT 65)]), false, false, true, 0, [], none⟩,
 ⟨zO 67 (.call 25 [(zT 66)]), false, false, false, 1, [], none⟩,
 ⟨zD 68 5 0, true, false, false, 1, [], none⟩,
 ⟨zE 69 2 68, false, false, false, 1, [0], none⟩], 1, [zO 70 (.call 24 [(zT 63), (zT 67), (zT 69)])]⟩,
 ⟨[zP (zO 71 (.ext (zT 70) 0)),
 zP (zO 72 (.ext (zT 70) 1))], 0, [zM 6 71,
 zM 7 72]⟩])
 .ret)))))))))))
def g9 : Fn := ⟨3, 73, [.tmp 6, .tmp 7], b9⟩
def b10 : AC :=
 (zA [zK 2 0,
 zO 4 (.mov (.con .nilS)),
 zO 5 (.mov zF)]
 (zA [zE 12 1 2,
 zM 13 1,
 zO 14 (.call 23 [(zT 12), (zT 13)]),
 zM 11 14,
 zO 15 (.ext (zT 11) 0),
 zO 16 (.ext (zT 11) 1),
 zO 6 (.alloc (.agg [(.int .u64 0), (.int .u64 0)])),
 zN (.store 2 (zT 6) (zT 15)),
 zM 7 16]
 (.seq (zA [zM 17 7,
 zO 18 (.bin .neq (zT 17) (zI 0))]
 (.cond (zT 18)
 (zA [zO 4 (.mov (.con .nilS)),
 zO 5 (.mov zF)]
 .ret)
 .skip))
 (zA [zO 8 (.mov (.con .nilS))]
 (.seq (zA [zE 19 2 6,
 zO 20 (.call 26 [(zT 19)]),
 zH 21 20,
 zC 22 0]
 (.block 0 (.loop (zA [zO 23 (.bin .lss (zT 22) (zT 21))]
 (.seq (.cond (zT 23)
 .skip
 (.exit 0))
 (.seq (.block 1 (zA [zO 24 (.iaddr 1 (zT 20) (zT 22)),
 zL 25 24,
 zM 10 25]
 (.regd [⟨[zB 26 8,
 zP (zD 27 2 0),
 zQ (zL 28 27),
 zB 29 10,
 zP (zO 30 (.iaddr 5 (zT 28) (zT 29))),
 zP (zD 31 30 1),
 zQ (zL 32 31),
 zP (zD 33 2 0),
 zQ (zL 34 33),
 zB 35 10,
 zP (zO 36 (.iaddr 5 (zT 34) (zT 35))),
 zP (zD 37 36 2),
 zP (zD 38 37 2),
 zQ (zL 39 38),
 zP (zO 40 (.build [(.int .u64 0), .nilS] [(0, 1, (zT 32)), (1, 1, (zT 39))])),
 ⟨zO 41 (.lit 2 [(zT 40)]), false, false, true, 0, [], none⟩], 1, [zO 42 (.append 2 32 (zT 26) (zT 41)),
 zM 8 42]⟩])))
 (.reg [zJ 43 22 1,
 zM 22 43])))))))
 (zA [zM 44 8,
 zM 4 44,
 zO 5 (.mov (.con (.bool true)))]
 .ret))))))
def g10 : Fn := ⟨2, 45, [.tmp 4, .tmp 5], b10⟩
def b11 : AC :=
 (zA [zK 5 2,
 zO 6 (.mov (.con .nilS)),
 zC 7 0]
 (.seq (zA [zE 18 4 5,
 zO 19 (.call 20 [(zT 18)]),
 zM 8 19]
 (zA [zM 20 8,
 zO 21 (.bin .neq (zT 20) (zI 0))]
 (.cond (zT 21)
 (zA [zM 22 8,
 zO 6 (.mov (.con .nilS)),
 zM 7 22]
 .ret)
 .skip)))
 (.seq (zA [zM 23 1,
 zO 24 (.call 27 [(zT 23)]),
 zM 9 24]
 (zA [zM 25 9,
 zO 26 (.bin .neq (zT 25) (zI 0))]
 (.cond (zT 26)
 (zA [zM 27 9,
 zO 6 (.mov (.con .nilS)),
 zM 7 27]
 .ret)
 .skip)))
 (.seq (zA [zM 28 0,
 zO 29 (.call 28 [(zT 28), (.con (.fn 29 []))])]
 (.cond (zT 29)
 (zA [zO 6 (.mov (.con .nilS)),
 zC 7 170]
 .ret)
 .skip))
 (zA [zD 30 5 0,
 zD 31 30 0,
 zL 32 31,
 zH 33 32,
 zO 10 (.alloc (.int .i64 0)),
 zN (.store 1 (zT 10) (zT 33))]
 (.seq (.seq (.regd [⟨[zB 34 1,
 zP (zO 35 (.iaddr 1 (zT 34) (zI 0))),
 zQ (zL 36 35),
 zP (zH 37 36),
 zQ (zL 38 10)], 0, [zO 39 (.bin .neq (zT 37) (zT 38)),
 zM 40 39]⟩,
 ⟨[zP (zG 41 40 false (.mov (zT 0))),
 zP (zG 42 40 false (.mkfn 31 [(zT 10)]))], 0, [zG 43 40 false (.call 28 [(zT 41), (zT 42)]),
 zO 44 (.pick (zT 40) (.con (.bool true)) (zT 43))]⟩])
 (.cond (zT 44)
 (zA [zO 6 (.mov (.con .nilS)),
 zC 7 151]
 .ret)
 .skip))
 (zA [zO 45 (.mkmap),
 zO 11 (.alloc .nilM),
 zN (.store 1 (zT 11) (zT 45))]
 (.seq (zA [zE 46 4 5,
 zM 47 1,
 zO 48 (.build [.nilS, (.int .i64 0), (.int .u64 0), (.int .i64 0), .nilS] [(0, 4, (zT 46)), (4, 1, (zT 47))]),
 zO 49 (.call 32 [(zT 48)])]
 (.block 0 (.rangeF (zT 49) [50]
 (.reg [zM 12 50])
 (.block 1 (.reg [zL 51 11,
 zM 52 12,
 zN (.mupd (.one .int) (zT 51) (zT 52) (.con (.bool true)))])))))
 (zA [zO 13 (.mov (.con .nilS))]
 (.seq (zA [zM 53 0,
 zH 54 53,
 zC 55 0]
 (.block 2 (.loop (zA [zO 56 (.bin .lss (zT 55) (zT 54))]
 (.seq (.cond (zT 56)
 .skip
 (.exit 2))
 (.seq (.block 3 (zA [zO 57 (.iaddr 2 (zT 53) (zT 55)),
 zE 58 2 57,
 zO 15 (.alloc (.agg [(.int .u64 0), .nilS])),
 zN (.store 2 (zT 15) (zT 58))]
 (zA [zM 60 1,
 zD 61 15 1,
 zL 62 61,
 zO 63 (.call 18 [(zT 60), (zT 62)]),
 zM 59 63,
 zO 64 (.ext (zT 59) 0),
 zO 65 (.ext (zT 59) 1),
 zM 16 64,
 zM 17 65]
 (zA [zM 66 17,
 zO 67 (.bin .eql (zT 66) (zI 0)),
 zM 68 67,
 zG 69 68 true (.load false 1 (zT 11)),
 zG 70 68 true (.mov (zT 16)),
 zG 71 68 true (.mget false (.one .int) (.bool false) (zT 69) (zT 70)),
 zO 72 (.pick (zT 68) (zT 71) zF)]
 (.cond (zT 72)
 (.reg [zM 73 13,
 zE 74 2 15,
 zO 75 (.lit 2 [(zT 74)]),
 zO 76 (.append 2 32 (zT 73) (zT 75)),
 zM 13 76])
 .skip)))))
 (.reg [zJ 77 55 1,
 zM 55 77])))))))
 (zA [zM 78 13,
 zD 79 5 0,
 zE 80 2 79,
 zO 81 (.call 33 [(zT 78), (zT 80)]),
 zO 82 (.ext (zT 81) 0),
 zO 83 (.ext (zT 81) 1),
 zM 6 82,
 zM 7 83]
 .ret)))))))))))
def g11 : Fn := ⟨3, 84, [.tmp 6, .tmp 7], b11⟩
def b12 : AC :=
 (zA [zO 4 (.mov zF)]
 (zA [zM 5 0,
 zM 6 1,
 zO 7 (.call 34 [(zT 5), (zT 6)]),
 zM 4 7]
 .ret))
def g12 : Fn := ⟨2, 8, [.tmp 4], b12⟩
def b13 : AC :=
 (zA [zO 6 (.mov (.con .nilS)),
 zC 7 0]
 (.seq (zA [zM 14 2,
 zO 15 (.call 35 [(zT 14)]),
 zM 8 15]
 (zA [zM 16 8,
 zO 17 (.bin .neq (zT 16) (zI 0))]
 (.cond (zT 17)
 (zA [zM 18 8,
 zO 6 (.mov (.con .nilS)),
 zM 7 18]
 .ret)
 .skip)))
 (.seq (zA [zM 19 1,
 zO 20 (.call 36 [(zT 19)]),
 zM 9 20]
 (zA [zM 21 9,
 zO 22 (.bin .neq (zT 21) (zI 0))]
 (.cond (zT 22)
 (zA [zM 23 9,
 zO 6 (.mov (.con .nilS)),
 zM 7 23]
 .ret)
 .skip)))
 (.seq (zA [zM 24 0,
 zO 25 (.call 27 [(zT 24)]),
 zM 10 25]
 (zA [zM 26 10,
 zO 27 (.bin .neq (zT 26) (zI 0))]
 (.cond (zT 27)
 (zA [zM 28 10,
 zO 6 (.mov (.con .nilS)),
 zM 7 28]
 .ret)
 .skip)))
 (.seq (zA [zM 29 0,
 zO 30 (.iaddr 1 (zT 29) (zI 0)),
 zL 31 30,
 zH 32 31,
 zM 33 1,
 zH 34 33,
 zO 35 (.bin .neq (zT 32) (zT 34))]
 (.cond (zT 35)
 (zA [zO 6 (.mov (.con .nilS)),
 zC 7 151]
 .ret)
 .skip))
 (zA [zM 36 1,
 zO 37 (.build [.nilS, (.int .i64 0)] [(0, 1, (zT 36))]),
 zM 38 2,
 zO 39 (.build [.nilS, (.int .i64 0), (.int .u64 0), (.int .i64 0)] [(0, 2, (zT 37)), (3, 1, (zT 38))]),
 zM 40 0,
 zO 41 (.build [.nilS, (.int .i64 0), (.int .u64 0), (.int .i64 0), .nilS] [(0, 4, (zT 39)), (4, 1, (zT 40))]),
 zO 11 (.alloc (.agg [.nilS, (.int .i64 0), (.int .u64 0), (.int .i64 0), .nilS])),
 zN (.store 5 (zT 11) (zT 41))]
 (zA [zO 12 (.alloc .nilS)]
 (.seq (zA [zE 42 5 11,
 zO 43 (.call 32 [(zT 42)])]
 (.block 0 (.rangeF (zT 43) [44]
 (.reg [zM 13 44])
 (.block 1 (.reg [zL 45 12,
 zM 46 13,
 zO 47 (.lit 1 [(zT 46)]),
 zO 48 (.append 1 8 (zT 45) (zT 47)),
 zN (.store 1 (zT 12) (zT 48))])))))
 (zA [zL 49 12,
 zM 6 49,
 zC 7 0]
 .ret)))))))))
def g13 : Fn := ⟨3, 50, [.tmp 6, .tmp 7], b13⟩
def b14 : AC :=
 (zA [zO 2 (.mov (.con .nilS))]
 (zA [zO 3 (.lit 1 []),
 zM 4 0,
 zM 5 0,
 zH 6 5,
 zO 7 (.min [(zT 6), (zI 5)]),
 zO 8 (.slice 1 (zT 4) none (some (zT 7))),
 zO 9 (.append 1 4 (zT 3) (zT 8)),
 zM 2 9]
 .ret))
def g14 : Fn := ⟨1, 10, [.tmp 2], b14⟩
def b15 : AC :=
 (zA [zK 1 0,
 zC 2 0]
 (zA [zO 3 (.mov (.con (.fn 37 [])))]
 (.seq (zA [zD 4 1 0,
 zL 5 4,
 zH 6 5,
 zO 7 (.bin .neq (zT 6) (zI 96)),
 zM 8 7,
 zG 9 8 false (.faddr (zT 1) 0),
 zG 10 8 false (.load false 1 (zT 9)),
 zG 11 8 false (.mov (zT 3)),
 zG 12 8 false (.call 39 [(zT 10), (zT 11)]),
 zO 13 (.pick (zT 8) (.con (.bool true)) (zT 12))]
 (.cond (zT 13)
 (zA [zC 2 190]
 .ret)
 .skip))
 (zA [zC 2 0]
 .ret))))
def g15 : Fn := ⟨1, 14, [.tmp 2], b15⟩
def b16 : AC :=
 (zA [zK 1 0,
 zO 2 (.mov zF)]
 (.seq (zA [zL 4 1,
 zH 5 4,
 zO 6 (.bin .gtr (zT 5) (zI 6))]
 (.cond (zT 6)
 (zA [zO 2 (.mov zF)]
 .ret)
 .skip))
 (zA [zO 7 (.mkfn 40 [(zT 1)]),
 zM 3 7]
 (zA [zL 8 1,
 zM 9 3,
 zO 10 (.call 42 [(zT 8), (zT 9)]),
 zO 11 (.un .not (zT 10)),
 zM 2 11]
 .ret))))
def g16 : Fn := ⟨1, 12, [.tmp 2], b16⟩
def b17 : AC :=
 (zA [zO 2 (.mov (.con .nilS))]
 (.seq (zA [zM 3 0,
 zO 4 (.eqN false (zT 3))]
 (.cond (zT 4)
 (zA [zO 2 (.mov (.con .nilS))]
 .ret)
 .skip))
 (zA [zO 5 (.lit 1 []),
 zM 6 0,
 zO 7 (.append 1 24 (zT 5) (zT 6)),
 zM 2 7]
 .ret)))
def g17 : Fn := ⟨1, 8, [.tmp 2], b17⟩
def b18 : AC :=
 (zA [zC 4 0,
 zC 5 0]
 (.seq (zA [zM 11 0,
 zH 12 11,
 zO 13 (.bin .eql (zT 12) (zI 0))]
 (.cond (zT 13)
 (zA [zC 4 0,
 zC 5 4]
 .ret)
 .skip))
 (.seq (zA [zM 14 1,
 zO 15 (.lit 1 [(zT 14)]),
 zM 16 0,
 zO 17 (.append 1 24 (zT 15) (zT 16)),
 zO 18 (.call 43 [(zT 17)]),
 zM 6 18]
 (zA [zM 19 6,
 zO 20 (.bin .neq (zT 19) (zI 0))]
 (.cond (zT 20)
 (zA [zM 21 6,
 zC 4 0,
 zM 5 21]
 .ret)
 .skip)))
 (zA [zM 22 0,
 zO 23 (.iaddr 1 (zT 22) (zI 0)),
 zL 24 23,
 zM 25 1,
 zO 26 (.call 44 [(zT 24), (zT 25)]),
 zO 27 (.build [(.int .u64 0), (.int .u64 0)] [(1, 1, (zT 26))]),
 zO 7 (.alloc (.agg [(.int .u64 0), (.int .u64 0)])),
 zN (.store 2 (zT 7) (zT 27))]
 (.seq (zA [zM 28 0,
 zH 29 28,
 zC 30 0]
 (.block 0 (.loop (zA [zO 31 (.bin .lss (zT 30) (zT 29))]
 (.seq (.cond (zT 31)
 .skip
 (.exit 0))
 (.seq (.block 1 (zA [zM 32 30,
 zO 33 (.iaddr 1 (zT 28) (zT 30)),
 zL 34 33,
 zM 8 32,
 zM 9 34]
 (zA [zM 35 8,
 zO 36 (.conv .u64 (zT 35)),
 zM 37 9,
 zM 38 1,
 zO 39 (.call 44 [(zT 37), (zT 38)]),
 zO 40 (.build [(.int .u64 0), (.int .u64 0)] [(0, 1, (zT 36)), (1, 1, (zT 39))]),
 zO 10 (.alloc (.agg [(.int .u64 0), (.int .u64 0)])),
 zN (.store 2 (zT 10) (zT 40))]
 (zA [zE 41 2 10,
 zE 42 2 7,
 zO 43 (.call 45 [(zT 41), (zT 42)]),
 zO 44 (.bin .lss (zT 43) (zI 0))]
 (.cond (zT 44)
 (.reg [zE 45 2 10,
 zN (.store 2 (zT 7) (zT 45))])
 .skip)))))
 (.reg [zJ 46 30 1,
 zM 30 46])))))))
 (zA [zD 47 7 0,
 zL 48 47,
 zO 49 (.conv .i64 (zT 48)),
 zM 4 49,
 zC 5 0]
 .ret))))))
def g18 : Fn := ⟨2, 50, [.tmp 4, .tmp 5], b18⟩
def b19 : AC :=
 (zA [zK 3 0,
 zK 4 1,
 zK 5 2,
 zO 6 (.alloc (.agg [.nilS, .nilS]))]
 (zA [zE 7 2 3,
 zO 8 (.mkfn 47 [(zT 4), (zT 5)]),
 zO 9 (.call 46 [(zT 7), (zT 8)]),
 zN (.store 2 (zT 6) (zT 9))]
 .ret))
def g19 : Fn := ⟨3, 10, [.cell 6 true 2], b19⟩
def b20 : AC :=
 (zA [zK 1 0,
 zC 2 0]
 (.seq (zA [zD 4 1 0,
 zD 5 4 1,
 zL 6 5,
 zO 7 (.bin .lss (zT 6) (zI 1)),
 zM 8 7,
 zG 9 8 false (.faddr (zT 1) 0),
 zG 10 8 false (.faddr (zT 9) 1),
 zG 11 8 false (.load false 1 (zT 10)),
 zG 12 8 false (.bin .gtr (zT 11) (zI 16)),
 zO 13 (.pick (zT 8) (.con (.bool true)) (zT 12))]
 (.cond (zT 13)
 (zA [zC 2 2]
 .ret)
 .skip))
 (.seq (zA [zD 14 1 3,
 zL 15 14,
 zO 16 (.call 35 [(zT 15)]),
 zM 3 16]
 (zA [zM 17 3,
 zO 18 (.bin .neq (zT 17) (zI 0))]
 (.cond (zT 18)
 (zA [zM 19 3,
 zM 2 19]
 .ret)
 .skip)))
 (zA [zD 20 1 0,
 zE 21 2 20,
 zO 22 (.call 49 [(zT 21)]),
 zM 2 22]
 .ret))))
def g20 : Fn := ⟨1, 23, [.tmp 2], b20⟩
def b21 : AC :=
 (zA [zK 1 0,
 zC 2 0]
 (.seq (zA [zD 6 1 0,
 zL 7 6,
 zO 8 (.call 16 [(zT 7)]),
 zO 9 (.un .not (zT 8)),
 zM 10 9,
 zG 11 10 false (.faddr (zT 1) 1),
 zG 12 10 false (.load false 1 (zT 11)),
 zG 13 10 false (.len (zT 12)),
 zG 14 10 false (.faddr (zT 1) 0),
 zG 15 10 false (.load false 1 (zT 14)),
 zG 16 10 false (.len (zT 15)),
 zG 17 10 false (.bin .neq (zT 13) (zT 16)),
 zO 18 (.pick (zT 10) (.con (.bool true)) (zT 17))]
 (.cond (zT 18)
 (zA [zC 2 230]
 .ret)
 .skip))
 (.seq (zA [zD 19 1 1,
 zL 20 19,
 zH 21 20,
 zC 22 0]
 (.block 0 (.loop (zA [zO 23 (.bin .lss (zT 22) (zT 21))]
 (.seq (.cond (zT 23)
 .skip
 (.exit 0))
 (.seq (.block 1 (zA [zM 24 22,
 zO 25 (.iaddr 2 (zT 20) (zT 22)),
 zE 26 2 25,
 zO 4 (.alloc (.agg [(.int .u64 0), (.int .u64 0)])),
 zM 3 24,
 zN (.store 2 (zT 4) (zT 26))]
 (.seq (.regd [⟨[⟨zE 27 2 4, false, false, false, 0, [1], none⟩,
 zP (zD 28 1 1),
 ⟨zL 29 28, false, false, false, 0, [1], none⟩,
 zB 30 3,
 zP (zO 31 (.slice 2 (zT 29) none (some (zT 30)))),
 ⟨zO 32 (.call 50 [(zT 31)]), false, false, false, 0, [1], none⟩,
 ⟨zO 33 (.lit 2 [(zT 27), (zT 32)]), false, false, true, 0, [1], none⟩,
 ⟨zO 34 (.call 25 [(zT 33)]), false, false, false, 1, [1], none⟩,
 ⟨zO 5 (.alloc (.agg [(.int .u64 0), (.int .u64 0)])), false, false, true, 1, [0], none⟩], 2, [zN (.store 2 (zT 5) (zT 34))]⟩])
 (zA [zE 35 2 4,
 zO 36 (.call 51 [(zT 35)]),
 zO 37 (.bin .neq (zT 36) (zI 0)),
 zM 38 37,
 zG 39 38 false (.load true 2 (zT 5)),
 zG 40 38 false (.call 52 [(zT 39)]),
 zG 41 38 false (.bin .gtr (zT 40) (zI 0)),
 zO 42 (.pick (zT 38) (.con (.bool true)) (zT 41))]
 (.cond (zT 42)
 (zA [zC 2 230]
 .ret)
 .skip)))))
 (.reg [zJ 43 22 1,
 zM 22 43])))))))
 (zA [zC 2 0]
 .ret))))
def g21 : Fn := ⟨1, 44, [.tmp 2], b21⟩
def b22 : AC :=
 (zA [zK 2 0,
 zO 4 (.alloc (.agg [(.int .u64 0), (.int .u64 0)])),
 zC 5 0]
 (.seq (zA [zE 10 2 2,
 zO 11 (.call 21 [(zT 10)]),
 zM 6 11]
 (zA [zM 12 6,
 zO 13 (.bin .neq (zT 12) (zI 0))]
 (.cond (zT 13)
 (zA [zO 14 (.build [(.int .u64 0), (.int .u64 0)] []),
 zM 15 6,
 zN (.store 2 (zT 4) (zT 14)),
 zM 5 15]
 .ret)
 .skip)))
 (zA [zO 7 (.mov (.con .nilS))]
 (.seq (zA [zM 16 1,
 zH 17 16,
 zC 18 0]
 (.block 0 (.loop (zA [zO 19 (.bin .lss (zT 18) (zT 17))]
 (.seq (.cond (zT 19)
 .skip
 (.exit 0))
 (.seq (.block 1 (zA [zO 20 (.iaddr 1 (zT 16) (zT 18)),
 zL 21 20,
 zM 9 21]
 (.seq (zA [zM 22 9,
 zO 23 (.bin .lss (zT 22) (zI 0)),
 zM 24 23,
 zG 25 24 false (.mov (zT 9)),
 zG 26 24 false (.faddr (zT 2) 1),
 zG 27 24 false (.load false 1 (zT 26)),
 zG 28 24 false (.len (zT 27)),
 zG 29 24 false (.bin .geq (zT 25) (zT 28)),
 zO 30 (.pick (zT 24) (.con (.bool true)) (zT 29))]
 (.cond (zT 30)
 (zA [zO 31 (.build [(.int .u64 0), (.int .u64 0)] []),
 zN (.store 2 (zT 4) (zT 31)),
 zC 5 2]
 .ret)
 .skip))
 (.reg [zM 32 7,
 zD 33 2 1,
 zL 34 33,
 zM 35 9,
 zO 36 (.iaddr 2 (zT 34) (zT 35)),
 zE 37 2 36,
 zO 38 (.lit 2 [(zT 37)]),
 zO 39 (.append 2 16 (zT 32) (zT 38)),
 zM 7 39]))))
 (.reg [zJ 40 18 1,
 zM 18 40])))))))
 (zA [zM 41 7,
 zO 42 (.call 50 [(zT 41)]),
 zN (.store 2 (zT 4) (zT 42)),
 zC 5 0]
 .ret)))))
def g22 : Fn := ⟨2, 43, [.cell 4 true 2, .tmp 5], b22⟩
def b23 : AC :=
 (zA [zK 2 0,
 zO 4 (.alloc (.agg [(.int .u64 0), (.int .u64 0)])),
 zC 5 0]
 (.seq (zA [zE 11 1 2,
 zO 12 (.call 15 [(zT 11)]),
 zM 6 12]
 (zA [zM 13 6,
 zO 14 (.bin .neq (zT 13) (zI 0))]
 (.cond (zT 14)
 (zA [zO 15 (.build [(.int .u64 0), (.int .u64 0)] []),
 zM 16 6,
 zN (.store 2 (zT 4) (zT 15)),
 zM 5 16]
 .ret)
 .skip)))
 (zA [zO 7 (.alloc (.agg [(.int .u64 0), (.int .u64 0)]))]
 (.seq (zA [zD 17 2 0,
 zL 18 17,
 zH 19 18,
 zC 20 0]
 (.block 0 (.loop (zA [zO 21 (.bin .lss (zT 20) (zT 19))]
 (.seq (.cond (zT 21)
 .skip
 (.exit 0))
 (.seq (.block 1 (zA [zM 22 20,
 zO 23 (.iaddr 5 (zT 18) (zT 20)),
 zE 24 5 23,
 zO 9 (.alloc (.agg [(.bool false), (.int .u64 0), (.int .u64 0), (.int .u64 0), .nilS])),
 zM 8 22,
 zN (.store 5 (zT 9) (zT 24))]
 (zA [zD 25 9 2,
 zE 26 3 25,
 zO 10 (.alloc (.agg [(.int .u64 0), (.int .u64 0), .nilS])),
 zN (.store 3 (zT 10) (zT 26))]
 (zA [zD 27 9 0,
 zL 28 27,
 zM 29 28,
 zG 30 29 true (.faddr (zT 10) 0),
 zG 31 29 true (.load false 1 (zT 30)),
 zG 32 29 true (.mov (zT 1)),
 zG 33 29 true (.bin .leq (zT 31) (zT 32)),
 zO 34 (.pick (zT 29) (zT 33) zF),
 zM 35 34,
 zG 36 35 true (.faddr (zT 10) 1),
 zG 37 35 true (.load false 1 (zT 36)),
 zG 38 35 true (.bin .eql (zT 37) (.con (.int .u64 0))),
 zG 39 35 true (.mov (zT 38)),
 zG 40 39 false (.mov (zT 1)),
 zG 41 39 false (.faddr (zT 10) 1),
 zG 42 39 false (.load false 1 (zT 41)),
 zG 43 39 false (.bin .lss (zT 40) (zT 42)),
 zG 44 35 true (.pick (zT 39) (.con (.bool true)) (zT 43)),
 zO 45 (.pick (zT 35) (zT 44) zF)]
 (.cond (zT 45)
 (.reg [zE 47 2 7,
 zM 48 8,
 zO 49 (.call 48 [(zT 47), (zT 48)]),
 zM 46 49,
 zO 50 (.ext (zT 46) 0),
 zO 51 (.ext (zT 46) 1),
 zN (.store 2 (zT 7) (zT 50))])
 .skip)))))
 (.reg [zJ 52 20 1,
 zM 20 52])))))))
 (zA [zE 53 2 7,
 zN (.store 2 (zT 4) (zT 53)),
 zC 5 0]
 .ret)))))
def g23 : Fn := ⟨2, 54, [.cell 4 true 2, .tmp 5], b23⟩
def b24 : AC :=
 (zA [zK 3 0,
 zK 4 1,
 zK 5 2,
 zO 6 (.mov (.con .nilS)),
 zC 7 0]
 (.seq (zA [zE 11 2 5,
 zO 12 (.call 49 [(zT 11)]),
 zM 8 12]
 (zA [zM 13 8,
 zO 14 (.bin .neq (zT 13) (zI 0))]
 (.cond (zT 14)
 (zA [zM 15 8,
 zO 6 (.mov (.con .nilS)),
 zM 7 15]
 .ret)
 .skip)))
 (.seq (zA [zE 16 1 3,
 zO 17 (.call 15 [(zT 16)]),
 zM 9 17]
 (zA [zM 18 9,
 zO 19 (.bin .neq (zT 18) (zI 0))]
 (.cond (zT 19)
 (zA [zM 20 9,
 zO 6 (.mov (.con .nilS)),
 zM 7 20]
 .ret)
 .skip)))
 (zA [zE 21 2 5,
 zO 22 (.build [.nilS, (.int .i64 0)] [(0, 2, (zT 21))]),
 zO 10 (.alloc (.agg [.nilS, (.int .i64 0)])),
 zN (.store 2 (zT 10) (zT 22))]
 (zA [zE 23 2 10,
 zO 24 (.mkfn 54 [(zT 3), (zT 4)]),
 zE 25 2 10,
 zO 26 (.mkbnd 58 [(zT 25)]),
 zO 27 (.call 53 [(zT 23), (zT 24), (zT 26)]),
 zO 28 (.ext (zT 27) 0),
 zO 29 (.ext (zT 27) 1),
 zM 6 28,
 zM 7 29]
 .ret)))))
def g24 : Fn := ⟨3, 30, [.tmp 6, .tmp 7], b24⟩
def b25 : AC :=
 (zA [zO 2 (.alloc (.agg [(.int .u64 0), (.int .u64 0)]))]
 (zA [zO 6 (.call 59 []),
 zO 3 (.alloc (.agg [(.int .u64 0), (.int .u64 0)])),
 zN (.store 2 (zT 3) (zT 6))]
 (.seq (zA [zM 7 0,
 zH 8 7,
 zC 9 0]
 (.block 0 (.loop (zA [zO 10 (.bin .lss (zT 9) (zT 8))]
 (.seq (.cond (zT 10)
 .skip
 (.exit 0))
 (.seq (.block 1 (zA [zO 11 (.iaddr 2 (zT 7) (zT 9)),
 zE 12 2 11,
 zO 5 (.alloc (.agg [(.int .u64 0), (.int .u64 0)])),
 zN (.store 2 (zT 5) (zT 12))]
 (.reg [zE 13 2 3,
 zE 14 2 5,
 zO 15 (.call 60 [(zT 13), (zT 14)]),
 zN (.store 2 (zT 3) (zT 15))])))
 (.reg [zJ 16 9 1,
 zM 9 16])))))))
 (zA [zE 17 2 3,
 zN (.store 2 (zT 2) (zT 17))]
 .ret))))
def g25 : Fn := ⟨1, 18, [.cell 2 true 2], b25⟩
def b26 : AC :=
 (zA [zK 1 0,
 zO 2 (.mov (.con .nilS))]
 (zA [zO 3 (.alloc .nilS)]
 (.seq (zA [zE 5 2 1,
 zO 6 (.call 61 [(zT 5)])]
 (.block 0 (.rangeF (zT 6) [7]
 (.reg [zM 4 7])
 (.block 1 (.reg [zL 8 3,
 zM 9 4,
 zO 10 (.lit 1 [(zT 9)]),
 zO 11 (.append 1 8 (zT 8) (zT 10)),
 zN (.store 1 (zT 3) (zT 11))])))))
 (zA [zL 12 3,
 zM 2 12]
 .ret))))
def g26 : Fn := ⟨1, 13, [.tmp 2], b26⟩
def b27 : AC :=
 (zA [zC 2 0]
 (.seq (zA [zM 3 0,
 zH 4 3,
 zO 5 (.bin .eql (zT 4) (zI 0))]
 (.cond (zT 5)
 (zA [zC 2 240]
 .ret)
 .skip))
 (zA [zM 6 0,
 zM 7 0,
 zH 8 7,
 zO 9 (.mksl 2 16 (.agg [(.int .u64 0), (.int .u64 0)]) (zT 8)),
 zO 10 (.build [.nilS, .nilS] [(0, 1, (zT 6)), (1, 1, (zT 9))]),
 zO 11 (.call 21 [(zT 10)]),
 zM 2 11]
 .ret)))
def g27 : Fn := ⟨1, 12, [.tmp 2], b27⟩
def b28 : AC :=
 (zA [zO 4 (.mov zF)]
 (zA [zM 5 0,
 zM 6 1,
 zO 7 (.call 62 [(zT 5), (zT 6)]),
 zO 8 (.bin .geq (zT 7) (zI 0)),
 zM 4 8]
 .ret))
def g28 : Fn := ⟨2, 9, [.tmp 4], b28⟩
def b29 : AC :=
 (zA [zK 1 0,
 zO 2 (.mov zF)]
 (zA [zE 3 2 1,
 zO 4 (.call 30 [(zT 3)]),
 zO 5 (.bin .neq (zT 4) (zI 0)),
 zM 2 5]
 .ret))
def g29 : Fn := ⟨1, 6, [.tmp 2], b29⟩
def b30 : AC :=
 (zA [zK 1 0,
 zC 2 0]
 (.seq (zA [zD 3 1 1,
 zL 4 3,
 zO 5 (.call 36 [(zT 4)]),
 zO 6 (.bin .neq (zT 5) (zI 0))]
 (.cond (zT 6)
 (zA [zC 2 170]
 .ret)
 .skip))
 (zA [zC 2 0]
 .ret)))
def g30 : Fn := ⟨1, 7, [.tmp 2], b30⟩
def b31 : AC :=
 (zA [zK 2 0,
 zO 3 (.mov zF)]
 (zA [zD 4 2 1,
 zL 5 4,
 zH 6 5,
 zL 7 1,
 zO 8 (.bin .neq (zT 6) (zT 7)),
 zM 3 8]
 .ret))
def g31 : Fn := ⟨2, 9, [.tmp 3], b31⟩
def b32 : AC :=
 (zA [zK 1 0,
 zO 2 (.mov (.con .nilF))]
 (zA [zD 8 1 4,
 zL 9 8,
 zH 10 9,
 zO 11 (.mksl 2 16 (.agg [(.int .u64 0), (.int .u64 0)]) (zT 10)),
 zO 3 (.alloc .nilS),
 zN (.store 1 (zT 3) (zT 11))]
 (.seq (zA [zD 12 1 4,
 zL 13 12,
 zH 14 13,
 zC 15 0]
 (.block 0 (.loop (zA [zO 16 (.bin .lss (zT 15) (zT 14))]
 (.seq (.cond (zT 16)
 .skip
 (.exit 0))
 (.seq (.block 1 (zA [zM 17 15,
 zO 18 (.iaddr 1 (zT 13) (zT 15)),
 zL 19 18,
 zM 4 17,
 zM 5 19]
 (zA [zM 21 5,
 zD 22 1 0,
 zD 23 22 0,
 zD 24 23 0,
 zL 25 24,
 zO 26 (.call 63 [(zT 21), (zT 25)]),
 zM 20 26,
 zO 27 (.ext (zT 20) 0),
 zO 28 (.ext (zT 20) 1),
 zM 6 27,
 zM 7 28]
 (.reg [zL 29 3,
 zM 30 4,
 zM 31 4,
 zO 32 (.conv .u64 (zT 31)),
 zM 33 6,
 zO 34 (.build [(.int .u64 0), (.int .u64 0)] [(0, 1, (zT 32)), (1, 1, (zT 33))]),
 zO 35 (.iaddr 2 (zT 29) (zT 30)),
 zN (.store 2 (zT 35) (zT 34))]))))
 (.reg [zJ 36 15 1,
 zM 15 36])))))))
 (zA [zL 37 3,
 zO 38 (.call 64 [(zT 37), (.con (.fn 65 []))])]
 (zA [zO 39 (.mkfn 68 [(zT 3), (zT 1)]),
 zM 2 39]
 .ret)))))
def g32 : Fn := ⟨1, 40, [.tmp 2], b32⟩
def b33 : AC :=
 (zA [zK 2 0,
 zK 3 1,
 zO 4 (.mov (.con .nilS)),
 zC 5 0]
 (.seq (zA [zE 11 2 3,
 zO 12 (.call 49 [(zT 11)]),
 zM 6 12]
 (zA [zM 13 6,
 zO 14 (.bin .neq (zT 13) (zI 0))]
 (.cond (zT 14)
 (zA [zM 15 6,
 zO 4 (.mov (.con .nilS)),
 zM 5 15]
 .ret)
 .skip)))
 (.seq (zA [zL 16 2,
 zH 17 16,
 zC 18 0]
 (.block 0 (.loop (zA [zO 19 (.bin .lss (zT 18) (zT 17))]
 (.seq (.cond (zT 19)
 .skip
 (.exit 0))
 (.seq (.block 1 (zA [zO 20 (.iaddr 2 (zT 16) (zT 18)),
 zE 21 2 20,
 zO 8 (.alloc (.agg [(.int .u64 0), .nilS])),
 zN (.store 2 (zT 8) (zT 21))]
 (zA [zE 22 2 8,
 zO 23 (.call 30 [(zT 22)]),
 zM 9 23]
 (zA [zM 24 9,
 zO 25 (.bin .neq (zT 24) (zI 0))]
 (.cond (zT 25)
 (zA [zM 26 9,
 zO 4 (.mov (.con .nilS)),
 zM 5 26]
 .ret)
 .skip)))))
 (.reg [zJ 27 18 1,
 zM 18 27])))))))
 (.seq (zA [zL 28 2,
 zH 29 28,
 zO 30 (.bin .gtr (zT 29) (zI 2000))]
 (.cond (zT 30)
 (zA [zO 4 (.mov (.con .nilS)),
 zC 5 3]
 .ret)
 .skip))
 (zA [zE 31 2 3,
 zO 32 (.build [.nilS, (.int .i64 0)] [(0, 2, (zT 31))]),
 zO 10 (.alloc (.agg [.nilS, (.int .i64 0)])),
 zN (.store 2 (zT 10) (zT 32))]
 (zA [zE 33 2 10,
 zO 34 (.mkfn 69 [(zT 2)]),
 zE 35 2 10,
 zO 36 (.mkbnd 58 [(zT 35)]),
 zO 37 (.call 53 [(zT 33), (zT 34), (zT 36)]),
 zO 38 (.ext (zT 37) 0),
 zO 39 (.ext (zT 37) 1),
 zM 4 38,
 zM 5 39]
 .ret))))))
def g33 : Fn := ⟨2, 40, [.tmp 4, .tmp 5], b33⟩
def b34 : AC :=
 (zA [zO 4 (.mov zF)]
 (.seq (zA [zM 6 0,
 zH 7 6,
 zM 8 1,
 zH 9 8,
 zO 10 (.bin .neq (zT 7) (zT 9))]
 (.cond (zT 10)
 (zA [zO 4 (.mov zF)]
 .ret)
 .skip))
 (.seq (zA [zM 11 0,
 zH 12 11,
 zC 13 0]
 (.block 0 (.loop (zA [zO 14 (.bin .lss (zT 13) (zT 12))]
 (.seq (.cond (zT 14)
 .skip
 (.exit 0))
 (.seq (.block 1 (zA [zM 15 13,
 zM 5 15]
 (.seq (.regd [⟨[zB 16 0,
 zB 17 5,
 zP (zO 18 (.iaddr 2 (zT 16) (zT 17))),
 zQ (zE 19 2 18),
 zB 20 1,
 zB 21 5,
 zP (zO 22 (.iaddr 2 (zT 20) (zT 21))),
 zQ (zE 23 2 22)], 0, [zO 24 (.eqA true [.int, .int] (zT 19) (zT 23))]⟩])
 (.cond (zT 24)
 (zA [zO 4 (.mov zF)]
 .ret)
 .skip))))
 (.reg [zJ 25 13 1,
 zM 13 25])))))))
 (zA [zO 4 (.mov (.con (.bool true)))]
 .ret))))
def g34 : Fn := ⟨2, 26, [.tmp 4], b34⟩
def b35 : AC :=
 (zA [zC 2 0]
 (.seq (zA [zM 3 0,
 zO 4 (.bin .lss (zT 3) (zI 1)),
 zM 5 4,
 zG 6 5 false (.mov (zT 0)),
 zG 7 5 false (.bin .gtr (zT 6) (zI 1048576)),
 zO 8 (.pick (zT 5) (.con (.bool true)) (zT 7))]
 (.cond (zT 8)
 (zA [zC 2 2]
 .ret)
 .skip))
 (zA [zC 2 0]
 .ret)))
def g35 : Fn := ⟨1, 9, [.tmp 2], b35⟩
def b36 : AC :=
 (zA [zC 2 0]
 (zA [zO 3 (.mov (.con (.fn 70 [])))]
 (.seq (zA [zM 4 0,
 zH 5 4,
 zO 6 (.bin .lss (zT 5) (zI 1)),
 zM 7 6,
 zG 8 7 false (.mov (zT 0)),
 zG 9 7 false (.len (zT 8)),
 zG 10 7 false (.bin .gtr (zT 9) (zI 4)),
 zO 11 (.pick (zT 7) (.con (.bool true)) (zT 10)),
 zM 12 11,
 zG 13 12 false (.mov (zT 0)),
 zG 14 12 false (.mov (zT 3)),
 zG 15 12 false (.call 71 [(zT 13), (zT 14)]),
 zO 16 (.pick (zT 12) (.con (.bool true)) (zT 15))]
 (.cond (zT 16)
 (zA [zC 2 150]
 .ret)
 .skip))
 (zA [zC 2 0]
 .ret))))
def g36 : Fn := ⟨1, 17, [.tmp 2], b36⟩
def b37 : AC :=
 (zA [zK 1 0,
 zO 2 (.mov zF)]
 (zA [zE 3 5 1,
 zO 4 (.call 38 [(zT 3)]),
 zO 5 (.un .not (zT 4)),
 zM 2 5]
 .ret))
def g37 : Fn := ⟨1, 6, [.tmp 2], b37⟩
def b38 : AC :=
 (zA [zK 1 0,
 zO 2 (.mov zF)]
 (.seq (zA [zD 3 1 0,
 zL 4 3,
 zO 5 (.un .not (zT 4))]
 (.cond (zT 5)
 (zA [zD 6 1 1,
 zL 7 6,
 zO 8 (.bin .eql (zT 7) (.con (.int .u64 0))),
 zM 9 8,
 zG 10 9 true (.faddr (zT 1) 2),
 zG 11 9 true (.load true 3 (zT 10)),
 zG 12 9 true (.build [(.int .u64 0), (.int .u64 0), .nilS] []),
 zG 13 9 true (.call 72 [(zT 11), (zT 12)]),
 zO 14 (.pick (zT 9) (zT 13) zF),
 zM 2 14]
 .ret)
 .skip))
 (zA [zD 15 1 2,
 zE 16 3 15,
 zO 17 (.call 73 [(zT 16)]),
 zO 18 (.bin .eql (zT 17) (zI 0)),
 zM 2 18]
 .ret)))
def g38 : Fn := ⟨1, 19, [.tmp 2], b38⟩
def b39 : AC :=
 (zA [zO 4 (.mov zF)]
 (zA [zM 5 0,
 zM 6 1,
 zO 7 (.call 74 [(zT 5), (zT 6)]),
 zO 8 (.bin .geq (zT 7) (zI 0)),
 zM 4 8]
 .ret))
def g39 : Fn := ⟨2, 9, [.tmp 4], b39⟩
def b40 : AC :=
 (zA [zO 3 (.mov zF)]
 (zA [zM 4 0,
 zL 5 1,
 zO 6 (.iaddr 1 (zT 5) (zI 0)),
 zL 7 6,
 zH 8 7,
 zO 9 (.call 41 [(zT 4), (zT 8)]),
 zO 10 (.bin .neq (zT 9) (zI 0)),
 zM 3 10]
 .ret))
def g40 : Fn := ⟨2, 11, [.tmp 3], b40⟩
def b41 : AC :=
 (zA [zC 4 0]
 (.seq (zA [zM 6 0,
 zO 7 (.call 36 [(zT 6)]),
 zM 5 7]
 (zA [zM 8 5,
 zO 9 (.bin .neq (zT 8) (zI 0))]
 (.cond (zT 9)
 (zA [zM 10 5,
 zM 4 10]
 .ret)
 .skip)))
 (.seq (zA [zM 11 0,
 zH 12 11,
 zM 13 1,
 zO 14 (.bin .neq (zT 12) (zT 13))]
 (.cond (zT 14)
 (zA [zC 4 151]
 .ret)
 .skip))
 (zA [zC 4 0]
 .ret))))
def g41 : Fn := ⟨2, 15, [.tmp 4], b41⟩
def b42 : AC :=
 (zA [zO 4 (.mov zF)]
 (zA [zM 5 0,
 zM 6 1,
 zO 7 (.call 75 [(zT 5), (zT 6)]),
 zO 8 (.bin .geq (zT 7) (zI 0)),
 zM 4 8]
 .ret))
def g42 : Fn := ⟨2, 9, [.tmp 4], b42⟩
def b43 : AC :=
 (zA [zK 1 0,
 zC 2 0]
 (.seq (zA [zL 7 1,
 zH 8 7,
 zC 9 0]
 (.block 0 (.loop (zA [zO 10 (.bin .lss (zT 9) (zT 8))]
 (.seq (.cond (zT 10)
 .skip
 (.exit 0))
 (.seq (.block 1 (zA [zO 11 (.iaddr 1 (zT 7) (zT 9)),
 zL 12 11,
 zM 4 12]
 (zA [zM 13 4,
 zO 14 (.call 36 [(zT 13)]),
 zM 5 14]
 (zA [zM 15 5,
 zO 16 (.bin .neq (zT 15) (zI 0))]
 (.cond (zT 16)
 (zA [zM 17 5,
 zM 2 17]
 .ret)
 .skip)))))
 (.reg [zJ 18 9 1,
 zM 9 18])))))))
 (zA [zO 19 (.mkfn 76 [(zT 1)]),
 zM 6 19]
 (.seq (zA [zL 20 1,
 zM 21 6,
 zO 22 (.call 42 [(zT 20), (zT 21)])]
 (.cond (zT 22)
 (zA [zC 2 151]
 .ret)
 .skip))
 (zA [zC 2 0]
 .ret)))))
def g43 : Fn := ⟨1, 23, [.tmp 2], b43⟩
def b44 : AC :=
 (zA [zO 4 (.mov (.con (.int .u64 0)))]
 (zA [zO 5 (.alloc (.int .u64 0)),
 zN (.store 1 (zT 5) (.con (.int .u64 0)))]
 (.seq (zA [zM 9 0,
 zM 10 1,
 zO 11 (.call 77 [(zT 9), (zT 10)])]
 (.block 0 (.rangeF (zT 11) [12, 13]
 (zA [zM 6 12]
 (.reg [zM 7 13]))
 (.block 1 (zA [zM 14 6,
 zM 15 7,
 zO 16 (.bin .sub (zT 14) (zT 15)),
 zM 17 7,
 zM 18 6,
 zO 19 (.bin .sub (zT 17) (zT 18)),
 zO 20 (.max [(zT 16), (zT 19)]),
 zO 21 (.conv .u64 (zT 20)),
 zM 8 21]
 (.reg [zL 22 5,
 zM 23 8,
 zM 24 8,
 zO 25 (.bin .mul (zT 23) (zT 24)),
 zO 26 (.bin .add (zT 22) (zT 25)),
 zN (.store 1 (zT 5) (zT 26))]))))))
 (zA [zL 27 5,
 zM 4 27]
 .ret))))
def g44 : Fn := ⟨2, 28, [.tmp 4], b44⟩
def b45 : AC :=
 (zA [zK 2 0,
 zK 3 1,
 zC 4 0]
 (.seq (.regd [⟨[zP (zD 5 2 1),
 zQ (zL 6 5),
 zP (zD 7 3 1),
 zQ (zL 8 7),
 zQ (zO 9 (.call 67 [(zT 6), (zT 8)])),
 zP (zD 10 2 0),
 zQ (zL 11 10),
 zP (zD 12 3 0),
 zQ (zL 13 12)], 0, [zO 14 (.call 67 [(zT 11), (zT 13)]),
 zO 15 (.lit 1 [(zT 9), (zT 14)]),
 zO 16 (.call 66 [(zT 15)]),
 zM 4 16]⟩])
 .ret))
def g45 : Fn := ⟨2, 17, [.tmp 4], b45⟩
def b46 : AC :=
 (zA [zK 2 0,
 zO 4 (.alloc (.agg [.nilS, .nilS]))]
 (zA [zD 8 2 0,
 zL 9 8,
 zO 10 (.call 17 [(zT 9)]),
 zO 11 (.build [.nilS, .nilS] [(0, 1, (zT 10))]),
 zO 5 (.alloc (.agg [.nilS, .nilS])),
 zN (.store 2 (zT 5) (zT 11))]
 (.seq (zA [zD 12 2 1,
 zL 13 12,
 zH 14 13,
 zC 15 0]
 (.block 0 (.loop (zA [zO 16 (.bin .lss (zT 15) (zT 14))]
 (.seq (.cond (zT 16)
 .skip
 (.exit 0))
 (.seq (.block 1 (zA [zM 17 15,
 zO 18 (.iaddr 2 (zT 13) (zT 15)),
 zE 19 2 18,
 zO 7 (.alloc (.agg [(.int .u64 0), (.int .u64 0)])),
 zM 6 17,
 zN (.store 2 (zT 7) (zT 19))]
 (.regd [⟨[zP (zD 20 5 1),
 ⟨zL 21 20, false, false, false, 0, [0], none⟩,
 zB 22 1,
 zB 23 6,
 zQ (zE 24 2 7),
 zQ (zO 25 (.callv (zT 22) [(zT 23), (zT 24)])),
 ⟨zO 26 (.lit 2 [(zT 25)]), false, false, true, 0, [], none⟩], 1, [zO 27 (.append 2 16 (zT 21) (zT 26)),
 zD 28 5 1,
 zN (.store 1 (zT 28) (zT 27))]⟩])))
 (.reg [zJ 29 15 1,
 zM 15 29])))))))
 (zA [zE 30 2 5,
 zN (.store 2 (zT 4) (zT 30))]
 .ret))))
def g46 : Fn := ⟨2, 31, [.cell 4 true 2], b46⟩
def b47 : AC :=
 (zA [zK 5 1,
 zO 6 (.alloc (.agg [(.int .u64 0), (.int .u64 0)]))]
 (.seq (zA [zM 7 0,
 zL 8 2,
 zO 9 (.bin .eql (zT 7) (zT 8))]
 (.cond (zT 9)
 (.reg [zE 11 2 5,
 zL 12 3,
 zO 13 (.call 48 [(zT 11), (zT 12)]),
 zM 10 13,
 zO 14 (.ext (zT 10) 0),
 zO 15 (.ext (zT 10) 1),
 zN (.store 2 (zT 5) (zT 14))])
 .skip))
 (zA [zE 16 2 5,
 zN (.store 2 (zT 6) (zT 16))]
 .ret)))
def g47 : Fn := ⟨4, 17, [.cell 6 true 2], b47⟩
def b48 : AC :=
 (zA [zK 2 0,
 zO 4 (.alloc (.agg [(.int .u64 0), (.int .u64 0)])),
 zC 5 0]
 (zA [zE 6 2 2,
 zM 7 1,
 zO 8 (.call 78 [(zT 6), (zT 7), (.con (.fn 79 []))]),
 zO 9 (.ext (zT 8) 0),
 zO 10 (.ext (zT 8) 1),
 zN (.store 2 (zT 4) (zT 9)),
 zM 5 10]
 .ret))
def g48 : Fn := ⟨2, 11, [.cell 4 true 2, .tmp 5], b48⟩
def b49 : AC :=
 (zA [zK 1 0,
 zC 2 0]
 (.seq (zA [zD 3 1 1,
 zL 4 3,
 zO 5 (.bin .lss (zT 4) (zI 1)),
 zM 6 5,
 zG 7 6 false (.faddr (zT 1) 1),
 zG 8 6 false (.load false 1 (zT 7)),
 zG 9 6 false (.bin .gtr (zT 8) (zI 16)),
 zO 10 (.pick (zT 6) (.con (.bool true)) (zT 9))]
 (.cond (zT 10)
 (zA [zC 2 2]
 .ret)
 .skip))
 (zA [zD 11 1 0,
 zL 12 11,
 zO 13 (.call 36 [(zT 12)]),
 zM 2 13]
 .ret)))
def g49 : Fn := ⟨1, 14, [.tmp 2], b49⟩
def b50 : AC :=
 (zA [zO 2 (.alloc (.agg [(.int .u64 0), (.int .u64 0)]))]
 (zA [zO 3 (.alloc (.agg [(.int .u64 0), (.int .u64 0)]))]
 (.seq (zA [zM 6 0,
 zH 7 6,
 zC 8 0]
 (.block 0 (.loop (zA [zO 9 (.bin .lss (zT 8) (zT 7))]
 (.seq (.cond (zT 9)
 .skip
 (.exit 0))
 (.seq (.block 1 (zA [zO 10 (.iaddr 2 (zT 6) (zT 8)),
 zE 11 2 10,
 zO 5 (.alloc (.agg [(.int .u64 0), (.int .u64 0)])),
 zN (.store 2 (zT 5) (zT 11))]
 (.reg [zE 12 2 3,
 zE 13 2 5,
 zO 14 (.call 79 [(zT 12), (zT 13)]),
 zN (.store 2 (zT 3) (zT 14))])))
 (.reg [zJ 15 8 1,
 zM 8 15])))))))
 (.seq (.regd [⟨[zQ (zE 16 2 3),
 zQ (zO 17 (.call 59 []))], 0, [zO 18 (.call 60 [(zT 16), (zT 17)]),
 zN (.store 2 (zT 2) (zT 18))]⟩])
 .ret))))
def g50 : Fn := ⟨1, 19, [.cell 2 true 2], b50⟩
def b51 : AC :=
 (zA [zK 1 0,
 zC 2 0]
 (.seq (.seq (.regd [⟨[zQ (zE 3 2 1),
 zQ (zO 4 (.call 59 [])),
 zQ (zO 5 (.call 80 [(zT 3), (zT 4)])),
 zP (zO 6 (.build [(.int .u64 0), (.int .u64 0)] []))], 0, [zO 7 (.eqA true [.int, .int] (zT 5) (zT 6))]⟩])
 (.cond (zT 7)
 (zA [zC 2 200]
 .ret)
 .skip))
 (zA [zC 2 0]
 .ret)))
def g51 : Fn := ⟨1, 8, [.tmp 2], b51⟩
def b52 : AC :=
 (zA [zK 1 0,
 zC 2 0]
 (zA [zC 3 0]
 (.seq (.seq (.regd [⟨[zQ (zE 6 2 1),
 zQ (zO 7 (.call 59 [])),
 zQ (zO 8 (.call 60 [(zT 6), (zT 7)])),
 zP (zC 9 0)], 0, []⟩])
 (.block 0 (.loop (zA [zO 10 (.bin .lss (zT 9) (zI 2))]
 (.seq (.cond (zT 10)
 .skip
 (.exit 0))
 (.seq (.block 1 (zA [zO 11 (.idxA false 2 1 (zT 8) (zT 9)),
 zM 5 11]
 (.reg [zM 12 3,
 zM 13 5,
 zO 14 (.call 81 [(zT 13)]),
 zO 15 (.bin .add (zT 12) (zT 14)),
 zM 3 15])))
 (.reg [zJ 16 9 1,
 zM 9 16])))))))
 (zA [zM 17 3,
 zM 2 17]
 .ret))))
def g52 : Fn := ⟨1, 18, [.tmp 2], b52⟩
def b53 : AC :=
 (zA [zK 3 0,
 zK 5 2,
 zO 6 (.alloc .nilS),
 zO 7 (.alloc (.int .i64 0))]
 (zA [zO 8 (.alloc .nilS)]
 (.seq (zA [zM 13 1]
 (.block 0 (.rangeF (zT 13) [14, 15]
 (zA [zM 9 14]
 (.reg [zM 10 15]))
 (.block 1 (zA [zL 17 5,
 zM 18 9,
 zM 19 10,
 zO 20 (.callv (zT 17) [(zT 18), (zT 19)]),
 zM 16 20,
 zO 21 (.ext (zT 16) 0),
 zO 22 (.ext (zT 16) 1),
 zO 11 (.alloc (.agg [(.int .u64 0), (.int .u64 0)])),
 zN (.store 2 (zT 11) (zT 21)),
 zM 12 22]
 (.seq (zA [zM 23 12,
 zO 24 (.bin .neq (zT 23) (zI 0))]
 (.cond (zT 24)
 (zA [zM 25 12,
 zN (.store 1 (zT 6) (.con .nilS)),
 zN (.store 1 (zT 7) (zT 25))]
 .ret)
 .skip))
 (.reg [zL 26 8,
 zE 27 2 11,
 zO 28 (.lit 2 [(zT 27)]),
 zO 29 (.append 2 16 (zT 26) (zT 28)),
 zN (.store 1 (zT 8) (zT 29))])))))))
 (zA [zL 30 8,
 zD 31 3 0,
 zD 32 31 1,
 zL 33 32,
 zO 34 (.call 82 [(zT 30), (zT 33)]),
 zO 35 (.ext (zT 34) 0),
 zO 36 (.ext (zT 34) 1),
 zN (.store 1 (zT 6) (zT 35)),
 zN (.store 1 (zT 7) (zT 36))]
 .ret))))
def g53 : Fn := ⟨3, 37, [.cell 6 false 1, .cell 7 false 1], b53⟩
def b54 : AC :=
 (zA [zK 3 0]
 (zA [zE 5 1 1,
 zO 6 (.mkfn 56 [(zT 2)]),
 zO 7 (.call 55 [(zT 5), (zT 6)])]
 (.block 0 (.rangeF (zT 7) [8]
 (.reg [zO 4 (.alloc (.agg [(.bool false), (.int .u64 0), (.int .u64 0), (.int .u64 0), .nilS])),
 zN (.store 5 (zT 4) (zT 8))])
 (.block 1 (zA [zL 9 3,
 zD 10 4 1,
 zL 11 10,
 zD 12 4 2,
 zD 13 12 2,
 zL 14 13,
 zO 15 (.callv (zT 9) [(zT 11), (zT 14)]),
 zO 16 (.un .not (zT 15))]
 (.cond (zT 16)
 .ret
 .skip)))))))
def g54 : Fn := ⟨3, 17, [], b54⟩
def b55 : AC :=
 (zA [zK 2 0,
 zK 3 1,
 zO 4 (.mov (.con .nilF))]
 (zA [zO 5 (.mkfn 83 [(zT 2), (zT 3)]),
 zM 4 5]
 .ret))
def g55 : Fn := ⟨2, 6, [.tmp 4], b55⟩
def b56 : AC :=
 (zA [zO 3 (.mov zF)]
 (zA [zE 4 2 1,
 zM 5 0,
 zO 6 (.call 57 [(zT 4), (zT 5)]),
 zM 3 6]
 .ret))
def g56 : Fn := ⟨2, 7, [.tmp 3], b56⟩
def b57 : AC :=
 (zA [zK 2 0,
 zO 4 (.mov zF)]
 (.seq (.regd [⟨[], 0, [zM 5 1,
 zO 6 (.call 84 [(zT 5)]),
 zM 7 6]⟩,
 ⟨[zQ (zG 8 7 true (.load true 2 (zT 2))),
 zP (zG 9 7 true (.mov (zT 1))),
 zQ (zG 10 7 true (.call 85 [(zT 9)])),
 zQ (zG 11 7 true (.call 60 [(zT 8), (zT 10)])),
 zP (zG 12 7 true (.build [(.int .u64 0), (.int .u64 0)] []))], 0, [zG 13 7 true (.eqA true [.int, .int] (zT 11) (zT 12)),
 zO 14 (.pick (zT 7) (zT 13) zF),
 zM 4 14]⟩])
 .ret))
def g57 : Fn := ⟨2, 15, [.tmp 4], b57⟩
def b58 : AC :=
 (zA [zK 3 0,
 zO 6 (.alloc (.agg [(.int .u64 0), (.int .u64 0)])),
 zC 7 0]
 (zA [zD 11 3 0,
 zD 12 11 0,
 zL 13 12,
 zM 14 2,
 zO 15 (.call 63 [(zT 13), (zT 14)]),
 zM 10 15,
 zO 16 (.ext (zT 10) 0),
 zO 17 (.ext (zT 10) 1),
 zM 8 16,
 zM 9 17]
 (zA [zM 18 1,
 zM 19 8,
 zO 20 (.build [(.int .u64 0), (.int .u64 0)] [(0, 1, (zT 18)), (1, 1, (zT 19))]),
 zM 21 9,
 zN (.store 2 (zT 6) (zT 20)),
 zM 7 21]
 .ret)))
def g58 : Fn := ⟨3, 22, [.cell 6 true 2, .tmp 7], b58⟩
def b59 : AC :=
 (zA [zO 0 (.alloc (.agg [(.int .u64 0), (.int .u64 0)]))]
 (zA [zO 1 (.call 86 [(zI 96)]),
 zN (.store 2 (zT 0) (zT 1))]
 .ret))
def g59 : Fn := ⟨0, 2, [.cell 0 true 2], b59⟩
def b60 : AC :=
 (zA [zK 2 0,
 zK 3 1,
 zO 4 (.alloc (.agg [(.int .u64 0), (.int .u64 0)]))]
 (zA [zE 5 2 2,
 zE 6 2 3,
 zO 7 (.call 87 [(zT 5), (zT 6), (.con (.fn 88 []))]),
 zN (.store 2 (zT 4) (zT 7))]
 .ret))
def g60 : Fn := ⟨2, 8, [.cell 4 true 2], b60⟩
def b61 : AC :=
 (zA [zK 1 0,
 zO 2 (.mov (.con .nilF))]
 (zA [zO 3 (.mkfn 89 [(zT 1)]),
 zM 2 3]
 .ret))
def g61 : Fn := ⟨1, 4, [.tmp 2], b61⟩
def b62 : AC :=
 (zA [zC 4 0]
 (.seq (zA [zM 6 0,
 zH 7 6,
 zC 8 0]
 (.block 0 (.loop (zA [zO 9 (.bin .lss (zT 8) (zT 7))]
 (.seq (.cond (zT 9)
 .skip
 (.exit 0))
 (.seq (.block 1 (zA [zM 10 8,
 zM 5 10]
 (zA [zM 11 1,
 zM 12 0,
 zM 13 5,
 zO 14 (.iaddr 2 (zT 12) (zT 13)),
 zE 15 2 14,
 zO 16 (.callv (zT 11) [(zT 15)])]
 (.cond (zT 16)
 (zA [zM 17 5,
 zM 4 17]
 .ret)
 .skip))))
 (.reg [zJ 18 8 1,
 zM 8 18])))))))
 (zA [zC 4 (-1)]
 .ret)))
def g62 : Fn := ⟨2, 19, [.tmp 4], b62⟩
def b63 : AC :=
 (zA [zO 4 (.mov (.con (.int .u64 0))),
 zC 5 0]
 (.seq (zA [zM 7 0,
 zM 8 1,
 zO 9 (.lit 1 [(zT 7), (zT 8)]),
 zO 10 (.call 43 [(zT 9)]),
 zM 6 10]
 (zA [zM 11 6,
 zO 12 (.bin .neq (zT 11) (zI 0))]
 (.cond (zT 12)
 (zA [zM 13 6,
 zO 4 (.mov (.con (.int .u64 0))),
 zM 5 13]
 .ret)
 .skip)))
 (zA [zM 14 0,
 zM 15 1,
 zO 16 (.call 44 [(zT 14), (zT 15)]),
 zM 4 16,
 zC 5 0]
 .ret)))
def g63 : Fn := ⟨2, 17, [.tmp 4, .tmp 5], b63⟩
def b64 : AC :=
 (zA [zM 5 0,
 zH 6 5,
 zM 4 6]
 (.reg [zM 7 0,
 zM 8 4,
 zM 9 4,
 zO 10 (.conv .u64 (zT 9)),
 zO 11 (.call 92 [(zT 10)]),
 zM 12 1,
 zO 13 (.call 91 [(zT 7), (zI 0), (zT 8), (zT 11), (zT 12)])]))
def g64 : Fn := ⟨2, 14, [], b64⟩
def b65 : AC :=
 (zA [zK 2 0,
 zK 3 1,
 zC 4 0]
 (.seq (.regd [⟨[zP (zD 5 2 1),
 zQ (zL 6 5),
 zP (zD 7 3 1),
 zQ (zL 8 7),
 zQ (zO 9 (.call 67 [(zT 6), (zT 8)])),
 zP (zD 10 2 0),
 zQ (zL 11 10),
 zP (zD 12 3 0),
 zQ (zL 13 12)], 0, [zO 14 (.call 67 [(zT 11), (zT 13)]),
 zO 15 (.lit 1 [(zT 9), (zT 14)]),
 zO 16 (.call 66 [(zT 15)]),
 zM 4 16]⟩])
 .ret))
def g65 : Fn := ⟨2, 17, [.tmp 4], b65⟩
def b66 : AC :=
 (zA [zC 2 0]
 (zA [zC 3 0]
 (.seq (zA [zM 6 0,
 zH 7 6,
 zC 8 0]
 (.block 0 (.loop (zA [zO 9 (.bin .lss (zT 8) (zT 7))]
 (.seq (.cond (zT 9)
 .skip
 (.exit 0))
 (.seq (.block 1 (zA [zO 10 (.iaddr 1 (zT 6) (zT 8)),
 zL 11 10,
 zM 5 11]
 (zA [zM 12 5,
 zM 13 3,
 zO 14 (.bin .neq (zT 12) (zT 13))]
 (.cond (zT 14)
 (zA [zM 15 5,
 zM 2 15]
 .ret)
 .skip))))
 (.reg [zJ 16 8 1,
 zM 8 16])))))))
 (zA [zM 17 3,
 zM 2 17]
 .ret))))
def g66 : Fn := ⟨1, 18, [.tmp 2], b66⟩
def b67 : AC :=
 (zA [zC 4 0]
 (zA [zM 7 0,
 zO 8 (.call 93 [(zT 7)]),
 zM 5 8]
 (zA [zM 9 1,
 zO 10 (.call 93 [(zT 9)]),
 zM 6 10]
 (.seq (zA [zM 11 5]
 (.cond (zT 11)
 (.seq (zA [zM 12 6]
 (.cond (zT 12)
 (zA [zC 4 0]
 .ret)
 .skip))
 (zA [zC 4 (-1)]
 .ret))
 .skip))
 (.seq (zA [zM 13 6]
 (.cond (zT 13)
 (zA [zC 4 1]
 .ret)
 .skip))
 (.seq (zA [zM 14 0,
 zM 15 1,
 zO 16 (.bin .lss (zT 14) (zT 15))]
 (.cond (zT 16)
 (zA [zC 4 (-1)]
 .ret)
 .skip))
 (.seq (zA [zM 17 0,
 zM 18 1,
 zO 19 (.bin .gtr (zT 17) (zT 18))]
 (.cond (zT 19)
 (zA [zC 4 1]
 .ret)
 .skip))
 (zA [zC 4 0]
 .ret))))))))
def g67 : Fn := ⟨2, 20, [.tmp 4], b67⟩
def b68 : AC :=
 (zA [zL 6 1,
 zH 7 6,
 zC 8 0]
 (.block 0 (.loop (zA [zO 9 (.bin .lss (zT 8) (zT 7))]
 (.seq (.cond (zT 9)
 .skip
 (.exit 0))
 (.seq (.block 1 (zA [zM 10 8,
 zO 11 (.iaddr 2 (zT 6) (zT 8)),
 zE 12 2 11,
 zO 5 (.alloc (.agg [(.int .u64 0), (.int .u64 0)])),
 zM 4 10,
 zN (.store 2 (zT 5) (zT 12))]
 (zA [zM 13 4,
 zD 14 2 0,
 zD 15 14 3,
 zL 16 15,
 zO 17 (.bin .eql (zT 13) (zT 16)),
 zM 18 17,
 zG 19 18 false (.mov (zT 0)),
 zG 20 18 false (.faddr (zT 5) 0),
 zG 21 18 false (.load false 1 (zT 20)),
 zG 22 18 false (.conv .i64 (zT 21)),
 zG 23 18 false (.callv (zT 19) [(zT 22)]),
 zG 24 18 false (.un .not (zT 23)),
 zO 25 (.pick (zT 18) (.con (.bool true)) (zT 24))]
 (.cond (zT 25)
 .ret
 .skip))))
 (.reg [zJ 26 8 1,
 zM 8 26])))))))
def g68 : Fn := ⟨3, 27, [], b68⟩
def b69 : AC :=
 (zA [zL 5 1,
 zH 6 5,
 zC 7 0]
 (.block 0 (.loop (zA [zO 8 (.bin .lss (zT 7) (zT 6))]
 (.seq (.cond (zT 8)
 .skip
 (.exit 0))
 (.seq (.block 1 (zA [zO 9 (.iaddr 2 (zT 5) (zT 7)),
 zE 10 2 9,
 zO 4 (.alloc (.agg [(.int .u64 0), .nilS])),
 zN (.store 2 (zT 4) (zT 10))]
 (zA [zM 11 0,
 zD 12 4 0,
 zL 13 12,
 zD 14 4 1,
 zL 15 14,
 zO 16 (.callv (zT 11) [(zT 13), (zT 15)]),
 zO 17 (.un .not (zT 16))]
 (.cond (zT 17)
 .ret
 .skip))))
 (.reg [zJ 18 7 1,
 zM 7 18])))))))
def g69 : Fn := ⟨2, 19, [], b69⟩
def b70 : AC :=
 (zA [zO 2 (.mov zF)]
 (zA [zM 3 0,
 zO 4 (.bin .lss (zT 3) (.con (.int .i32 (-1073741823)))),
 zM 5 4,
 zG 6 5 false (.mov (zT 0)),
 zG 7 5 false (.bin .gtr (zT 6) (.con (.int .i32 1073741823))),
 zO 8 (.pick (zT 5) (.con (.bool true)) (zT 7)),
 zM 2 8]
 .ret))
def g70 : Fn := ⟨1, 9, [.tmp 2], b70⟩
def b71 : AC :=
 (zA [zO 4 (.mov zF)]
 (zA [zM 5 0,
 zM 6 1,
 zO 7 (.call 94 [(zT 5), (zT 6)]),
 zO 8 (.bin .geq (zT 7) (zI 0)),
 zM 4 8]
 .ret))
def g71 : Fn := ⟨2, 9, [.tmp 4], b71⟩
def b72 : AC :=
 (zA [zK 2 0,
 zK 3 1,
 zO 4 (.mov zF)]
 (zA [zD 5 2 0,
 zL 6 5,
 zD 7 2 1,
 zL 8 7,
 zO 9 (.build [(.int .u64 0), (.int .u64 0)] [(0, 1, (zT 6)), (1, 1, (zT 8))]),
 zD 10 3 0,
 zL 11 10,
 zD 12 3 1,
 zL 13 12,
 zO 14 (.build [(.int .u64 0), (.int .u64 0)] [(0, 1, (zT 11)), (1, 1, (zT 13))]),
 zO 15 (.eqA false [.int, .int] (zT 9) (zT 14)),
 zM 16 15,
 zG 17 16 true (.faddr (zT 2) 2),
 zG 18 16 true (.load false 1 (zT 17)),
 zG 19 16 true (.faddr (zT 3) 2),
 zG 20 16 true (.load false 1 (zT 19)),
 zG 21 16 true (.call 95 [(zT 18), (zT 20)]),
 zO 22 (.pick (zT 16) (zT 21) zF),
 zM 4 22]
 .ret))
def g72 : Fn := ⟨2, 23, [.tmp 4], b72⟩
def b73 : AC :=
 (zA [zK 1 0,
 zC 2 0]
 (zA [zD 4 1 1,
 zL 5 4,
 zO 6 (.bin .eql (zT 5) (.con (.int .u64 0))),
 zM 7 6,
 zG 8 7 false (.faddr (zT 1) 1),
 zG 9 7 false (.load false 1 (zT 8)),
 zG 10 7 false (.faddr (zT 1) 0),
 zG 11 7 false (.load false 1 (zT 10)),
 zG 12 7 false (.bin .gtr (zT 9) (zT 11)),
 zG 13 7 false (.mov (zT 12)),
 zG 14 13 true (.faddr (zT 1) 1),
 zG 15 13 true (.load false 1 (zT 14)),
 zG 16 13 true (.bin .leq (zT 15) (.con (.int .u64 1099511627776))),
 zG 17 7 false (.pick (zT 13) (zT 16) zF),
 zO 18 (.pick (zT 7) (.con (.bool true)) (zT 17)),
 zM 3 18]
 (.seq (zA [zD 19 1 2,
 zL 20 19,
 zO 21 (.call 36 [(zT 20)]),
 zO 22 (.bin .neq (zT 21) (zI 0)),
 zM 23 22,
 zG 24 23 false (.faddr (zT 1) 0),
 zG 25 23 false (.load false 1 (zT 24)),
 zG 26 23 false (.bin .lss (zT 25) (.con (.int .u64 1))),
 zO 27 (.pick (zT 23) (.con (.bool true)) (zT 26)),
 zM 28 27,
 zG 29 28 false (.faddr (zT 1) 0),
 zG 30 28 false (.load false 1 (zT 29)),
 zG 31 28 false (.bin .gtr (zT 30) (.con (.int .u64 1099511627776))),
 zO 32 (.pick (zT 28) (.con (.bool true)) (zT 31)),
 zM 33 32,
 zG 34 33 false (.mov (zT 3)),
 zG 35 33 false (.un .not (zT 34)),
 zO 36 (.pick (zT 33) (.con (.bool true)) (zT 35))]
 (.cond (zT 36)
 (zA [zC 2 171]
 .ret)
 .skip))
 (zA [zC 2 0]
 .ret))))
def g73 : Fn := ⟨1, 37, [.tmp 2], b73⟩
def b74 : AC :=
 (zA [zC 4 0]
 (.seq (zA [zM 6 0,
 zH 7 6,
 zC 8 0]
 (.block 0 (.loop (zA [zO 9 (.bin .lss (zT 8) (zT 7))]
 (.seq (.cond (zT 9)
 .skip
 (.exit 0))
 (.seq (.block 1 (zA [zM 10 8,
 zM 5 10]
 (zA [zM 11 1,
 zM 12 0,
 zM 13 5,
 zO 14 (.iaddr 5 (zT 12) (zT 13)),
 zE 15 5 14,
 zO 16 (.callv (zT 11) [(zT 15)])]
 (.cond (zT 16)
 (zA [zM 17 5,
 zM 4 17]
 .ret)
 .skip))))
 (.reg [zJ 18 8 1,
 zM 8 18])))))))
 (zA [zC 4 (-1)]
 .ret)))
def g74 : Fn := ⟨2, 19, [.tmp 4], b74⟩
def b75 : AC :=
 (zA [zC 4 0]
 (.seq (zA [zM 6 0,
 zH 7 6,
 zC 8 0]
 (.block 0 (.loop (zA [zO 9 (.bin .lss (zT 8) (zT 7))]
 (.seq (.cond (zT 9)
 .skip
 (.exit 0))
 (.seq (.block 1 (zA [zM 10 8,
 zM 5 10]
 (zA [zM 11 1,
 zM 12 0,
 zM 13 5,
 zO 14 (.iaddr 1 (zT 12) (zT 13)),
 zL 15 14,
 zO 16 (.callv (zT 11) [(zT 15)])]
 (.cond (zT 16)
 (zA [zM 17 5,
 zM 4 17]
 .ret)
 .skip))))
 (.reg [zJ 18 8 1,
 zM 8 18])))))))
 (zA [zC 4 (-1)]
 .ret)))
def g75 : Fn := ⟨2, 19, [.tmp 4], b75⟩
def b76 : AC :=
 (zA [zO 3 (.mov zF)]
 (zA [zM 4 0,
 zH 5 4,
 zL 6 1,
 zO 7 (.iaddr 1 (zT 6) (zI 0)),
 zL 8 7,
 zH 9 8,
 zO 10 (.bin .neq (zT 5) (zT 9)),
 zM 3 10]
 .ret))
def g76 : Fn := ⟨2, 11, [.tmp 3], b76⟩
def b77 : AC :=
 (zA [zK 2 0,
 zK 3 1,
 zO 4 (.mov (.con .nilF))]
 (zA [zO 5 (.mkfn 96 [(zT 2), (zT 3)]),
 zM 4 5]
 .ret))
def g77 : Fn := ⟨2, 6, [.tmp 4], b77⟩
def b78 : AC :=
 (zA [zK 3 0,
 zO 6 (.alloc (.agg [(.int .u64 0), (.int .u64 0)])),
 zC 7 0]
 (.seq (zA [zE 9 2 3,
 zO 10 (.call 51 [(zT 9)]),
 zM 8 10]
 (zA [zM 11 8,
 zO 12 (.bin .neq (zT 11) (zI 0))]
 (.cond (zT 12)
 (zA [zO 13 (.build [(.int .u64 0), (.int .u64 0)] []),
 zM 14 8,
 zN (.store 2 (zT 6) (zT 13)),
 zM 7 14]
 .ret)
 .skip)))
 (.seq (zA [zM 15 1,
 zO 16 (.call 84 [(zT 15)]),
 zO 17 (.un .not (zT 16))]
 (.cond (zT 17)
 (zA [zO 18 (.build [(.int .u64 0), (.int .u64 0)] []),
 zN (.store 2 (zT 6) (zT 18)),
 zC 7 2]
 .ret)
 .skip))
 (.seq (.regd [⟨[zB 19 2,
 zQ (zE 20 2 3),
 zB 21 1,
 zQ (zO 22 (.call 85 [(zT 21)]))], 0, [zO 23 (.callv (zT 19) [(zT 20), (zT 22)]),
 zN (.store 2 (zT 6) (zT 23)),
 zC 7 0]⟩])
 .ret))))
def g78 : Fn := ⟨3, 24, [.cell 6 true 2, .tmp 7], b78⟩
def b79 : AC :=
 (zA [zK 2 0,
 zK 3 1,
 zO 4 (.alloc (.agg [(.int .u64 0), (.int .u64 0)]))]
 (zA [zE 5 2 2,
 zE 6 2 3,
 zO 7 (.call 87 [(zT 5), (zT 6), (.con (.fn 97 []))]),
 zN (.store 2 (zT 4) (zT 7))]
 .ret))
def g79 : Fn := ⟨2, 8, [.cell 4 true 2], b79⟩
def b80 : AC :=
 (zA [zK 2 0,
 zK 3 1,
 zO 4 (.alloc (.agg [(.int .u64 0), (.int .u64 0)]))]
 (zA [zE 5 2 2,
 zE 6 2 3,
 zO 7 (.call 87 [(zT 5), (zT 6), (.con (.fn 98 []))]),
 zN (.store 2 (zT 4) (zT 7))]
 .ret))
def g80 : Fn := ⟨2, 8, [.cell 4 true 2], b80⟩
def b81 : AC :=
 (zA [zC 2 0]
 (zA [zM 3 0,
 zO 4 (.bin .shr (zT 3) (.con (.int .u64 1))),
 zO 5 (.bin .and (zT 4) (.con (.int .u64 6148914691236517205))),
 zM 6 0,
 zO 7 (.bin .and (zT 6) (.con (.int .u64 6148914691236517205))),
 zO 8 (.bin .add (zT 5) (zT 7)),
 zM 0 8]
 (zA [zM 9 0,
 zO 10 (.bin .shr (zT 9) (.con (.int .u64 2))),
 zO 11 (.bin .and (zT 10) (.con (.int .u64 3689348814741910323))),
 zM 12 0,
 zO 13 (.bin .and (zT 12) (.con (.int .u64 3689348814741910323))),
 zO 14 (.bin .add (zT 11) (zT 13)),
 zM 0 14]
 (zA [zM 15 0,
 zO 16 (.bin .shr (zT 15) (.con (.int .u64 4))),
 zM 17 0,
 zO 18 (.bin .add (zT 16) (zT 17)),
 zO 19 (.bin .and (zT 18) (.con (.int .u64 1085102592571150095))),
 zM 0 19]
 (zA [zM 20 0,
 zM 21 0,
 zO 22 (.bin .shr (zT 21) (.con (.int .u64 8))),
 zO 23 (.bin .add (zT 20) (zT 22)),
 zM 0 23]
 (zA [zM 24 0,
 zM 25 0,
 zO 26 (.bin .shr (zT 25) (.con (.int .u64 16))),
 zO 27 (.bin .add (zT 24) (zT 26)),
 zM 0 27]
 (zA [zM 28 0,
 zM 29 0,
 zO 30 (.bin .shr (zT 29) (.con (.int .u64 32))),
 zO 31 (.bin .add (zT 28) (zT 30)),
 zM 0 31]
 (zA [zM 32 0,
 zO 33 (.conv .i64 (zT 32)),
 zO 34 (.bin .and (zT 33) (zI 127)),
 zM 2 34]
 .ret))))))))
def g81 : Fn := ⟨1, 35, [.tmp 2], b81⟩
def b82 : AC :=
 (zA [zO 4 (.mov (.con .nilS)),
 zC 5 0]
 (zA [zM 6 1,
 zM 7 0,
 zO 8 (.lit 1 [(zT 7)]),
 zO 9 (.call 99 [(zT 6), (zT 8)]),
 zO 10 (.ext (zT 9) 0),
 zO 11 (.ext (zT 9) 1),
 zM 4 10,
 zM 5 11]
 .ret))
def g82 : Fn := ⟨2, 12, [.tmp 4, .tmp 5], b82⟩
def b83 : AC :=
 (zA [zD 6 1 0,
 zL 7 6,
 zH 8 7,
 zC 9 0]
 (.block 0 (.loop (zA [zO 10 (.bin .lss (zT 9) (zT 8))]
 (.seq (.cond (zT 10)
 .skip
 (.exit 0))
 (.seq (.block 1 (zA [zM 11 9,
 zO 12 (.iaddr 5 (zT 7) (zT 9)),
 zE 13 5 12,
 zO 5 (.alloc (.agg [(.bool false), (.int .u64 0), (.int .u64 0), (.int .u64 0), .nilS])),
 zM 4 11,
 zN (.store 5 (zT 5) (zT 13))]
 (zA [zD 14 5 0,
 zL 15 14,
 zM 16 15,
 zG 17 16 true (.load false 1 (zT 2)),
 zG 18 16 true (.mov (zT 4)),
 zG 19 16 true (.callv (zT 17) [(zT 18)]),
 zO 20 (.pick (zT 16) (zT 19) zF),
 zM 21 20,
 zG 22 21 true (.mov (zT 0)),
 zG 23 21 true (.load true 5 (zT 5)),
 zG 24 21 true (.callv (zT 22) [(zT 23)]),
 zG 25 21 true (.un .not (zT 24)),
 zO 26 (.pick (zT 21) (zT 25) zF)]
 (.cond (zT 26)
 .ret
 .skip))))
 (.reg [zJ 27 9 1,
 zM 9 27])))))))
def g83 : Fn := ⟨3, 28, [], b83⟩
def b84 : AC :=
 (zA [zO 2 (.mov zF)]
 (zA [zM 3 0,
 zO 4 (.bin .geq (zT 3) (zI 0)),
 zM 5 4,
 zG 6 5 true (.mov (zT 0)),
 zG 7 5 true (.bin .lss (zT 6) (zI 96)),
 zO 8 (.pick (zT 5) (zT 7) zF),
 zM 2 8]
 .ret))
def g84 : Fn := ⟨1, 9, [.tmp 2], b84⟩
def b85 : AC :=
 (zA [zO 2 (.alloc (.agg [(.int .u64 0), (.int .u64 0)]))]
 (zA [zO 3 (.alloc (.agg [(.int .u64 0), (.int .u64 0)]))]
 (zA [zM 4 0,
 zO 5 (.bin .quo (zT 4) (zI 64)),
 zM 6 0,
 zO 7 (.bin .rem (zT 6) (zI 64)),
 zO 8 (.bin .shl (.con (.int .u64 1)) (zT 7)),
 zO 9 (.iaddrA 2 1 (zT 3) (zT 5)),
 zN (.store 1 (zT 9) (zT 8))]
 (zA [zE 10 2 3,
 zN (.store 2 (zT 2) (zT 10))]
 .ret))))
def g85 : Fn := ⟨1, 11, [.cell 2 true 2], b85⟩
def b86 : AC :=
 (zA [zO 2 (.alloc (.agg [(.int .u64 0), (.int .u64 0)]))]
 (zA [zO 3 (.alloc (.agg [(.int .u64 0), (.int .u64 0)]))]
 (.seq (zA [zC 6 0]
 (.block 0 (.loop (zA [zO 7 (.bin .lss (zT 6) (zI 2))]
 (.seq (.cond (zT 7)
 .skip
 (.exit 0))
 (.seq (.block 1 (zA [zM 8 6,
 zM 4 8]
 (zA [zM 9 0,
 zM 10 4,
 zO 11 (.bin .mul (zI 64) (zT 10)),
 zO 12 (.bin .sub (zT 9) (zT 11)),
 zM 5 12]
 (zA [zM 13 5,
 zO 14 (.bin .geq (zT 13) (zI 64))]
 (.cond (zT 14)
 (.reg [zM 15 4,
 zO 16 (.iaddrA 2 1 (zT 3) (zT 15)),
 zN (.store 1 (zT 16) (.con (.int .u64 18446744073709551615)))])
 (zA [zM 17 5,
 zO 18 (.bin .gtr (zT 17) (zI 0))]
 (.cond (zT 18)
 (.reg [zM 19 4,
 zM 20 5,
 zO 21 (.bin .shl (.con (.int .u64 1)) (zT 20)),
 zO 22 (.bin .sub (zT 21) (.con (.int .u64 1))),
 zO 23 (.iaddrA 2 1 (zT 3) (zT 19)),
 zN (.store 1 (zT 23) (zT 22))])
 .skip)))))))
 (.reg [zJ 24 6 1,
 zM 6 24])))))))
 (zA [zE 25 2 3,
 zN (.store 2 (zT 2) (zT 25))]
 .ret))))
def g86 : Fn := ⟨1, 26, [.cell 2 true 2], b86⟩
def b87 : AC :=
 (zA [zK 3 0,
 zK 4 1,
 zO 6 (.alloc (.agg [(.int .u64 0), (.int .u64 0)]))]
 (.seq (zA [zC 8 0]
 (.block 0 (.loop (zA [zO 9 (.bin .lss (zT 8) (zI 2))]
 (.seq (.cond (zT 9)
 .skip
 (.exit 0))
 (.seq (.block 1 (zA [zM 10 8,
 zM 7 10]
 (.regd [⟨[zB 11 7,
 zB 12 2,
 zB 13 7,
 zP (zO 14 (.iaddrA 2 1 (zT 3) (zT 13))),
 zQ (zL 15 14),
 zB 16 7,
 zP (zO 17 (.iaddrA 2 1 (zT 4) (zT 16))),
 zQ (zL 18 17),
 zQ (zO 19 (.callv (zT 12) [(zT 15), (zT 18)]))], 0, [zO 20 (.iaddrA 2 1 (zT 3) (zT 11)),
 zN (.store 1 (zT 20) (zT 19))]⟩])))
 (.reg [zJ 21 8 1,
 zM 8 21])))))))
 (zA [zE 22 2 3,
 zN (.store 2 (zT 6) (zT 22))]
 .ret)))
def g87 : Fn := ⟨3, 23, [.cell 6 true 2], b87⟩
def b88 : AC :=
 (zA [zO 4 (.mov (.con (.int .u64 0)))]
 (zA [zM 5 0,
 zM 6 1,
 zO 7 (.bin .and (zT 5) (zT 6)),
 zM 4 7]
 .ret))
def g88 : Fn := ⟨2, 8, [.tmp 4], b88⟩
def b89 : AC :=
 (.seq (.regd [⟨[zQ (zE 5 2 1),
 zQ (zO 6 (.call 59 [])),
 zQ (zO 7 (.call 60 [(zT 5), (zT 6)])),
 zP (zC 8 0)], 0, []⟩])
 (.block 0 (.loop (zA [zO 9 (.bin .lss (zT 8) (zI 2))]
 (.seq (.cond (zT 9)
 .skip
 (.exit 0))
 (.seq (.block 1 (zA [zM 10 8,
 zO 11 (.idxA false 2 1 (zT 7) (zT 8)),
 zM 3 10,
 zM 4 11]
 (.block 2 (.loop (.seq (zA [zM 12 4,
 zO 13 (.bin .neq (zT 12) (.con (.int .u64 0)))]
 (.cond (zT 13)
 .skip
 (.exit 2)))
 (.seq (.block 3 (zA [zM 18 0,
 zM 19 3,
 zO 20 (.bin .mul (zI 64) (zT 19)),
 zM 21 4,
 zO 22 (.prim 90 [(zT 21)]),
 zO 23 (.bin .add (zT 20) (zT 22)),
 zO 24 (.callv (zT 18) [(zT 23)]),
 zO 25 (.un .not (zT 24))]
 (.cond (zT 25)
 .ret
 .skip)))
 (.reg [zM 14 4,
 zM 15 4,
 zO 16 (.bin .sub (zT 15) (.con (.int .u64 1))),
 zO 17 (.bin .and (zT 14) (zT 16)),
 zM 4 17])))))))
 (.reg [zJ 26 8 1,
 zM 8 26])))))))
def g89 : Fn := ⟨2, 27, [], b89⟩
def b91 : AC :=
 (zA [zO 10 (.mov (.con (.bool true)))]
 (zA [zO 11 (.mov (.con (.bool true)))]
 (.block 0 (.loop (.block 1 (zA [zM 21 2,
 zM 22 1,
 zO 23 (.bin .sub (zT 21) (zT 22)),
 zM 12 23]
 (.seq (zA [zM 24 12,
 zO 25 (.bin .leq (zT 24) (zI 12))]
 (.cond (zT 25)
 (zA [zM 26 0,
 zM 27 1,
 zM 28 2,
 zM 29 4,
 zO 30 (.call 100 [(zT 26), (zT 27), (zT 28), (zT 29)])]
 .ret)
 .skip))
 (.seq (zA [zM 31 3,
 zO 32 (.bin .eql (zT 31) (zI 0))]
 (.cond (zT 32)
 (zA [zM 33 0,
 zM 34 1,
 zM 35 2,
 zM 36 4,
 zO 37 (.call 101 [(zT 33), (zT 34), (zT 35), (zT 36)])]
 .ret)
 .skip))
 (.seq (zA [zM 38 10,
 zO 39 (.un .not (zT 38))]
 (.cond (zT 39)
 (zA [zM 40 0,
 zM 41 1,
 zM 42 2,
 zM 43 4,
 zO 44 (.call 102 [(zT 40), (zT 41), (zT 42), (zT 43)])]
 (.reg [zM 45 3,
 zO 46 (.bin .sub (zT 45) (zI 1)),
 zM 3 46]))
 .skip))
 (zA [zM 48 0,
 zM 49 1,
 zM 50 2,
 zM 51 4,
 zO 52 (.call 103 [(zT 48), (zT 49), (zT 50), (zT 51)]),
 zM 47 52,
 zO 53 (.ext (zT 47) 0),
 zO 54 (.ext (zT 47) 1),
 zM 13 53,
 zM 14 54]
 (.seq (zA [zM 55 14,
 zO 56 (.bin .eql (zT 55) (zI 2))]
 (.cond (zT 56)
 (zA [zM 57 0,
 zM 58 1,
 zM 59 2,
 zM 60 4,
 zO 61 (.call 104 [(zT 57), (zT 58), (zT 59), (zT 60)])]
 (zA [zM 62 2,
 zO 63 (.bin .sub (zT 62) (zI 1)),
 zM 64 13,
 zM 65 1,
 zO 66 (.bin .sub (zT 64) (zT 65)),
 zO 67 (.bin .sub (zT 63) (zT 66)),
 zM 13 67]
 (.reg [zC 14 1])))
 .skip))
 (.seq (zA [zM 68 10,
 zM 69 68,
 zG 70 69 true (.mov (zT 11)),
 zO 71 (.pick (zT 69) (zT 70) zF),
 zM 72 71,
 zG 73 72 true (.mov (zT 14)),
 zG 74 72 true (.bin .eql (zT 73) (zI 1)),
 zO 75 (.pick (zT 72) (zT 74) zF)]
 (.cond (zT 75)
 (zA [zM 76 0,
 zM 77 1,
 zM 78 2,
 zM 79 4,
 zO 80 (.call 105 [(zT 76), (zT 77), (zT 78), (zT 79)])]
 (.cond (zT 80)
 .ret
 .skip))
 .skip))
 (.seq (.seq (.regd [⟨[], 0, [zM 81 1,
 zO 82 (.bin .gtr (zT 81) (zI 0)),
 zM 83 82]⟩,
 ⟨[zP (zG 84 83 true (.mov (zT 4))),
 zP (zG 85 83 true (.mov (zT 0))),
 zP (zG 86 83 true (.mov (zT 1))),
 zP (zG 87 83 true (.bin .sub (zT 86) (zI 1))),
 zP (zG 88 83 true (.iaddr 2 (zT 85) (zT 87))),
 zQ (zG 89 83 true (.load true 2 (zT 88))),
 zP (zG 90 83 true (.mov (zT 0))),
 zP (zG 91 83 true (.mov (zT 13))),
 zP (zG 92 83 true (.iaddr 2 (zT 90) (zT 91))),
 zQ (zG 93 83 true (.load true 2 (zT 92)))], 0, [zG 94 83 true (.callv (zT 84) [(zT 89), (zT 93)]),
 zG 95 83 true (.bin .lss (zT 94) (zI 0)),
 zG 96 83 true (.un .not (zT 95)),
 zO 97 (.pick (zT 83) (zT 96) zF)]⟩])
 (.cond (zT 97)
 (zA [zM 98 0,
 zM 99 1,
 zM 100 2,
 zM 101 13,
 zM 102 4,
 zO 103 (.call 106 [(zT 98), (zT 99), (zT 100), (zT 101), (zT 102)]),
 zM 15 103]
 (zA [zM 104 15,
 zM 1 104]
 (.exit 1)))
 .skip))
 (zA [zM 106 0,
 zM 107 1,
 zM 108 2,
 zM 109 13,
 zM 110 4,
 zO 111 (.call 107 [(zT 106), (zT 107), (zT 108), (zT 109), (zT 110)]),
 zM 105 111,
 zO 112 (.ext (zT 105) 0),
 zO 113 (.ext (zT 105) 1),
 zM 16 112,
 zM 17 113]
 (zA [zM 114 17,
 zM 11 114]
 (zA [zM 115 16,
 zM 116 1,
 zO 117 (.bin .sub (zT 115) (zT 116)),
 zM 118 2,
 zM 119 16,
 zO 120 (.bin .sub (zT 118) (zT 119)),
 zM 18 117,
 zM 19 120]
 (zA [zM 121 12,
 zO 122 (.bin .quo (zT 121) (zI 8)),
 zM 20 122]
 (zA [zM 123 18,
 zM 124 19,
 zO 125 (.bin .lss (zT 123) (zT 124))]
 (.cond (zT 125)
 (zA [zM 126 18,
 zM 127 20,
 zO 128 (.bin .geq (zT 126) (zT 127)),
 zM 10 128]
 (zA [zM 129 0,
 zM 130 1,
 zM 131 16,
 zM 132 3,
 zM 133 4,
 zO 134 (.call 91 [(zT 129), (zT 130), (zT 131), (zT 132), (zT 133)])]
 (.reg [zM 135 16,
 zJ 136 135 1,
 zM 1 136])))
 (zA [zM 137 19,
 zM 138 20,
 zO 139 (.bin .geq (zT 137) (zT 138)),
 zM 10 139]
 (zA [zM 140 0,
 zM 141 16,
 zJ 142 141 1,
 zM 143 2,
 zM 144 3,
 zM 145 4,
 zO 146 (.call 91 [(zT 140), (zT 142), (zT 143), (zT 144), (zT 145)])]
 (.reg [zM 147 16,
 zM 2 147]))))))))))))))))))))))
def g91 : Fn := ⟨5, 148, [], b91⟩
def b92 : AC :=
 (zA [zC 2 0]
 (.seq (.cond zF
 (zA [zM 3 0,
 zO 4 (.conv .u32 (zT 3)),
 zO 5 (.call 108 [(zT 4)]),
 zM 2 5]
 .ret)
 .skip)
 (zA [zM 6 0,
 zO 7 (.call 109 [(zT 6)]),
 zM 2 7]
 .ret)))
def g92 : Fn := ⟨1, 8, [.tmp 2], b92⟩
def b93 : AC :=
 (zA [zO 2 (.mov zF)]
 (zA [zM 3 0,
 zM 4 0,
 zO 5 (.bin .neq (zT 3) (zT 4)),
 zM 2 5]
 .ret))
def g93 : Fn := ⟨1, 6, [.tmp 2], b93⟩
def b94 : AC :=
 (zA [zC 4 0]
 (.seq (zA [zM 6 0,
 zH 7 6,
 zC 8 0]
 (.block 0 (.loop (zA [zO 9 (.bin .lss (zT 8) (zT 7))]
 (.seq (.cond (zT 9)
 .skip
 (.exit 0))
 (.seq (.block 1 (zA [zM 10 8,
 zM 5 10]
 (zA [zM 11 1,
 zM 12 0,
 zM 13 5,
 zO 14 (.iaddr 1 (zT 12) (zT 13)),
 zL 15 14,
 zO 16 (.callv (zT 11) [(zT 15)])]
 (.cond (zT 16)
 (zA [zM 17 5,
 zM 4 17]
 .ret)
 .skip))))
 (.reg [zJ 18 8 1,
 zM 8 18])))))))
 (zA [zC 4 (-1)]
 .ret)))
def g94 : Fn := ⟨2, 19, [.tmp 4], b94⟩
def b95 : AC :=
 (zA [zO 4 (.mov zF)]
 (zA [zM 5 0,
 zM 6 1,
 zO 7 (.call 110 [(zT 5), (zT 6)]),
 zM 4 7]
 .ret))
def g95 : Fn := ⟨2, 8, [.tmp 4], b95⟩
def b96 : AC :=
 (zA [zL 6 1,
 zH 7 6,
 zC 8 0]
 (.block 0 (.loop (zA [zO 9 (.bin .lss (zT 8) (zT 7))]
 (.seq (.cond (zT 9)
 .skip
 (.exit 0))
 (.seq (.block 1 (zA [zM 10 8,
 zO 11 (.iaddr 1 (zT 6) (zT 8)),
 zL 12 11,
 zM 4 10,
 zM 5 12]
 (zA [zM 13 0,
 zM 14 5,
 zO 15 (.conv .i64 (zT 14)),
 zL 16 2,
 zM 17 4,
 zO 18 (.iaddr 1 (zT 16) (zT 17)),
 zL 19 18,
 zO 20 (.conv .i64 (zT 19)),
 zO 21 (.callv (zT 13) [(zT 15), (zT 20)]),
 zO 22 (.un .not (zT 21))]
 (.cond (zT 22)
 .ret
 .skip))))
 (.reg [zJ 23 8 1,
 zM 8 23])))))))
def g96 : Fn := ⟨3, 24, [], b96⟩
def b97 : AC :=
 (zA [zO 4 (.mov (.con (.int .u64 0)))]
 (zA [zM 5 0,
 zM 6 1,
 zO 7 (.bin .or (zT 5) (zT 6)),
 zM 4 7]
 .ret))
def g97 : Fn := ⟨2, 8, [.tmp 4], b97⟩
def b98 : AC :=
 (zA [zO 4 (.mov (.con (.int .u64 0)))]
 (zA [zM 5 0,
 zM 6 1,
 zO 7 (.bin .andNot (zT 5) (zT 6)),
 zM 4 7]
 .ret))
def g98 : Fn := ⟨2, 8, [.tmp 4], b98⟩
def b99 : AC :=
 (zA [zO 4 (.mov (.con .nilS)),
 zC 5 0]
 (.seq (zA [zM 9 0,
 zO 10 (.bin .lss (zT 9) (zI 1)),
 zM 11 10,
 zG 12 11 false (.mov (zT 0)),
 zG 13 11 false (.bin .gtr (zT 12) (zI 16)),
 zO 14 (.pick (zT 11) (.con (.bool true)) (zT 13))]
 (.cond (zT 14)
 (zA [zO 4 (.mov (.con .nilS)),
 zC 5 2]
 .ret)
 .skip))
 (zA [zC 6 0]
 (.seq (zA [zM 15 1,
 zH 16 15,
 zC 17 0]
 (.block 0 (.loop (zA [zO 18 (.bin .lss (zT 17) (zT 16))]
 (.seq (.cond (zT 18)
 .skip
 (.exit 0))
 (.seq (.block 1 (zA [zO 19 (.iaddr 1 (zT 15) (zT 17)),
 zL 20 19,
 zM 8 20]
 (zA [zM 21 6,
 zM 22 8,
 zH 23 22,
 zO 24 (.bin .add (zT 21) (zT 23)),
 zM 6 24]
 (zA [zM 25 6,
 zO 26 (.bin .gtr (zT 25) (zI 2000))]
 (.cond (zT 26)
 (zA [zO 4 (.mov (.con .nilS)),
 zC 5 3]
 .ret)
 .skip)))))
 (.reg [zJ 27 17 1,
 zM 17 27])))))))
 (zA [zM 28 0,
 zM 29 1,
 zO 30 (.call 111 [(zT 28), (zT 29)]),
 zM 4 30,
 zC 5 0]
 .ret)))))
def g99 : Fn := ⟨2, 31, [.tmp 4, .tmp 5], b99⟩
def b100 : AC :=
 (zA [zM 10 1,
 zJ 11 10 1,
 zM 8 11]
 (.block 0 (.loop (.seq (zA [zM 12 8,
 zM 13 2,
 zO 14 (.bin .lss (zT 12) (zT 13))]
 (.cond (zT 14)
 .skip
 (.exit 0)))
 (.seq (.block 1 (zA [zM 17 8,
 zM 9 17]
 (.block 2 (.loop (.seq (.seq (.regd [⟨[zB 18 9,
 zB 19 1], 0, [zO 20 (.bin .gtr (zT 18) (zT 19)),
 zM 21 20]⟩,
 ⟨[zP (zG 22 21 true (.mov (zT 3))),
 zP (zG 23 21 true (.mov (zT 0))),
 zP (zG 24 21 true (.mov (zT 9))),
 zP (zG 25 21 true (.iaddr 2 (zT 23) (zT 24))),
 zQ (zG 26 21 true (.load true 2 (zT 25))),
 zP (zG 27 21 true (.mov (zT 0))),
 zP (zG 28 21 true (.mov (zT 9))),
 zP (zG 29 21 true (.bin .sub (zT 28) (zI 1))),
 zP (zG 30 21 true (.iaddr 2 (zT 27) (zT 29))),
 zQ (zG 31 21 true (.load true 2 (zT 30)))], 0, [zG 32 21 true (.callv (zT 22) [(zT 26), (zT 31)]),
 zG 33 21 true (.bin .lss (zT 32) (zI 0)),
 zO 34 (.pick (zT 21) (zT 33) zF)]⟩])
 (.cond (zT 34)
 .skip
 (.exit 2)))
 (.seq (.block 3 (.regd [⟨[zB 37 0,
 zB 38 9,
 zB 39 0,
 zB 40 9,
 zP (zO 41 (.bin .sub (zT 40) (zI 1))),
 zB 42 0,
 zB 43 9,
 zP (zO 44 (.bin .sub (zT 43) (zI 1))),
 zP (zO 45 (.iaddr 2 (zT 42) (zT 44))),
 zQ (zE 46 2 45),
 zB 47 0,
 zB 48 9,
 zP (zO 49 (.iaddr 2 (zT 47) (zT 48))),
 zQ (zE 50 2 49),
 zP (zO 51 (.iaddr 2 (zT 37) (zT 38))),
 ⟨zN (.store 2 (zT 51) (zT 46)), false, true, false, 0, [], none⟩], 0, [zO 52 (.iaddr 2 (zT 39) (zT 41)),
 zN (.store 2 (zT 52) (zT 50))]⟩]))
 (.reg [zM 35 9,
 zO 36 (.bin .sub (zT 35) (zI 1)),
 zM 9 36])))))))
 (.reg [zM 15 8,
 zJ 16 15 1,
 zM 8 16]))))))
def g100 : Fn := ⟨4, 53, [], b100⟩
def b101 : AC :=
 (zA [zM 13 1,
 zM 8 13]
 (zA [zC 9 0]
 (zA [zM 14 2,
 zM 15 1,
 zO 16 (.bin .sub (zT 14) (zT 15)),
 zM 10 16]
 (.seq (zA [zM 17 10,
 zO 18 (.bin .sub (zT 17) (zI 1)),
 zO 19 (.bin .quo (zT 18) (zI 2)),
 zM 11 19]
 (.block 0 (.loop (.seq (zA [zM 20 11,
 zO 21 (.bin .geq (zT 20) (zI 0))]
 (.cond (zT 21)
 .skip
 (.exit 0)))
 (.seq (.block 1 (.reg [zM 24 0,
 zM 25 11,
 zM 26 10,
 zM 27 8,
 zM 28 3,
 zO 29 (.call 112 [(zT 24), (zT 25), (zT 26), (zT 27), (zT 28)])]))
 (.reg [zM 22 11,
 zO 23 (.bin .sub (zT 22) (zI 1)),
 zM 11 23]))))))
 (zA [zM 30 10,
 zO 31 (.bin .sub (zT 30) (zI 1)),
 zM 12 31]
 (.block 2 (.loop (.seq (zA [zM 32 12,
 zO 33 (.bin .geq (zT 32) (zI 0))]
 (.cond (zT 33)
 .skip
 (.exit 2)))
 (.seq (.block 3 (.seq (.regd [⟨[zB 36 0,
 zB 37 8,
 zB 38 0,
 zB 39 8,
 zB 40 12,
 zP (zO 41 (.bin .add (zT 39) (zT 40))),
 zB 42 0,
 zB 43 8,
 zB 44 12,
 zP (zO 45 (.bin .add (zT 43) (zT 44))),
 zP (zO 46 (.iaddr 2 (zT 42) (zT 45))),
 zQ (zE 47 2 46),
 zB 48 0,
 zB 49 8,
 zP (zO 50 (.iaddr 2 (zT 48) (zT 49))),
 zQ (zE 51 2 50),
 zP (zO 52 (.iaddr 2 (zT 36) (zT 37))),
 ⟨zN (.store 2 (zT 52) (zT 47)), false, true, false, 0, [], none⟩], 0, [zO 53 (.iaddr 2 (zT 38) (zT 41)),
 zN (.store 2 (zT 53) (zT 51))]⟩])
 (.reg [zM 54 0,
 zM 55 9,
 zM 56 12,
 zM 57 8,
 zM 58 3,
 zO 59 (.call 112 [(zT 54), (zT 55), (zT 56), (zT 57), (zT 58)])])))
 (.reg [zM 34 12,
 zO 35 (.bin .sub (zT 34) (zI 1)),
 zM 12 35]))))))))))
def g101 : Fn := ⟨4, 60, [], b101⟩
def b102 : AC :=
 (zA [zM 13 2,
 zM 14 1,
 zO 15 (.bin .sub (zT 13) (zT 14)),
 zM 8 15]
 (zA [zM 16 8,
 zO 17 (.bin .geq (zT 16) (zI 8))]
 (.cond (zT 17)
 (zA [zM 18 8,
 zO 19 (.conv .u64 (zT 18)),
 zO 9 (.alloc (.int .u64 0)),
 zN (.store 1 (zT 9) (zT 19))]
 (zA [zM 20 8,
 zO 21 (.call 113 [(zT 20)]),
 zM 10 21]
 (zA [zM 22 1,
 zM 23 8,
 zO 24 (.bin .quo (zT 23) (zI 4)),
 zO 25 (.bin .mul (zT 24) (zI 2)),
 zO 26 (.bin .add (zT 22) (zT 25)),
 zO 27 (.bin .sub (zT 26) (zI 1)),
 zM 11 27]
 (.block 0 (.loop (.seq (zA [zM 28 11,
 zM 29 1,
 zM 30 8,
 zO 31 (.bin .quo (zT 30) (zI 4)),
 zO 32 (.bin .mul (zT 31) (zI 2)),
 zO 33 (.bin .add (zT 29) (zT 32)),
 zJ 34 33 1,
 zO 35 (.bin .leq (zT 28) (zT 34))]
 (.cond (zT 35)
 .skip
 (.exit 0)))
 (.seq (.block 1 (zA [zO 38 (.call 114 [(zT 9)]),
 zM 39 10,
 zO 40 (.bin .sub (zT 39) (.con (.int .u64 1))),
 zO 41 (.bin .and (zT 38) (zT 40)),
 zO 42 (.conv .i64 (zT 41)),
 zM 12 42]
 (.seq (zA [zM 43 12,
 zM 44 8,
 zO 45 (.bin .geq (zT 43) (zT 44))]
 (.cond (zT 45)
 (.reg [zM 46 12,
 zM 47 8,
 zO 48 (.bin .sub (zT 46) (zT 47)),
 zM 12 48])
 .skip))
 (.regd [⟨[zB 49 0,
 zB 50 11,
 zB 51 0,
 zB 52 1,
 zB 53 12,
 zP (zO 54 (.bin .add (zT 52) (zT 53))),
 zB 55 0,
 zB 56 1,
 zB 57 12,
 zP (zO 58 (.bin .add (zT 56) (zT 57))),
 zP (zO 59 (.iaddr 2 (zT 55) (zT 58))),
 zQ (zE 60 2 59),
 zB 61 0,
 zB 62 11,
 zP (zO 63 (.iaddr 2 (zT 61) (zT 62))),
 zQ (zE 64 2 63),
 zP (zO 65 (.iaddr 2 (zT 49) (zT 50))),
 ⟨zN (.store 2 (zT 65) (zT 60)), false, true, false, 0, [], none⟩], 0, [zO 66 (.iaddr 2 (zT 51) (zT 54)),
 zN (.store 2 (zT 66) (zT 64))]⟩]))))
 (.reg [zM 36 11,
 zJ 37 36 1,
 zM 11 37]))))))))
 .skip)))
def g102 : Fn := ⟨4, 67, [], b102⟩
def b103 : AC :=
 (zA [zC 8 0,
 zC 9 0]
 (zA [zM 15 2,
 zM 16 1,
 zO 17 (.bin .sub (zT 15) (zT 16)),
 zM 10 17]
 (zA [zO 11 (.alloc (.int .i64 0))]
 (zA [zM 18 1,
 zM 19 10,
 zO 20 (.bin .quo (zT 19) (zI 4)),
 zO 21 (.bin .mul (zT 20) (zI 1)),
 zO 22 (.bin .add (zT 18) (zT 21)),
 zM 12 22]
 (zA [zM 23 1,
 zM 24 10,
 zO 25 (.bin .quo (zT 24) (zI 4)),
 zO 26 (.bin .mul (zT 25) (zI 2)),
 zO 27 (.bin .add (zT 23) (zT 26)),
 zM 13 27]
 (zA [zM 28 1,
 zM 29 10,
 zO 30 (.bin .quo (zT 29) (zI 4)),
 zO 31 (.bin .mul (zT 30) (zI 3)),
 zO 32 (.bin .add (zT 28) (zT 31)),
 zM 14 32]
 (.seq (zA [zM 33 10,
 zO 34 (.bin .geq (zT 33) (zI 8))]
 (.cond (zT 34)
 (.seq (zA [zM 35 10,
 zO 36 (.bin .geq (zT 35) (zI 50))]
 (.cond (zT 36)
 (zA [zM 37 0,
 zM 38 12,
 zM 39 3,
 zO 40 (.call 115 [(zT 37), (zT 38), (zT 11), (zT 39)]),
 zM 12 40]
 (zA [zM 41 0,
 zM 42 13,
 zM 43 3,
 zO 44 (.call 115 [(zT 41), (zT 42), (zT 11), (zT 43)]),
 zM 13 44]
 (.reg [zM 45 0,
 zM 46 14,
 zM 47 3,
 zO 48 (.call 115 [(zT 45), (zT 46), (zT 11), (zT 47)]),
 zM 14 48])))
 .skip))
 (.reg [zM 49 0,
 zM 50 12,
 zM 51 13,
 zM 52 14,
 zM 53 3,
 zO 54 (.call 116 [(zT 49), (zT 50), (zT 51), (zT 52), (zT 11), (zT 53)]),
 zM 13 54]))
 .skip))
 (zA [zL 55 11]
 (.block 0 (zA [zO 58 (.bin .eql (zT 55) (zI 0)),
 zM 57 58]
 (.cond (zT 57)
 (zA [zM 59 13,
 zM 8 59,
 zC 9 1]
 .ret)
 (zA [zO 61 (.bin .eql (zT 55) (zI 12)),
 zM 60 61]
 (.cond (zT 60)
 (zA [zM 62 13,
 zM 8 62,
 zC 9 2]
 .ret)
 (zA [zM 56 13,
 zM 8 56,
 zC 9 0]
 .ret))))))))))))))
def g103 : Fn := ⟨4, 63, [.tmp 8, .tmp 9], b103⟩
def b104 : AC :=
 (zA [zM 10 1,
 zM 8 10]
 (zA [zM 11 2,
 zO 12 (.bin .sub (zT 11) (zI 1)),
 zM 9 12]
 (.block 0 (.loop (.seq (zA [zM 13 8,
 zM 14 9,
 zO 15 (.bin .lss (zT 13) (zT 14))]
 (.cond (zT 15)
 .skip
 (.exit 0)))
 (.block 1 (.seq (.regd [⟨[zB 16 0,
 zB 17 8,
 zB 18 0,
 zB 19 9,
 zB 20 0,
 zB 21 9,
 zP (zO 22 (.iaddr 2 (zT 20) (zT 21))),
 zQ (zE 23 2 22),
 zB 24 0,
 zB 25 8,
 zP (zO 26 (.iaddr 2 (zT 24) (zT 25))),
 zQ (zE 27 2 26),
 zP (zO 28 (.iaddr 2 (zT 16) (zT 17))),
 ⟨zN (.store 2 (zT 28) (zT 23)), false, true, false, 0, [], none⟩], 0, [zO 29 (.iaddr 2 (zT 18) (zT 19)),
 zN (.store 2 (zT 29) (zT 27))]⟩])
 (zA [zM 30 8,
 zJ 31 30 1,
 zM 8 31]
 (.reg [zM 32 9,
 zO 33 (.bin .sub (zT 32) (zI 1)),
 zM 9 33])))))))))
def g104 : Fn := ⟨4, 34, [], b104⟩
def b105 : AC :=
 (zA [zO 8 (.mov zF)]
 (zA [zM 13 1,
 zJ 14 13 1,
 zM 9 14]
 (.seq (zA [zC 10 0]
 (.block 0 (.loop (.seq (zA [zM 15 10,
 zO 16 (.bin .lss (zT 15) (zI 5))]
 (.cond (zT 16)
 .skip
 (.exit 0)))
 (.seq (.block 1 (.seq (.block 2 (.loop (.seq (.seq (.regd [⟨[zB 19 9,
 zB 20 2], 0, [zO 21 (.bin .lss (zT 19) (zT 20)),
 zM 22 21]⟩,
 ⟨[zP (zG 23 22 true (.mov (zT 3))),
 zP (zG 24 22 true (.mov (zT 0))),
 zP (zG 25 22 true (.mov (zT 9))),
 zP (zG 26 22 true (.iaddr 2 (zT 24) (zT 25))),
 zQ (zG 27 22 true (.load true 2 (zT 26))),
 zP (zG 28 22 true (.mov (zT 0))),
 zP (zG 29 22 true (.mov (zT 9))),
 zP (zG 30 22 true (.bin .sub (zT 29) (zI 1))),
 zP (zG 31 22 true (.iaddr 2 (zT 28) (zT 30))),
 zQ (zG 32 22 true (.load true 2 (zT 31)))], 0, [zG 33 22 true (.callv (zT 23) [(zT 27), (zT 32)]),
 zG 34 22 true (.bin .lss (zT 33) (zI 0)),
 zG 35 22 true (.un .not (zT 34)),
 zO 36 (.pick (zT 22) (zT 35) zF)]⟩])
 (.cond (zT 36)
 .skip
 (.exit 2)))
 (.block 3 (.reg [zM 37 9,
 zJ 38 37 1,
 zM 9 38])))))
 (.seq (zA [zM 39 9,
 zM 40 2,
 zO 41 (.bin .eql (zT 39) (zT 40))]
 (.cond (zT 41)
 (zA [zO 8 (.mov (.con (.bool true)))]
 .ret)
 .skip))
 (.seq (zA [zM 42 2,
 zM 43 1,
 zO 44 (.bin .sub (zT 42) (zT 43)),
 zO 45 (.bin .lss (zT 44) (zI 50))]
 (.cond (zT 45)
 (zA [zO 8 (.mov zF)]
 .ret)
 .skip))
 (.seq (.regd [⟨[zB 46 0,
 zB 47 9,
 zB 48 0,
 zB 49 9,
 zP (zO 50 (.bin .sub (zT 49) (zI 1))),
 zB 51 0,
 zB 52 9,
 zP (zO 53 (.bin .sub (zT 52) (zI 1))),
 zP (zO 54 (.iaddr 2 (zT 51) (zT 53))),
 zQ (zE 55 2 54),
 zB 56 0,
 zB 57 9,
 zP (zO 58 (.iaddr 2 (zT 56) (zT 57))),
 zQ (zE 59 2 58),
 zP (zO 60 (.iaddr 2 (zT 46) (zT 47))),
 ⟨zN (.store 2 (zT 60) (zT 55)), false, true, false, 0, [], none⟩], 0, [zO 61 (.iaddr 2 (zT 48) (zT 50)),
 zN (.store 2 (zT 61) (zT 59))]⟩])
 (.seq (zA [zM 62 9,
 zM 63 1,
 zO 64 (.bin .sub (zT 62) (zT 63)),
 zO 65 (.bin .geq (zT 64) (zI 2))]
 (.cond (zT 65)
 (zA [zM 66 9,
 zO 67 (.bin .sub (zT 66) (zI 1)),
 zM 11 67]
 (.block 4 (.loop (.seq (zA [zM 68 11,
 zO 69 (.bin .geq (zT 68) (zI 1))]
 (.cond (zT 69)
 .skip
 (.exit 4)))
 (.seq (.block 5 (.seq (.seq (.regd [⟨[zB 72 3,
 zB 73 0,
 zB 74 11,
 zP (zO 75 (.iaddr 2 (zT 73) (zT 74))),
 zQ (zE 76 2 75),
 zB 77 0,
 zB 78 11,
 zP (zO 79 (.bin .sub (zT 78) (zI 1))),
 zP (zO 80 (.iaddr 2 (zT 77) (zT 79))),
 zQ (zE 81 2 80)], 0, [zO 82 (.callv (zT 72) [(zT 76), (zT 81)]),
 zO 83 (.bin .lss (zT 82) (zI 0)),
 zO 84 (.un .not (zT 83))]⟩])
 (.cond (zT 84)
 (.exit 4)
 .skip))
 (.regd [⟨[zB 85 0,
 zB 86 11,
 zB 87 0,
 zB 88 11,
 zP (zO 89 (.bin .sub (zT 88) (zI 1))),
 zB 90 0,
 zB 91 11,
 zP (zO 92 (.bin .sub (zT 91) (zI 1))),
 zP (zO 93 (.iaddr 2 (zT 90) (zT 92))),
 zQ (zE 94 2 93),
 zB 95 0,
 zB 96 11,
 zP (zO 97 (.iaddr 2 (zT 95) (zT 96))),
 zQ (zE 98 2 97),
 zP (zO 99 (.iaddr 2 (zT 85) (zT 86))),
 ⟨zN (.store 2 (zT 99) (zT 94)), false, true, false, 0, [], none⟩], 0, [zO 100 (.iaddr 2 (zT 87) (zT 89)),
 zN (.store 2 (zT 100) (zT 98))]⟩])))
 (.reg [zM 70 11,
 zO 71 (.bin .sub (zT 70) (zI 1)),
 zM 11 71]))))))
 .skip))
 (zA [zM 101 2,
 zM 102 9,
 zO 103 (.bin .sub (zT 101) (zT 102)),
 zO 104 (.bin .geq (zT 103) (zI 2))]
 (.cond (zT 104)
 (zA [zM 105 9,
 zJ 106 105 1,
 zM 12 106]
 (.block 6 (.loop (.seq (zA [zM 107 12,
 zM 108 2,
 zO 109 (.bin .lss (zT 107) (zT 108))]
 (.cond (zT 109)
 .skip
 (.exit 6)))
 (.seq (.block 7 (.seq (.seq (.regd [⟨[zB 112 3,
 zB 113 0,
 zB 114 12,
 zP (zO 115 (.iaddr 2 (zT 113) (zT 114))),
 zQ (zE 116 2 115),
 zB 117 0,
 zB 118 12,
 zP (zO 119 (.bin .sub (zT 118) (zI 1))),
 zP (zO 120 (.iaddr 2 (zT 117) (zT 119))),
 zQ (zE 121 2 120)], 0, [zO 122 (.callv (zT 112) [(zT 116), (zT 121)]),
 zO 123 (.bin .lss (zT 122) (zI 0)),
 zO 124 (.un .not (zT 123))]⟩])
 (.cond (zT 124)
 (.exit 6)
 .skip))
 (.regd [⟨[zB 125 0,
 zB 126 12,
 zB 127 0,
 zB 128 12,
 zP (zO 129 (.bin .sub (zT 128) (zI 1))),
 zB 130 0,
 zB 131 12,
 zP (zO 132 (.bin .sub (zT 131) (zI 1))),
 zP (zO 133 (.iaddr 2 (zT 130) (zT 132))),
 zQ (zE 134 2 133),
 zB 135 0,
 zB 136 12,
 zP (zO 137 (.iaddr 2 (zT 135) (zT 136))),
 zQ (zE 138 2 137),
 zP (zO 139 (.iaddr 2 (zT 125) (zT 126))),
 ⟨zN (.store 2 (zT 139) (zT 134)), false, true, false, 0, [], none⟩], 0, [zO 140 (.iaddr 2 (zT 127) (zT 129)),
 zN (.store 2 (zT 140) (zT 138))]⟩])))
 (.reg [zM 110 12,
 zJ 111 110 1,
 zM 12 111]))))))
 .skip))))))))
 (.reg [zM 17 10,
 zJ 18 17 1,
 zM 10 18]))))))
 (zA [zO 8 (.mov zF)]
 .ret))))
def g105 : Fn := ⟨4, 141, [.tmp 8], b105⟩
def b106 : AC :=
 (zA [zC 10 0]
 (.seq (.regd [⟨[zB 13 0,
 zB 14 1,
 zB 15 0,
 zB 16 3,
 zB 17 0,
 zB 18 3,
 zP (zO 19 (.iaddr 2 (zT 17) (zT 18))),
 zQ (zE 20 2 19),
 zB 21 0,
 zB 22 1,
 zP (zO 23 (.iaddr 2 (zT 21) (zT 22))),
 zQ (zE 24 2 23),
 zP (zO 25 (.iaddr 2 (zT 13) (zT 14))),
 ⟨zN (.store 2 (zT 25) (zT 20)), false, true, false, 0, [], none⟩], 0, [zO 26 (.iaddr 2 (zT 15) (zT 16)),
 zN (.store 2 (zT 26) (zT 24))]⟩])
 (zA [zM 27 1,
 zJ 28 27 1,
 zM 29 2,
 zO 30 (.bin .sub (zT 29) (zI 1)),
 zM 11 28,
 zM 12 30]
 (.seq (.block 0 (.loop (.block 1 (.seq (.block 2 (.loop (.seq (.seq (.regd [⟨[zB 31 11,
 zB 32 12], 0, [zO 33 (.bin .leq (zT 31) (zT 32)),
 zM 34 33]⟩,
 ⟨[zP (zG 35 34 true (.mov (zT 4))),
 zP (zG 36 34 true (.mov (zT 0))),
 zP (zG 37 34 true (.mov (zT 1))),
 zP (zG 38 34 true (.iaddr 2 (zT 36) (zT 37))),
 zQ (zG 39 34 true (.load true 2 (zT 38))),
 zP (zG 40 34 true (.mov (zT 0))),
 zP (zG 41 34 true (.mov (zT 11))),
 zP (zG 42 34 true (.iaddr 2 (zT 40) (zT 41))),
 zQ (zG 43 34 true (.load true 2 (zT 42)))], 0, [zG 44 34 true (.callv (zT 35) [(zT 39), (zT 43)]),
 zG 45 34 true (.bin .lss (zT 44) (zI 0)),
 zG 46 34 true (.un .not (zT 45)),
 zO 47 (.pick (zT 34) (zT 46) zF)]⟩])
 (.cond (zT 47)
 .skip
 (.exit 2)))
 (.block 3 (.reg [zM 48 11,
 zJ 49 48 1,
 zM 11 49])))))
 (.seq (.block 4 (.loop (.seq (.seq (.regd [⟨[zB 50 11,
 zB 51 12], 0, [zO 52 (.bin .leq (zT 50) (zT 51)),
 zM 53 52]⟩,
 ⟨[zP (zG 54 53 true (.mov (zT 4))),
 zP (zG 55 53 true (.mov (zT 0))),
 zP (zG 56 53 true (.mov (zT 1))),
 zP (zG 57 53 true (.iaddr 2 (zT 55) (zT 56))),
 zQ (zG 58 53 true (.load true 2 (zT 57))),
 zP (zG 59 53 true (.mov (zT 0))),
 zP (zG 60 53 true (.mov (zT 12))),
 zP (zG 61 53 true (.iaddr 2 (zT 59) (zT 60))),
 zQ (zG 62 53 true (.load true 2 (zT 61)))], 0, [zG 63 53 true (.callv (zT 54) [(zT 58), (zT 62)]),
 zG 64 53 true (.bin .lss (zT 63) (zI 0)),
 zO 65 (.pick (zT 53) (zT 64) zF)]⟩])
 (.cond (zT 65)
 .skip
 (.exit 4)))
 (.block 5 (.reg [zM 66 12,
 zO 67 (.bin .sub (zT 66) (zI 1)),
 zM 12 67])))))
 (.seq (zA [zM 68 11,
 zM 69 12,
 zO 70 (.bin .gtr (zT 68) (zT 69))]
 (.cond (zT 70)
 (.exit 0)
 .skip))
 (.seq (.regd [⟨[zB 71 0,
 zB 72 11,
 zB 73 0,
 zB 74 12,
 zB 75 0,
 zB 76 12,
 zP (zO 77 (.iaddr 2 (zT 75) (zT 76))),
 zQ (zE 78 2 77),
 zB 79 0,
 zB 80 11,
 zP (zO 81 (.iaddr 2 (zT 79) (zT 80))),
 zQ (zE 82 2 81),
 zP (zO 83 (.iaddr 2 (zT 71) (zT 72))),
 ⟨zN (.store 2 (zT 83) (zT 78)), false, true, false, 0, [], none⟩], 0, [zO 84 (.iaddr 2 (zT 73) (zT 74)),
 zN (.store 2 (zT 84) (zT 82))]⟩])
 (zA [zM 85 11,
 zJ 86 85 1,
 zM 11 86]
 (.reg [zM 87 12,
 zO 88 (.bin .sub (zT 87) (zI 1)),
 zM 12 88])))))))))
 (zA [zM 89 11,
 zM 10 89]
 .ret)))))
def g106 : Fn := ⟨5, 90, [.tmp 10], b106⟩
def b107 : AC :=
 (zA [zC 10 0,
 zO 11 (.mov zF)]
 (.seq (.regd [⟨[zB 14 0,
 zB 15 1,
 zB 16 0,
 zB 17 3,
 zB 18 0,
 zB 19 3,
 zP (zO 20 (.iaddr 2 (zT 18) (zT 19))),
 zQ (zE 21 2 20),
 zB 22 0,
 zB 23 1,
 zP (zO 24 (.iaddr 2 (zT 22) (zT 23))),
 zQ (zE 25 2 24),
 zP (zO 26 (.iaddr 2 (zT 14) (zT 15))),
 ⟨zN (.store 2 (zT 26) (zT 21)), false, true, false, 0, [], none⟩], 0, [zO 27 (.iaddr 2 (zT 16) (zT 17)),
 zN (.store 2 (zT 27) (zT 25))]⟩])
 (zA [zM 28 1,
 zJ 29 28 1,
 zM 30 2,
 zO 31 (.bin .sub (zT 30) (zI 1)),
 zM 12 29,
 zM 13 31]
 (.seq (.block 0 (.loop (.seq (.seq (.regd [⟨[zB 32 12,
 zB 33 13], 0, [zO 34 (.bin .leq (zT 32) (zT 33)),
 zM 35 34]⟩,
 ⟨[zP (zG 36 35 true (.mov (zT 4))),
 zP (zG 37 35 true (.mov (zT 0))),
 zP (zG 38 35 true (.mov (zT 12))),
 zP (zG 39 35 true (.iaddr 2 (zT 37) (zT 38))),
 zQ (zG 40 35 true (.load true 2 (zT 39))),
 zP (zG 41 35 true (.mov (zT 0))),
 zP (zG 42 35 true (.mov (zT 1))),
 zP (zG 43 35 true (.iaddr 2 (zT 41) (zT 42))),
 zQ (zG 44 35 true (.load true 2 (zT 43)))], 0, [zG 45 35 true (.callv (zT 36) [(zT 40), (zT 44)]),
 zG 46 35 true (.bin .lss (zT 45) (zI 0)),
 zO 47 (.pick (zT 35) (zT 46) zF)]⟩])
 (.cond (zT 47)
 .skip
 (.exit 0)))
 (.block 1 (.reg [zM 48 12,
 zJ 49 48 1,
 zM 12 49])))))
 (.seq (.block 2 (.loop (.seq (.seq (.regd [⟨[zB 50 12,
 zB 51 13], 0, [zO 52 (.bin .leq (zT 50) (zT 51)),
 zM 53 52]⟩,
 ⟨[zP (zG 54 53 true (.mov (zT 4))),
 zP (zG 55 53 true (.mov (zT 0))),
 zP (zG 56 53 true (.mov (zT 13))),
 zP (zG 57 53 true (.iaddr 2 (zT 55) (zT 56))),
 zQ (zG 58 53 true (.load true 2 (zT 57))),
 zP (zG 59 53 true (.mov (zT 0))),
 zP (zG 60 53 true (.mov (zT 1))),
 zP (zG 61 53 true (.iaddr 2 (zT 59) (zT 60))),
 zQ (zG 62 53 true (.load true 2 (zT 61)))], 0, [zG 63 53 true (.callv (zT 54) [(zT 58), (zT 62)]),
 zG 64 53 true (.bin .lss (zT 63) (zI 0)),
 zG 65 53 true (.un .not (zT 64)),
 zO 66 (.pick (zT 53) (zT 65) zF)]⟩])
 (.cond (zT 66)
 .skip
 (.exit 2)))
 (.block 3 (.reg [zM 67 13,
 zO 68 (.bin .sub (zT 67) (zI 1)),
 zM 13 68])))))
 (.seq (zA [zM 69 12,
 zM 70 13,
 zO 71 (.bin .gtr (zT 69) (zT 70))]
 (.cond (zT 71)
 (.seq (.regd [⟨[zB 72 0,
 zB 73 13,
 zB 74 0,
 zB 75 1,
 zB 76 0,
 zB 77 1,
 zP (zO 78 (.iaddr 2 (zT 76) (zT 77))),
 zQ (zE 79 2 78),
 zB 80 0,
 zB 81 13,
 zP (zO 82 (.iaddr 2 (zT 80) (zT 81))),
 zQ (zE 83 2 82),
 zP (zO 84 (.iaddr 2 (zT 72) (zT 73))),
 ⟨zN (.store 2 (zT 84) (zT 79)), false, true, false, 0, [], none⟩], 0, [zO 85 (.iaddr 2 (zT 74) (zT 75)),
 zN (.store 2 (zT 85) (zT 83))]⟩])
 (zA [zM 86 13,
 zM 10 86,
 zO 11 (.mov (.con (.bool true)))]
 .ret))
 .skip))
 (.seq (.regd [⟨[zB 87 0,
 zB 88 12,
 zB 89 0,
 zB 90 13,
 zB 91 0,
 zB 92 13,
 zP (zO 93 (.iaddr 2 (zT 91) (zT 92))),
 zQ (zE 94 2 93),
 zB 95 0,
 zB 96 12,
 zP (zO 97 (.iaddr 2 (zT 95) (zT 96))),
 zQ (zE 98 2 97),
 zP (zO 99 (.iaddr 2 (zT 87) (zT 88))),
 ⟨zN (.store 2 (zT 99) (zT 94)), false, true, false, 0, [], none⟩], 0, [zO 100 (.iaddr 2 (zT 89) (zT 90)),
 zN (.store 2 (zT 100) (zT 98))]⟩])
 (zA [zM 101 12,
 zJ 102 101 1,
 zM 12 102]
 (zA [zM 103 13,
 zO 104 (.bin .sub (zT 103) (zI 1)),
 zM 13 104]
 (.seq (.block 4 (.loop (.block 5 (.seq (.block 6 (.loop (.seq (.seq (.regd [⟨[zB 105 12,
 zB 106 13], 0, [zO 107 (.bin .leq (zT 105) (zT 106)),
 zM 108 107]⟩,
 ⟨[zP (zG 109 108 true (.mov (zT 4))),
 zP (zG 110 108 true (.mov (zT 0))),
 zP (zG 111 108 true (.mov (zT 12))),
 zP (zG 112 108 true (.iaddr 2 (zT 110) (zT 111))),
 zQ (zG 113 108 true (.load true 2 (zT 112))),
 zP (zG 114 108 true (.mov (zT 0))),
 zP (zG 115 108 true (.mov (zT 1))),
 zP (zG 116 108 true (.iaddr 2 (zT 114) (zT 115))),
 zQ (zG 117 108 true (.load true 2 (zT 116)))], 0, [zG 118 108 true (.callv (zT 109) [(zT 113), (zT 117)]),
 zG 119 108 true (.bin .lss (zT 118) (zI 0)),
 zO 120 (.pick (zT 108) (zT 119) zF)]⟩])
 (.cond (zT 120)
 .skip
 (.exit 6)))
 (.block 7 (.reg [zM 121 12,
 zJ 122 121 1,
 zM 12 122])))))
 (.seq (.block 8 (.loop (.seq (.seq (.regd [⟨[zB 123 12,
 zB 124 13], 0, [zO 125 (.bin .leq (zT 123) (zT 124)),
 zM 126 125]⟩,
 ⟨[zP (zG 127 126 true (.mov (zT 4))),
 zP (zG 128 126 true (.mov (zT 0))),
 zP (zG 129 126 true (.mov (zT 13))),
 zP (zG 130 126 true (.iaddr 2 (zT 128) (zT 129))),
 zQ (zG 131 126 true (.load true 2 (zT 130))),
 zP (zG 132 126 true (.mov (zT 0))),
 zP (zG 133 126 true (.mov (zT 1))),
 zP (zG 134 126 true (.iaddr 2 (zT 132) (zT 133))),
 zQ (zG 135 126 true (.load true 2 (zT 134)))], 0, [zG 136 126 true (.callv (zT 127) [(zT 131), (zT 135)]),
 zG 137 126 true (.bin .lss (zT 136) (zI 0)),
 zG 138 126 true (.un .not (zT 137)),
 zO 139 (.pick (zT 126) (zT 138) zF)]⟩])
 (.cond (zT 139)
 .skip
 (.exit 8)))
 (.block 9 (.reg [zM 140 13,
 zO 141 (.bin .sub (zT 140) (zI 1)),
 zM 13 141])))))
 (.seq (zA [zM 142 12,
 zM 143 13,
 zO 144 (.bin .gtr (zT 142) (zT 143))]
 (.cond (zT 144)
 (.exit 4)
 .skip))
 (.seq (.regd [⟨[zB 145 0,
 zB 146 12,
 zB 147 0,
 zB 148 13,
 zB 149 0,
 zB 150 13,
 zP (zO 151 (.iaddr 2 (zT 149) (zT 150))),
 zQ (zE 152 2 151),
 zB 153 0,
 zB 154 12,
 zP (zO 155 (.iaddr 2 (zT 153) (zT 154))),
 zQ (zE 156 2 155),
 zP (zO 157 (.iaddr 2 (zT 145) (zT 146))),
 ⟨zN (.store 2 (zT 157) (zT 152)), false, true, false, 0, [], none⟩], 0, [zO 158 (.iaddr 2 (zT 147) (zT 148)),
 zN (.store 2 (zT 158) (zT 156))]⟩])
 (zA [zM 159 12,
 zJ 160 159 1,
 zM 12 160]
 (.reg [zM 161 13,
 zO 162 (.bin .sub (zT 161) (zI 1)),
 zM 13 162])))))))))
 (.seq (.regd [⟨[zB 163 0,
 zB 164 13,
 zB 165 0,
 zB 166 1,
 zB 167 0,
 zB 168 1,
 zP (zO 169 (.iaddr 2 (zT 167) (zT 168))),
 zQ (zE 170 2 169),
 zB 171 0,
 zB 172 13,
 zP (zO 173 (.iaddr 2 (zT 171) (zT 172))),
 zQ (zE 174 2 173),
 zP (zO 175 (.iaddr 2 (zT 163) (zT 164))),
 ⟨zN (.store 2 (zT 175) (zT 170)), false, true, false, 0, [], none⟩], 0, [zO 176 (.iaddr 2 (zT 165) (zT 166)),
 zN (.store 2 (zT 176) (zT 174))]⟩])
 (zA [zM 177 13,
 zM 10 177,
 zO 11 (.mov zF)]
 .ret))))))))))))
def g107 : Fn := ⟨5, 178, [.tmp 10, .tmp 11], b107⟩
def b108 : AC :=
 (zA [zC 2 0]
 (.seq (zA [zM 3 0,
 zO 4 (.bin .geq (zT 3) (.con (.int .u32 65536)))]
 (.cond (zT 4)
 (zA [zM 5 0,
 zO 6 (.bin .shr (zT 5) (.con (.int .u64 16))),
 zM 0 6]
 (.reg [zC 2 16]))
 .skip))
 (.seq (zA [zM 7 0,
 zO 8 (.bin .geq (zT 7) (.con (.int .u32 256)))]
 (.cond (zT 8)
 (zA [zM 9 0,
 zO 10 (.bin .shr (zT 9) (.con (.int .u64 8))),
 zM 0 10]
 (.reg [zM 11 2,
 zJ 12 11 8,
 zM 2 12]))
 .skip))
 (zA [zM 13 2,
 zM 14 0,
 zO 15 (.conv .u8 (zT 14)),
 ⟨(some 16), none, .idxS (.con (.str ⟨#[0, 1, 2, 2, 3, 3, 3, 3, 4, 4, 4, 4, 4, 4, 4, 4, 5, 5, 5, 5, 5, 5, 5, 5, 5, 5, 5, 5, 5, 5, 5, 5, 6, 6, 6, 6, 6, 6, 6, 6, 6, 6, 6, 6, 6, 6, 6, 6, 6, 6, 6, 6, 6, 6, 6, 6, 6, 6, 6, 6, 6, 6, 6, 6, 7, 7, 7, 7, 7, 7, 7, 7, 7, 7, 7, 7, 7, 7, 7, 7, 7, 7, 7, 7, 7, 7, 7, 7, 7, 7, 7, 7, 7, 7, 7, 7, 7, 7, 7, 7, 7, 7, 7, 7, 7, 7, 7, 7, 7, 7, 7, 7, 7, 7, 7, 7, 7, 7, 7, 7, 7, 7, 7, 7, 7, 7, 7, 7, 8, 8, 8, 8, 8, 8, 8, 8, 8, 8, 8, 8, 8, 8, 8, 8, 8, 8, 8, 8, 8, 8, 8, 8, 8, 8, 8, 8, 8, 8, 8, 8, 8, 8, 8, 8, 8, 8, 8, 8, 8, 8, 8, 8, 8, 8, 8, 8, 8, 8, 8, 8, 8, 8, 8, 8, 8, 8, 8, 8, 8, 8, 8, 8, 8, 8, 8, 8, 8, 8, 8, 8, 8, 8, 8, 8, 8, 8, 8, 8, 8, 8, 8, 8, 8, 8, 8, 8, 8, 8, 8, 8, 8, 8, 8, 8, 8, 8, 8, 8, 8, 8, 8, 8, 8, 8, 8, 8, 8, 8, 8, 8, 8, 8, 8, 8, 8, 8, 8, 8, 8, 8, 8, 8, 8, 8, 8, 8]⟩)) (zT 15)⟩,
 zO 17 (.conv .i64 (zT 16)),
 zO 18 (.bin .add (zT 13) (zT 17)),
 zM 2 18]
 .ret))))
def g108 : Fn := ⟨1, 19, [.tmp 2], b108⟩
def b109 : AC :=
 (zA [zC 2 0]
 (.seq (zA [zM 3 0,
 zO 4 (.bin .geq (zT 3) (.con (.int .u64 4294967296)))]
 (.cond (zT 4)
 (zA [zM 5 0,
 zO 6 (.bin .shr (zT 5) (.con (.int .u64 32))),
 zM 0 6]
 (.reg [zC 2 32]))
 .skip))
 (.seq (zA [zM 7 0,
 zO 8 (.bin .geq (zT 7) (.con (.int .u64 65536)))]
 (.cond (zT 8)
 (zA [zM 9 0,
 zO 10 (.bin .shr (zT 9) (.con (.int .u64 16))),
 zM 0 10]
 (.reg [zM 11 2,
 zJ 12 11 16,
 zM 2 12]))
 .skip))
 (.seq (zA [zM 13 0,
 zO 14 (.bin .geq (zT 13) (.con (.int .u64 256)))]
 (.cond (zT 14)
 (zA [zM 15 0,
 zO 16 (.bin .shr (zT 15) (.con (.int .u64 8))),
 zM 0 16]
 (.reg [zM 17 2,
 zJ 18 17 8,
 zM 2 18]))
 .skip))
 (zA [zM 19 2,
 zM 20 0,
 zO 21 (.conv .u8 (zT 20)),
 ⟨(some 22), none, .idxS (.con (.str ⟨#[0, 1, 2, 2, 3, 3, 3, 3, 4, 4, 4, 4, 4, 4, 4, 4, 5, 5, 5, 5, 5, 5, 5, 5, 5, 5, 5, 5, 5, 5, 5, 5, 6, 6, 6, 6, 6, 6, 6, 6, 6, 6, 6, 6, 6, 6, 6, 6, 6, 6, 6, 6, 6, 6, 6, 6, 6, 6, 6, 6, 6, 6, 6, 6, 7, 7, 7, 7, 7, 7, 7, 7, 7, 7, 7, 7, 7, 7, 7, 7, 7, 7, 7, 7, 7, 7, 7, 7, 7, 7, 7, 7, 7, 7, 7, 7, 7, 7, 7, 7, 7, 7, 7, 7, 7, 7, 7, 7, 7, 7, 7, 7, 7, 7, 7, 7, 7, 7, 7, 7, 7, 7, 7, 7, 7, 7, 7, 7, 8, 8, 8, 8, 8, 8, 8, 8, 8, 8, 8, 8, 8, 8, 8, 8, 8, 8, 8, 8, 8, 8, 8, 8, 8, 8, 8, 8, 8, 8, 8, 8, 8, 8, 8, 8, 8, 8, 8, 8, 8, 8, 8, 8, 8, 8, 8, 8, 8, 8, 8, 8, 8, 8, 8, 8, 8, 8, 8, 8, 8, 8, 8, 8, 8, 8, 8, 8, 8, 8, 8, 8, 8, 8, 8, 8, 8, 8, 8, 8, 8, 8, 8, 8, 8, 8, 8, 8, 8, 8, 8, 8, 8, 8, 8, 8, 8, 8, 8, 8, 8, 8, 8, 8, 8, 8, 8, 8, 8, 8, 8, 8, 8, 8, 8, 8, 8, 8, 8, 8, 8, 8, 8, 8, 8, 8, 8, 8]⟩)) (zT 21)⟩,
 zO 23 (.conv .i64 (zT 22)),
 zO 24 (.bin .add (zT 19) (zT 23)),
 zM 2 24]
 .ret)))))
def g109 : Fn := ⟨1, 25, [.tmp 2], b109⟩
def b110 : AC :=
 (zA [zO 4 (.mov zF)]
 (.seq (zA [zM 6 0,
 zH 7 6,
 zM 8 1,
 zH 9 8,
 zO 10 (.bin .neq (zT 7) (zT 9))]
 (.cond (zT 10)
 (zA [zO 4 (.mov zF)]
 .ret)
 .skip))
 (.seq (zA [zM 11 0,
 zH 12 11,
 zC 13 0]
 (.block 0 (.loop (zA [zO 14 (.bin .lss (zT 13) (zT 12))]
 (.seq (.cond (zT 14)
 .skip
 (.exit 0))
 (.seq (.block 1 (zA [zM 15 13,
 zM 5 15]
 (.seq (.regd [⟨[zB 16 0,
 zB 17 5,
 zP (zO 18 (.iaddr 1 (zT 16) (zT 17))),
 zQ (zL 19 18),
 zB 20 1,
 zB 21 5,
 zP (zO 22 (.iaddr 1 (zT 20) (zT 21))),
 zQ (zL 23 22)], 0, [zO 24 (.bin .neq (zT 19) (zT 23))]⟩])
 (.cond (zT 24)
 (zA [zO 4 (.mov zF)]
 .ret)
 .skip))))
 (.reg [zJ 25 13 1,
 zM 13 25])))))))
 (zA [zO 4 (.mov (.con (.bool true)))]
 .ret))))
def g110 : Fn := ⟨2, 26, [.tmp 4], b110⟩
def b111 : AC :=
 (zA [zK 2 0,
 zO 4 (.mov (.con .nilS))]
 (zA [zO 9 (.build [.nilS] []),
 zK 10 9,
 zO 5 (.alloc .nilP),
 zN (.store 1 (zT 5) (zT 10))]
 (zA [zO 11 (.mkfn 117 [(zT 5), (zT 2)]),
 zO 6 (.alloc .nilF),
 zN (.store 1 (zT 6) (zT 11))]
 (.seq (zA [zM 12 1,
 zO 13 (.call 119 [(zT 12)])]
 (.block 0 (.rangeF (zT 13) [14]
 (.reg [zO 7 (.alloc (.agg [(.int .u64 0), (.int .u64 0)])),
 zN (.store 2 (zT 7) (zT 14))])
 (.block 1 (.seq (zA [zL 15 6,
 zE 16 2 7,
 zO 17 (.callv (zT 15) [(zT 16)]),
 zO 18 (.un .not (zT 17))]
 (.cond (zT 18)
 (.exit 1)
 .skip))
 (zA [zL 19 5,
 zO 20 (.mkif 169 (zT 19)),
 zE 21 2 7,
 zO 22 (.mkif 57 (zT 21)),
 zO 23 (.call 120 [(zT 20), (zT 22)])]
 (.seq (.regd [⟨[zQ (zL 24 5),
 zP (zO 25 (.nilck (zT 24))),
 zP (zD 26 25 0),
 zQ (zL 27 26),
 zQ (zO 28 (.call 118 [(zT 27)])),
 zQ (zL 29 2)], 0, [zO 30 (.bin .gtr (zT 28) (zT 29))]⟩])
 (.cond (zT 30)
 (.reg [zL 31 5,
 zO 32 (.mkif 169 (zT 31)),
 zO 33 (.call 121 [(zT 32)])])
 .skip))))))))
 (zA [zL 34 5,
 zO 35 (.nilck (zT 34)),
 zD 36 35 0,
 zL 37 36,
 zO 38 (.call 122 [(zT 37)]),
 zM 8 38]
 (zA [zM 39 8,
 zO 40 (.call 64 [(zT 39), (.con (.fn 45 []))])]
 (zA [zM 41 8,
 zM 4 41]
 .ret)))))))
def g111 : Fn := ⟨2, 42, [.tmp 4], b111⟩
def b112 : AC :=
 (zA [zM 12 1,
 zM 10 12]
 (.block 0 (.loop (.block 1 (zA [zM 13 10,
 zO 14 (.bin .mul (zI 2) (zT 13)),
 zJ 15 14 1,
 zM 11 15]
 (.seq (zA [zM 16 11,
 zM 17 2,
 zO 18 (.bin .geq (zT 16) (zT 17))]
 (.cond (zT 18)
 (.exit 0)
 .skip))
 (.seq (.seq (.regd [⟨[zB 19 11,
 zP (zJ 20 19 1),
 zB 21 2], 0, [zO 22 (.bin .lss (zT 20) (zT 21)),
 zM 23 22]⟩,
 ⟨[zP (zG 24 23 true (.mov (zT 4))),
 zP (zG 25 23 true (.mov (zT 0))),
 zP (zG 26 23 true (.mov (zT 3))),
 zP (zG 27 23 true (.mov (zT 11))),
 zP (zG 28 23 true (.bin .add (zT 26) (zT 27))),
 zP (zG 29 23 true (.iaddr 2 (zT 25) (zT 28))),
 zQ (zG 30 23 true (.load true 2 (zT 29))),
 zP (zG 31 23 true (.mov (zT 0))),
 zP (zG 32 23 true (.mov (zT 3))),
 zP (zG 33 23 true (.mov (zT 11))),
 zP (zG 34 23 true (.bin .add (zT 32) (zT 33))),
 zP (zG 35 23 true (.bin .add (zT 34) (zI 1))),
 zP (zG 36 23 true (.iaddr 2 (zT 31) (zT 35))),
 zQ (zG 37 23 true (.load true 2 (zT 36)))], 0, [zG 38 23 true (.callv (zT 24) [(zT 30), (zT 37)]),
 zG 39 23 true (.bin .lss (zT 38) (zI 0)),
 zO 40 (.pick (zT 23) (zT 39) zF)]⟩])
 (.cond (zT 40)
 (.reg [zM 41 11,
 zJ 42 41 1,
 zM 11 42])
 .skip))
 (.seq (.seq (.regd [⟨[zB 43 4,
 zB 44 0,
 zB 45 3,
 zB 46 10,
 zP (zO 47 (.bin .add (zT 45) (zT 46))),
 zP (zO 48 (.iaddr 2 (zT 44) (zT 47))),
 zQ (zE 49 2 48),
 zB 50 0,
 zB 51 3,
 zB 52 11,
 zP (zO 53 (.bin .add (zT 51) (zT 52))),
 zP (zO 54 (.iaddr 2 (zT 50) (zT 53))),
 zQ (zE 55 2 54)], 0, [zO 56 (.callv (zT 43) [(zT 49), (zT 55)]),
 zO 57 (.bin .lss (zT 56) (zI 0)),
 zO 58 (.un .not (zT 57))]⟩])
 (.cond (zT 58)
 .ret
 .skip))
 (.seq (.regd [⟨[zB 59 0,
 zB 60 3,
 zB 61 10,
 zP (zO 62 (.bin .add (zT 60) (zT 61))),
 zB 63 0,
 zB 64 3,
 zB 65 11,
 zP (zO 66 (.bin .add (zT 64) (zT 65))),
 zB 67 0,
 zB 68 3,
 zB 69 11,
 zP (zO 70 (.bin .add (zT 68) (zT 69))),
 zP (zO 71 (.iaddr 2 (zT 67) (zT 70))),
 zQ (zE 72 2 71),
 zB 73 0,
 zB 74 3,
 zB 75 10,
 zP (zO 76 (.bin .add (zT 74) (zT 75))),
 zP (zO 77 (.iaddr 2 (zT 73) (zT 76))),
 zQ (zE 78 2 77),
 zP (zO 79 (.iaddr 2 (zT 59) (zT 62))),
 ⟨zN (.store 2 (zT 79) (zT 72)), false, true, false, 0, [], none⟩], 0, [zO 80 (.iaddr 2 (zT 63) (zT 66)),
 zN (.store 2 (zT 80) (zT 78))]⟩])
 (.reg [zM 81 11,
 zM 10 81]))))))))))
def g112 : Fn := ⟨5, 82, [], b112⟩
def b113 : AC :=
 (zA [zO 2 (.mov (.con (.int .u64 0)))]
 (zA [zM 3 0,
 zO 4 (.conv .u64 (zT 3)),
 zO 5 (.call 92 [(zT 4)]),
 zO 6 (.bin .shl (.con (.int .u64 1)) (zT 5)),
 zM 2 6]
 .ret))
def g113 : Fn := ⟨1, 7, [.tmp 2], b113⟩
def b114 : AC :=
 (zA [zO 2 (.mov (.con (.int .u64 0)))]
 (.seq (.regd [⟨[zB 3 0,
 zP (zO 4 (.nilck (zT 3))),
 zQ (zL 5 4),
 zB 6 0,
 zP (zO 7 (.nilck (zT 6))),
 zQ (zL 8 7),
 zP (zO 9 (.bin .shl (zT 8) (.con (.int .u64 13))))], 0, [zO 10 (.bin .xor (zT 5) (zT 9)),
 zO 11 (.nilck (zT 3)),
 zN (.store 1 (zT 11) (zT 10))]⟩])
 (.seq (.regd [⟨[zB 12 0,
 zP (zO 13 (.nilck (zT 12))),
 zQ (zL 14 13),
 zB 15 0,
 zP (zO 16 (.nilck (zT 15))),
 zQ (zL 17 16),
 zP (zO 18 (.bin .shr (zT 17) (.con (.int .u64 7))))], 0, [zO 19 (.bin .xor (zT 14) (zT 18)),
 zO 20 (.nilck (zT 12)),
 zN (.store 1 (zT 20) (zT 19))]⟩])
 (.seq (.regd [⟨[zB 21 0,
 zP (zO 22 (.nilck (zT 21))),
 zQ (zL 23 22),
 zB 24 0,
 zP (zO 25 (.nilck (zT 24))),
 zQ (zL 26 25),
 zP (zO 27 (.bin .shl (zT 26) (.con (.int .u64 17))))], 0, [zO 28 (.bin .xor (zT 23) (zT 27)),
 zO 29 (.nilck (zT 21)),
 zN (.store 1 (zT 29) (zT 28))]⟩])
 (zA [zM 30 0,
 zO 31 (.nilck (zT 30)),
 zL 32 31,
 zM 2 32]
 .ret)))))
def g114 : Fn := ⟨1, 33, [.tmp 2], b114⟩
def b115 : AC :=
 (zA [zC 8 0]
 (zA [zM 9 0,
 zM 10 1,
 zO 11 (.bin .sub (zT 10) (zI 1)),
 zM 12 1,
 zM 13 1,
 zJ 14 13 1,
 zM 15 2,
 zM 16 3,
 zO 17 (.call 116 [(zT 9), (zT 11), (zT 12), (zT 14), (zT 15), (zT 16)]),
 zM 8 17]
 .ret))
def g115 : Fn := ⟨4, 18, [.tmp 8], b115⟩
def b116 : AC :=
 (zA [zC 12 0]
 (zA [zM 14 0,
 zM 15 1,
 zM 16 2,
 zM 17 4,
 zM 18 5,
 zO 19 (.call 123 [(zT 14), (zT 15), (zT 16), (zT 17), (zT 18)]),
 zM 13 19,
 zO 20 (.ext (zT 13) 0),
 zO 21 (.ext (zT 13) 1),
 zM 1 20,
 zM 2 21]
 (zA [zM 23 0,
 zM 24 2,
 zM 25 3,
 zM 26 4,
 zM 27 5,
 zO 28 (.call 123 [(zT 23), (zT 24), (zT 25), (zT 26), (zT 27)]),
 zM 22 28,
 zO 29 (.ext (zT 22) 0),
 zO 30 (.ext (zT 22) 1),
 zM 2 29,
 zM 3 30]
 (zA [zM 32 0,
 zM 33 1,
 zM 34 2,
 zM 35 4,
 zM 36 5,
 zO 37 (.call 123 [(zT 32), (zT 33), (zT 34), (zT 35), (zT 36)]),
 zM 31 37,
 zO 38 (.ext (zT 31) 0),
 zO 39 (.ext (zT 31) 1),
 zM 1 38,
 zM 2 39]
 (zA [zM 40 2,
 zM 12 40]
 .ret)))))
def g116 : Fn := ⟨6, 41, [.tmp 12], b116⟩
def b117 : AC :=
 (zA [zK 3 0,
 zO 4 (.mov zF)]
 (.seq (.regd [⟨[zQ (zL 5 1),
 zP (zO 6 (.nilck (zT 5))),
 zP (zD 7 6 0),
 zQ (zL 8 7),
 zQ (zO 9 (.call 118 [(zT 8)])),
 zQ (zL 10 2)], 0, [zO 11 (.bin .lss (zT 9) (zT 10)),
 zM 12 11]⟩,
 ⟨[zQ (zG 13 12 false (.load true 2 (zT 3))),
 zQ (zG 14 12 false (.load false 1 (zT 1))),
 zP (zG 15 12 false (.nilck (zT 14))),
 zP (zG 16 12 false (.faddr (zT 15) 0)),
 zQ (zG 17 12 false (.load false 1 (zT 16))),
 zP (zG 18 12 false (.iaddr 2 (zT 17) (zI 0))),
 zQ (zG 19 12 false (.load true 2 (zT 18)))], 0, [zG 20 12 false (.call 45 [(zT 13), (zT 19)]),
 zG 21 12 false (.bin .lss (zT 20) (zI 0)),
 zO 22 (.pick (zT 12) (.con (.bool true)) (zT 21)),
 zM 4 22]⟩])
 .ret))
def g117 : Fn := ⟨3, 23, [.tmp 4], b117⟩
def b118 : AC :=
 (zA [zC 2 0]
 (zA [zM 3 0,
 zH 4 3,
 zM 2 4]
 .ret))
def g118 : Fn := ⟨1, 5, [.tmp 2], b118⟩
def b119 : AC :=
 (zA [zK 1 0,
 zO 2 (.mov (.con .nilF))]
 (zA [zO 3 (.mkfn 124 [(zT 1)]),
 zM 2 3]
 .ret))
def g119 : Fn := ⟨1, 4, [.tmp 2], b119⟩
def b120 : AC :=
 (zA [zM 4 0,
 zM 5 1,
 zO 6 (.inv (zT 4) [(169, 145, none)] [(zT 5)])]
 (.reg [zM 7 0,
 zM 8 0,
 zO 9 (.inv (zT 8) [(17, 140, none), (169, 118, some (false, 1, 0)), (170, 118, none)] []),
 zO 10 (.bin .sub (zT 9) (zI 1)),
 zO 11 (.call 125 [(zT 7), (zT 10)])]))
def g120 : Fn := ⟨2, 12, [], b120⟩
def b121 : AC :=
 (zA [zO 2 (.mov (.con .nilI))]
 (zA [zM 4 0,
 zO 5 (.inv (zT 4) [(17, 140, none), (169, 118, some (false, 1, 0)), (170, 118, none)] []),
 zO 6 (.bin .sub (zT 5) (zI 1)),
 zM 3 6]
 (zA [zM 7 0,
 zM 8 3,
 zO 9 (.inv (zT 7) [(169, 146, some (false, 1, 0)), (170, 146, none)] [(zI 0), (zT 8)])]
 (zA [zM 10 0,
 zM 11 3,
 zO 12 (.call 126 [(zT 10), (zI 0), (zT 11)])]
 (zA [zM 13 0,
 zO 14 (.inv (zT 13) [(169, 144, none)] []),
 zM 2 14]
 .ret)))))
def g121 : Fn := ⟨1, 15, [.tmp 2], b121⟩
def b122 : AC :=
 (zA [zO 2 (.mov (.con .nilS))]
 (.seq (zA [zM 3 0,
 zO 4 (.eqN false (zT 3))]
 (.cond (zT 4)
 (zA [zO 2 (.mov (.con .nilS))]
 .ret)
 .skip))
 (zA [zO 5 (.lit 2 []),
 zM 6 0,
 zO 7 (.append 2 16 (zT 5) (zT 6)),
 zM 2 7]
 .ret)))
def g122 : Fn := ⟨1, 8, [.tmp 2], b122⟩
def b123 : AC :=
 (zA [zC 10 0,
 zC 11 0]
 (.seq (.seq (.regd [⟨[zB 12 4,
 zB 13 0,
 zB 14 2,
 zP (zO 15 (.iaddr 2 (zT 13) (zT 14))),
 zQ (zE 16 2 15),
 zB 17 0,
 zB 18 1,
 zP (zO 19 (.iaddr 2 (zT 17) (zT 18))),
 zQ (zE 20 2 19)], 0, [zO 21 (.callv (zT 12) [(zT 16), (zT 20)]),
 zO 22 (.bin .lss (zT 21) (zI 0))]⟩])
 (.cond (zT 22)
 (zA [zM 23 3,
 zO 24 (.nilck (zT 23)),
 zL 25 24,
 zJ 26 25 1,
 zO 27 (.nilck (zT 23)),
 zN (.store 1 (zT 27) (zT 26))]
 (zA [zM 28 2,
 zM 29 1,
 zM 10 28,
 zM 11 29]
 .ret))
 .skip))
 (zA [zM 30 1,
 zM 31 2,
 zM 10 30,
 zM 11 31]
 .ret)))
def g123 : Fn := ⟨5, 32, [.tmp 10, .tmp 11], b123⟩
def b124 : AC :=
 (zA [zL 7 1,
 zH 8 7,
 zC 9 0]
 (.block 0 (.loop (zA [zO 10 (.bin .lss (zT 9) (zT 8))]
 (.seq (.cond (zT 10)
 .skip
 (.exit 0))
 (.seq (.block 1 (zA [zO 11 (.iaddr 1 (zT 7) (zT 9)),
 zL 12 11,
 zM 4 12]
 (zA [zM 13 4,
 zH 14 13,
 zC 15 0]
 (.block 2 (.loop (zA [zO 16 (.bin .lss (zT 15) (zT 14))]
 (.seq (.cond (zT 16)
 .skip
 (.exit 2))
 (.seq (.block 3 (zA [zO 17 (.iaddr 2 (zT 13) (zT 15)),
 zE 18 2 17,
 zO 6 (.alloc (.agg [(.int .u64 0), (.int .u64 0)])),
 zN (.store 2 (zT 6) (zT 18))]
 (zA [zM 19 0,
 zE 20 2 6,
 zO 21 (.callv (zT 19) [(zT 20)]),
 zO 22 (.un .not (zT 21))]
 (.cond (zT 22)
 .ret
 .skip))))
 (.reg [zJ 23 15 1,
 zM 15 23])))))))))
 (.reg [zJ 24 9 1,
 zM 9 24])))))))
def g124 : Fn := ⟨2, 25, [], b124⟩
def b125 : AC :=
 (.block 0 (.loop (.block 1 (zA [zM 5 1,
 zO 6 (.bin .sub (zT 5) (zI 1)),
 zO 7 (.bin .quo (zT 6) (zI 2)),
 zM 4 7]
 (.seq (zA [zM 8 4,
 zM 9 1,
 zO 10 (.bin .eql (zT 8) (zT 9)),
 zM 11 10,
 zG 12 11 false (.mov (zT 0)),
 zG 13 11 false (.mov (zT 1)),
 zG 14 11 false (.mov (zT 4)),
 zG 15 11 false (.inv (zT 12) [(169, 143, none)] [(zT 13), (zT 14)]),
 zG 16 11 false (.un .not (zT 15)),
 zO 17 (.pick (zT 11) (.con (.bool true)) (zT 16))]
 (.cond (zT 17)
 (.exit 0)
 .skip))
 (zA [zM 18 0,
 zM 19 4,
 zM 20 1,
 zO 21 (.inv (zT 18) [(169, 146, some (false, 1, 0)), (170, 146, none)] [(zT 19), (zT 20)])]
 (.reg [zM 22 4,
 zM 1 22])))))))
def g125 : Fn := ⟨2, 23, [], b125⟩
def b126 : AC :=
 (zA [zO 6 (.mov zF)]
 (zA [zM 11 1,
 zM 7 11]
 (.seq (.block 0 (.loop (.block 1 (zA [zM 12 7,
 zO 13 (.bin .mul (zI 2) (zT 12)),
 zJ 14 13 1,
 zM 8 14]
 (.seq (zA [zM 15 8,
 zM 16 2,
 zO 17 (.bin .geq (zT 15) (zT 16)),
 zM 18 17,
 zG 19 18 false (.mov (zT 8)),
 zG 20 18 false (.bin .lss (zT 19) (zI 0)),
 zO 21 (.pick (zT 18) (.con (.bool true)) (zT 20))]
 (.cond (zT 21)
 (.exit 0)
 .skip))
 (zA [zM 22 8,
 zM 9 22]
 (.seq (zA [zM 23 8,
 zJ 24 23 1,
 zM 10 24]
 (zA [zM 25 10,
 zM 26 2,
 zO 27 (.bin .lss (zT 25) (zT 26)),
 zM 28 27,
 zG 29 28 true (.mov (zT 0)),
 zG 30 28 true (.mov (zT 10)),
 zG 31 28 true (.mov (zT 8)),
 zG 32 28 true (.inv (zT 29) [(169, 143, none)] [(zT 30), (zT 31)]),
 zO 33 (.pick (zT 28) (zT 32) zF)]
 (.cond (zT 33)
 (.reg [zM 34 10,
 zM 9 34])
 .skip)))
 (.seq (zA [zM 35 0,
 zM 36 9,
 zM 37 7,
 zO 38 (.inv (zT 35) [(169, 143, none)] [(zT 36), (zT 37)]),
 zO 39 (.un .not (zT 38))]
 (.cond (zT 39)
 (.exit 0)
 .skip))
 (zA [zM 40 0,
 zM 41 7,
 zM 42 9,
 zO 43 (.inv (zT 40) [(169, 146, some (false, 1, 0)), (170, 146, none)] [(zT 41), (zT 42)])]
 (.reg [zM 44 9,
 zM 7 44]))))))))))
 (zA [zM 45 7,
 zM 46 1,
 zO 47 (.bin .gtr (zT 45) (zT 46)),
 zM 6 47]
 .ret))))
def g126 : Fn := ⟨3, 48, [.tmp 6], b126⟩
def b143 : AC :=
 (zA [zO 6 (.mov zF)]
 (.seq (.regd [⟨[zB 7 0,
 zP (zO 8 (.nilck (zT 7))),
 zP (zD 9 8 0),
 zQ (zL 10 9),
 zB 11 1,
 zP (zO 12 (.iaddr 2 (zT 10) (zT 11))),
 zQ (zE 13 2 12),
 zB 14 0,
 zP (zO 15 (.nilck (zT 14))),
 zP (zD 16 15 0),
 zQ (zL 17 16),
 zB 18 2,
 zP (zO 19 (.iaddr 2 (zT 17) (zT 18))),
 zQ (zE 20 2 19)], 0, [zO 21 (.call 45 [(zT 13), (zT 20)]),
 zO 22 (.bin .gtr (zT 21) (zI 0)),
 zM 6 22]⟩])
 .ret))
def g143 : Fn := ⟨3, 23, [.tmp 6], b143⟩
def b144 : AC :=
 (zA [zO 2 (.mov (.con .nilI))]
 (zA [zM 5 0,
 zO 6 (.nilck (zT 5)),
 zD 7 6 0,
 zL 8 7,
 zH 9 8,
 zO 10 (.bin .sub (zT 9) (zI 1)),
 zM 3 10]
 (zA [zM 11 0,
 zO 12 (.nilck (zT 11)),
 zD 13 12 0,
 zL 14 13,
 zM 15 3,
 zO 16 (.iaddr 2 (zT 14) (zT 15)),
 zE 17 2 16,
 zO 4 (.alloc (.agg [(.int .u64 0), (.int .u64 0)])),
 zN (.store 2 (zT 4) (zT 17))]
 (zA [zM 18 0,
 zM 19 0,
 zO 20 (.nilck (zT 19)),
 zD 21 20 0,
 zL 22 21,
 zM 23 3,
 zO 24 (.slice 2 (zT 22) none (some (zT 23))),
 zO 25 (.nilck (zT 18)),
 zD 26 25 0,
 zN (.store 1 (zT 26) (zT 24))]
 (zA [zE 27 2 4,
 zO 28 (.mkif 57 (zT 27)),
 zM 2 28]
 .ret)))))
def g144 : Fn := ⟨1, 29, [.tmp 2], b144⟩
def b145 : AC :=
 (zA [zM 7 1,
 zO 8 (.tas true 57 (.agg [(.int .u64 0), (.int .u64 0)]) (zT 7)),
 zM 6 8,
 zO 9 (.ext (zT 6) 0),
 zO 10 (.ext (zT 6) 1),
 zO 4 (.alloc (.agg [(.int .u64 0), (.int .u64 0)])),
 zN (.store 2 (zT 4) (zT 9)),
 zM 5 10]
 (zA [zM 11 5]
 (.cond (zT 11)
 (.regd [⟨[zB 12 0,
 zB 13 0,
 zP (zO 14 (.nilck (zT 13))),
 zP (zD 15 14 0),
 ⟨zL 16 15, false, false, false, 0, [0], none⟩,
 zQ (zE 17 2 4),
 ⟨zO 18 (.lit 2 [(zT 17)]), false, false, true, 0, [], none⟩,
 ⟨zO 19 (.append 2 16 (zT 16) (zT 18)), false, true, true, 1, [], none⟩], 2, [zO 20 (.nilck (zT 12)),
 zD 21 20 0,
 zN (.store 1 (zT 21) (zT 19))]⟩])
 .skip)))
def g145 : Fn := ⟨2, 22, [], b145⟩
def b146 : AC :=
 (.regd [⟨[zB 6 0,
 zB 7 1,
 zB 8 0,
 zB 9 2,
 zB 10 0,
 zB 11 2,
 zP (zO 12 (.iaddr 2 (zT 10) (zT 11))),
 zQ (zE 13 2 12),
 zB 14 0,
 zB 15 1,
 zP (zO 16 (.iaddr 2 (zT 14) (zT 15))),
 zQ (zE 17 2 16),
 zP (zO 18 (.iaddr 2 (zT 6) (zT 7))),
 ⟨zN (.store 2 (zT 18) (zT 13)), false, true, false, 0, [], none⟩], 0, [zO 19 (.iaddr 2 (zT 8) (zT 9)),
 zN (.store 2 (zT 19) (zT 17))]⟩])
def g146 : Fn := ⟨3, 20, [], b146⟩
def fnOf : Nat → Option Fn
 | 3 => some g3
 | 4 => some g4
 | 5 => some g5
 | 6 => some g6
 | 7 => some g7
 | 8 => some g8
 | 9 => some g9
 | 10 => some g10
 | 11 => some g11
 | 12 => some g12
 | 13 => some g13
 | 14 => some g14
 | 15 => some g15
 | 16 => some g16
 | 17 => some g17
 | 18 => some g18
 | 19 => some g19
 | 20 => some g20
 | 21 => some g21
 | 22 => some g22
 | 23 => some g23
 | 24 => some g24
 | 25 => some g25
 | 26 => some g26
 | 27 => some g27
 | 28 => some g28
 | 29 => some g29
 | 30 => some g30
 | 31 => some g31
 | 32 => some g32
 | 33 => some g33
 | 34 => some g34
 | 35 => some g35
 | 36 => some g36
 | 37 => some g37
 | 38 => some g38
 | 39 => some g39
 | 40 => some g40
 | 41 => some g41
 | 42 => some g42
 | 43 => some g43
 | 44 => some g44
 | 45 => some g45
 | 46 => some g46
 | 47 => some g47
 | 48 => some g48
 | 49 => some g49
 | 50 => some g50
 | 51 => some g51
 | 52 => some g52
 | 53 => some g53
 | 54 => some g54
 | 55 => some g55
 | 56 => some g56
 | 57 => some g57
 | 58 => some g58
 | 59 => some g59
 | 60 => some g60
 | 61 => some g61
 | 62 => some g62
 | 63 => some g63
 | 64 => some g64
 | 65 => some g65
 | 66 => some g66
 | 67 => some g67
 | 68 => some g68
 | 69 => some g69
 | 70 => some g70
 | 71 => some g71
 | 72 => some g72
 | 73 => some g73
 | 74 => some g74
 | 75 => some g75
 | 76 => some g76
 | 77 => some g77
 | 78 => some g78
 | 79 => some g79
 | 80 => some g80
 | 81 => some g81
 | 82 => some g82
 | 83 => some g83
 | 84 => some g84
 | 85 => some g85
 | 86 => some g86
 | 87 => some g87
 | 88 => some g88
 | 89 => some g89
 | 91 => some g91
 | 92 => some g92
 | 93 => some g93
 | 94 => some g94
 | 95 => some g95
 | 96 => some g96
 | 97 => some g97
 | 98 => some g98
 | 99 => some g99
 | 100 => some g100
 | 101 => some g101
 | 102 => some g102
 | 103 => some g103
 | 104 => some g104
 | 105 => some g105
 | 106 => some g106
 | 107 => some g107
 | 108 => some g108
 | 109 => some g109
 | 110 => some g110
 | 111 => some g111
 | 112 => some g112
 | 113 => some g113
 | 114 => some g114
 | 115 => some g115
 | 116 => some g116
 | 117 => some g117
 | 118 => some g118
 | 119 => some g119
 | 120 => some g120
 | 121 => some g121
 | 122 => some g122
 | 123 => some g123
 | 124 => some g124
 | 125 => some g125
 | 126 => some g126
 | 143 => some g143
 | 144 => some g144
 | 145 => some g145
 | 146 => some g146
 | _ => none
def modeOf (f : Nat) : Mode := if f ∈ [11, 13, 33, 53, 82, 99, 111, 122] then .own else if f ∈ [64, 91, 100, 101, 102, 104, 105, 106, 107, 112, 114, 115, 116, 120, 121, 123, 125, 126, 144, 145, 146] then .raw else .pure
def primOf : Nat → Option Prim
 | 90 => some (tzP)
 | _ => none
def T : Tab := { fn := fnOf, mode := modeOf, prim := primOf }
end Go.Q.SD
end

section
/- Small functions of seat 08. -/
namespace Go.Q.SD
open Go.Q
def i32V (x : Int) : V := .int .i32 x
def okI (x : Int) : Bool := decide (-1073741823 ≤ x) && decide (x ≤ 1073741823)
theorem r70 (x : Int) : res T 70 [.int .i32 x] = some (.bool (!okI x)) := by
 refine run_res (run_pure (fn := g70) rfl rfl (by decide) ?_)
 simp only [g70, b70, zO, zN, zM, zL, zG, zP, zQ, zI, zA, zT, zF, zB, zC, zD, zE, zH, zJ, zK]
 simp +contextual -implicitDefEqProofs (maxSteps := 2000000) only [↓wP, wS, seval]
 simp only [okI, Option.some.injEq, V.bool.injEq, Bool.not_and]
 congr 1 <;> simp only [← decide_not, Int.not_le]
def f70 (x : Int) := callE_tr (by decide) (r70 x) (by simp [Tr, Tr_slV]) rfl
def idxF {α : Type} (p : α → Bool) (l : List α) : Int := match l.findIdx? p with
 | some i => i
 | none => -1
theorem r94 (o : Option (List Int)) (F : Nat) (caps : List V) (p : Int → Bool) (hl : (lst o).length < 9223372036854775808)     (hp : ∀ x fs σ n lk, callE T fs F (i32V x :: caps) σ n lk = some (.bool (p x), σ, n)) : res T 94 [slV 1 i32V o, .fn F caps] = some (.int .i64 (idxF p (lst o))) := by
 refine run_res (run_pure (fn := g94) rfl rfl (by decide) ?_)
 simp only [g94, b94, zO, zN, zM, zL, zG, zP, zQ, zI, zA, zT, zF, zB, zC, zD, zE, zH, zJ, zK]
 simp +contextual -implicitDefEqProofs (maxSteps := 2000000) only [↓wP, wS, seval]
 refine WC_for (lst o).length 0 (fun (j : Nat) env _ _ => env 0 = slV 1 i32V o ∧ env 1 = .fn F caps ∧ (lst o).findIdx? p = (((lst o).drop j).findIdx? p).map (· + j)) (by omega) (by decide) (by decide) (fun _ _ => rfl) (fun _ _ _ => rfl) ?_ ?_ _ _ _ rfl rfl ?_
 ·intro j env σ n hj h1 h2 ⟨h3, h4, h5⟩
  simp only [vl_tmp] at h2
  have hx : (lst o)[j]? = some (lst o)[j] := List.getElem?_eq_getElem hj
  have hp' := hp (lst o)[j]
  simp only [i32V] at hp'
  simp +contextual -implicitDefEqProofs (maxSteps := 2000000) only [↓wP, wS, seval, h1, h2, h3, h4, hx, i32V, hp']
  rw [List.drop_eq_getElem_cons hj, List.findIdx?_cons] at h5
  refine condC_split (fun hb => ?_) (fun hb => ?_)
  ·simp +contextual -implicitDefEqProofs (maxSteps := 2000000) only [↓wP, wS, seval]
   simp [idxF, h5, hb]
  ·simp +contextual -implicitDefEqProofs (maxSteps := 2000000) only [↓wP, wS, seval, h1, h2, h3, h4]
   rw [h5, hb]
   simp only [Bool.false_eq_true, if_false, Option.map_map, Function.comp_def]
   congr 1; funext i; omega
 ·intro env σ n ⟨h3, h4, h5⟩ h1 h2
  simp +contextual -implicitDefEqProofs (maxSteps := 2000000) only [↓wP, wS, seval]
  simp [idxF, h5]
 ·exact ⟨rfl, rfl, by simp⟩
theorem idxF_any {α : Type} (p : α → Bool) (l : List α) : decide (0 ≤ idxF p l) = l.any p := by
 unfold idxF
 cases h : l.findIdx? p with
 | none =>
   simp only [List.findIdx?_eq_none_iff] at h
   simp only [Int.reduceNeg, Int.reduceLE, decide_false]
   exact (List.any_eq_false.2 fun x hx => by simp [h x hx]).symm
 | some i =>
   simp only [List.findIdx?_eq_some_iff_getElem] at h
   obtain ⟨h, h1, -⟩ := h
   simp only [Int.natCast_nonneg, decide_true]
   exact (List.any_eq_true.2 ⟨_, List.getElem_mem h, h1⟩).symm
theorem r71 (o : Option (List Int)) (hl : (lst o).length < 9223372036854775808) : res T 71 [slV 1 i32V o, .fn 70 []] = some (.bool ((lst o).any fun x => !okI x)) := by
 refine run_res (run_pure (fn := g71) rfl rfl (by decide) ?_)
 simp only [g71, b71, zO, zN, zM, zL, zG, zP, zQ, zI, zA, zT, zF, zB, zC, zD, zE, zH, zJ, zK]
 have h := r94 o 70 [] (fun x => !okI x) hl (fun x fs σ n lk => f70 x fs σ n lk)
 have hm : T.mode 94 ≠ .raw := by decide
 simp +contextual -implicitDefEqProofs (maxSteps := 2000000) only [↓wP, wS, seval, h, callE_eq hm, idxF_any]
def f71 (o : Option (List Int)) (hl : (lst o).length < 9223372036854775808) := callE_tr (by decide) (r71 o hl) (by simp [Tr, Tr_slV]) rfl
def okV (o : Option (List Int)) : Bool := decide (0 < (lst o).length) && decide ((lst o).length ≤ 4) && (lst o).all okI
theorem r36 (o : Option (List Int)) (hl : (lst o).length < 9223372036854775808) : res T 36 [slV 1 i32V o] = some (.int .i64 (if okV o then 0 else 150)) := by
 refine run_res (run_pure (fn := g36) rfl rfl (by decide) ?_)
 simp only [g36, b36, zO, zN, zM, zL, zG, zP, zQ, zI, zA, zT, zF, zB, zC, zD, zE, zH, zJ, zK]
 have h := f71 o hl
 simp +contextual -implicitDefEqProofs (maxSteps := 2000000) only [↓wP, wS, seval, h]
 have hk : (decide (((lst o).length : Int) < 1) || decide (4 < ((lst o).length : Int)) || (lst o).any fun x => !okI x) = !okV o := by
  unfold okV
  rw [Bool.not_and, Bool.not_and, List.not_all_eq_any_not, ← decide_not, ← decide_not]
  congr 2 <;> exact decide_eq_decide.2 (by omega)
 rw [hk]
 cases hb : okV o <;> simp +contextual -implicitDefEqProofs (maxSteps := 2000000) only [↓wP, wS, seval]
def f36 (o : Option (List Int)) (hl : (lst o).length < 9223372036854775808) := callE_tr (by decide) (r36 o hl) (by simp [Tr, Tr_slV]) rfl
end Go.Q.SD
end

section
/- More functions of seat 08: equality, what may be, last traces. -/
namespace Go.Q.SD
open Go.Q
theorem eq_drop {α : Type} [BEq α] {a b : List α} {j : Nat} (ha : j < a.length) (hb : j < b.length) : (a.drop j == b.drop j) = (a[j] == b[j] && a.drop (j + 1) == b.drop (j + 1)) := by
 rw [List.drop_eq_getElem_cons ha, List.drop_eq_getElem_cons hb]
 rfl
theorem eq_len {α : Type} [BEq α] : ∀ {a b : List α}, a.length ≠ b.length → (a == b) = false
 | [], [], h => absurd rfl h
 | [], _ :: _, _ => rfl
 | _ :: _, [], _ => rfl
 | x :: a, y :: b, h => by
   show (x == y && a == b) = false
   rw [eq_len (a := a) (b := b) (by simpa using h)]
   simp
end Go.Q.SD
end

section
/- More functions of seat 08: equality, what may be, last traces. -/
namespace Go.Q.SD
open Go.Q
theorem r110 (a b : Option (List Int)) (ha : (lst a).length < 9223372036854775808) : res T 110 [slV 1 i32V a, slV 1 i32V b] = some (.bool (lst a == lst b)) := by
 refine run_res (run_pure (fn := g110) rfl rfl (by decide) ?_)
 simp only [g110, b110, zO, zN, zM, zL, zG, zP, zQ, zI, zA, zT, zF, zB, zC, zD, zE, zH, zJ, zK]
 simp +contextual -implicitDefEqProofs (maxSteps := 2000000) only [↓wP, wS, seval]
 by_cases hl : (lst a).length = (lst b).length
 ·have hd : (((lst a).length : Int) != ((lst b).length : Int)) = false := by simp [hl]
  simp +contextual -implicitDefEqProofs (maxSteps := 2000000) only [↓wP, wS, seval, hd]
  refine WC_for (lst a).length 0 (fun (j : Nat) env _ _ => env 0 = slV 1 i32V a ∧ env 1 = slV 1 i32V b ∧ (lst a == lst b) = ((lst a).drop j == (lst b).drop j)) (by omega) (by decide) (by decide) (fun _ _ => rfl) (fun _ _ _ => rfl) ?_ ?_ _ _ _ rfl rfl ?_
  ·intro j env σ n hj h1 h2 ⟨h3, h4, h5⟩
   simp only [vl_tmp] at h2
   have hjb : j < (lst b).length := by omega
   have hx : (lst a)[j]? = some (lst a)[j] := List.getElem?_eq_getElem hj
   have hy : (lst b)[j]? = some (lst b)[j] := List.getElem?_eq_getElem hjb
   rw [eq_drop hj hjb] at h5
   simp +contextual -implicitDefEqProofs (maxSteps := 2000000) only [↓wP, wS, seval, h1, h2, h3, h4, hx, hy, i32V]
   refine condC_split (fun hb => ?_) (fun hb => ?_)
   ·have e1 : ((lst a)[j] == (lst b)[j]) = false := by simpa using hb
    rw [e1, Bool.false_and] at h5
    simp +contextual -implicitDefEqProofs (maxSteps := 2000000) only [↓wP, wS, seval, h5]
   ·have e1 : ((lst a)[j] == (lst b)[j]) = true := by simpa using hb
    rw [e1, Bool.true_and] at h5
    simp +contextual -implicitDefEqProofs (maxSteps := 2000000) only [↓wP, wS, seval, h1, h2, h3, h4, h5]
  ·intro env σ n ⟨h3, h4, h5⟩ h1 h2
   have e : (lst b).drop (lst a).length = [] := by rw [hl, List.drop_length]
   rw [List.drop_length, e] at h5
   simp +contextual -implicitDefEqProofs (maxSteps := 2000000) only [↓wP, wS, seval, h5]
  ·exact ⟨rfl, rfl, by simp⟩
 ·have hd : (((lst a).length : Int) != ((lst b).length : Int)) = true := by simp; omega
  have h5 := eq_len (a := lst a) (b := lst b) hl
  simp +contextual -implicitDefEqProofs (maxSteps := 2000000) only [↓wP, wS, seval, hd, h5]
def f110 (a b : Option (List Int)) (ha : (lst a).length < 9223372036854775808) := callE_tr (by decide) (r110 a b ha) (by simp [Tr, Tr_slV]) rfl
theorem r95 (a b : Option (List Int)) (ha : (lst a).length < 9223372036854775808) : res T 95 [slV 1 i32V a, slV 1 i32V b] = some (.bool (lst a == lst b)) := by
 refine run_res (run_pure (fn := g95) rfl rfl (by decide) ?_)
 simp only [g95, b95, zO, zN, zM, zL, zG, zP, zQ, zI, zA, zT, zF, zB, zC, zD, zE, zH, zJ, zK]
 have h := f110 a b ha
 simp +contextual -implicitDefEqProofs (maxSteps := 2000000) only [↓wP, wS, seval, h]
def f95 (a b : Option (List Int)) (ha : (lst a).length < 9223372036854775808) := callE_tr (by decide) (r95 a b ha) (by simp [Tr, Tr_slV]) rfl
end Go.Q.SD
end

section
/- Cells and arenas. -/
namespace Go.Q.SD
open Go.Q
structure Cel where
 u : Bool
 id : Int
 b : Int
 e : Int
 v : Option (List Int)
def celV (c : Cel) : V := .agg [.bool c.u, .int .u64 c.id, .int .u64 c.b, .int .u64 c.e, slV 1 i32V c.v]
def okVer (b e : Int) (v : Option (List Int)) : Bool := decide (1 ≤ b) && decide (b ≤ 1099511627776) && (e == 0 || (decide (b < e) && decide (e ≤ 1099511627776))) && okV v
def okCel (c : Cel) : Bool := if c.u then okVer c.b c.e c.v else c.id == 0 && c.b == 0 && c.e == 0 && decide ((lst c.v).length = 0)
def okA (a : Option (List Cel)) : Bool := decide ((lst a).length = 96) && (lst a).all okCel
def SmA (a : Option (List Cel)) : Prop := (lst a).length < 9223372036854775808 ∧ ∀ c ∈ lst a, (lst c.v).length < 9223372036854775808
theorem r73 (b e : Int) (v : Option (List Int)) (hv : (lst v).length < 9223372036854775808) : res T 73 [.agg [.int .u64 b, .int .u64 e, slV 1 i32V v]] = some (.int .i64 (if okVer b e v then 0 else 171)) := by
 refine run_res (run_pure (fn := g73) rfl rfl (by decide) ?_)
 simp only [g73, b73, zO, zN, zM, zL, zG, zP, zQ, zI, zA, zT, zF, zB, zC, zD, zE, zH, zJ, zK]
 have h := f36 v hv
 cases ho : okV v
 ·rw [ho] at h
  have hk : okVer b e v = false := by simp [okVer, ho]
  by_cases he : e = 0
  ·subst he
   simp +contextual -implicitDefEqProofs (maxSteps := 2000000) only [↓wP, wS, seval, h, hk]
  ·have hd : (e == 0) = false := by simpa using he
   simp +contextual -implicitDefEqProofs (maxSteps := 2000000) only [↓wP, wS, seval, h, hk, hd, he]
 ·rw [ho] at h
  by_cases he : e = 0
  ·subst he
   by_cases h1 : b < 1
   ·have hk : okVer b 0 v = false := by simp [okVer, ho]; omega
    simp +contextual -implicitDefEqProofs (maxSteps := 2000000) only [↓wP, wS, seval, h, hk, h1]
   ·by_cases h2 : 1099511627776 < b
    ·have hk : okVer b 0 v = false := by simp [okVer, ho]; omega
     simp +contextual -implicitDefEqProofs (maxSteps := 2000000) only [↓wP, wS, seval, h, hk, h1, h2]
    ·have hk : okVer b 0 v = true := by simp [okVer, ho]; omega
     simp +contextual -implicitDefEqProofs (maxSteps := 2000000) only [↓wP, wS, seval, h, hk, h1, h2]
  ·have hd : (e == 0) = false := by simpa using he
   by_cases h1 : b < 1
   ·have hk : okVer b e v = false := by simp [okVer, ho]; omega
    simp +contextual -implicitDefEqProofs (maxSteps := 2000000) only [↓wP, wS, seval, h, hk, h1, hd, he]
   ·by_cases h2 : 1099511627776 < b
    ·have hk : okVer b e v = false := by simp [okVer, ho]; omega
     simp +contextual -implicitDefEqProofs (maxSteps := 2000000) only [↓wP, wS, seval, h, hk, h1, h2, hd, he]
    ·by_cases h3 : b < e
     ·by_cases h4 : e ≤ 1099511627776
      ·have hk : okVer b e v = true := by simp [okVer, ho]; omega
       simp +contextual -implicitDefEqProofs (maxSteps := 2000000) only [↓wP, wS, seval, h, hk, h1, h2, h3, h4, hd, he]
      ·have hk : okVer b e v = false := by simp [okVer, ho]; omega
       simp +contextual -implicitDefEqProofs (maxSteps := 2000000) only [↓wP, wS, seval, h, hk, h1, h2, h3, h4, hd, he]
     ·have hk : okVer b e v = false := by simp [okVer, ho]; omega
      simp +contextual -implicitDefEqProofs (maxSteps := 2000000) only [↓wP, wS, seval, h, hk, h1, h2, h3, hd, he]
def f73 (b e : Int) (v : Option (List Int)) (hv : (lst v).length < 9223372036854775808) := callE_tr (by decide) (r73 b e v hv) (by simp [Tr, Tr_slV]) rfl
end Go.Q.SD
end

section
/- Arenas that may be. -/
namespace Go.Q.SD
open Go.Q
theorem eqc_two (a b c d : Int) : eqCells [.int, .int] [.int .u64 a, .int .u64 b] [.int .u64 c, .int .u64 d] = some (a == c && b == d) := by
 simp [eqCells, eqCell]
theorem r72 (b e : Int) (v : Option (List Int)) (b' e' : Int) (v' : Option (List Int)) (hv : (lst v).length < 9223372036854775808) : res T 72 [.agg [.int .u64 b, .int .u64 e, slV 1 i32V v], .agg [.int .u64 b', .int .u64 e', slV 1 i32V v']] = some (.bool (b == b' && e == e' && lst v == lst v')) := by
 refine run_res (run_pure (fn := g72) rfl rfl (by decide) ?_)
 simp only [g72, b72, zO, zN, zM, zL, zG, zP, zQ, zI, zA, zT, zF, zB, zC, zD, zE, zH, zJ, zK]
 have h := f95 v v' hv
 cases hb : (b == b' && e == e')
 ·simp +contextual -implicitDefEqProofs (maxSteps := 2000000) only [↓wP, wS, seval, h, eqc_two, hb, Bool.bne_false]
 ·simp +contextual -implicitDefEqProofs (maxSteps := 2000000) only [↓wP, wS, seval, h, eqc_two, hb, Bool.bne_false]
def f72 (b e : Int) (v : Option (List Int)) (b' e' : Int) (v' : Option (List Int)) (hv : (lst v).length < 9223372036854775808) := callE_tr (by decide) (r72 b e v b' e' v' hv) (by simp [Tr, Tr_slV]) rfl
theorem r38 (u : Bool) (id b e : Int) (v : Option (List Int)) (hv : (lst v).length < 9223372036854775808) : res T 38 [.agg [.bool u, .int .u64 id, .int .u64 b, .int .u64 e, slV 1 i32V v]] = some (.bool (okCel ⟨u, id, b, e, v⟩)) := by
 refine run_res (run_pure (fn := g38) rfl rfl (by decide) ?_)
 simp only [g38, b38, zO, zN, zM, zL, zG, zP, zQ, zI, zA, zT, zF, zB, zC, zD, zE, zH, zJ, zK]
 have h := f73 b e v hv
 have h2 := f72 b e v 0 0 none hv
 simp only [slV_none] at h2
 cases u
 ·by_cases hi : id = 0
  ·subst hi
   have hk : okCel ⟨false, 0, b, e, v⟩ = (b == 0 && e == 0 && lst v == lst (none : Option (List Int))) := by
    simp only [okCel, Bool.false_eq_true, if_false, lst_none]
    have : ((lst v) == []) = decide ((lst v).length = 0) := by cases lst v <;> simp
    rw [this]; simp
   simp +contextual -implicitDefEqProofs (maxSteps := 2000000) only [↓wP, wS, seval, h2, hk]
  ·have hk : okCel ⟨false, id, b, e, v⟩ = false := by simp [okCel, hi]
   have hd : (id == 0) = false := by simpa using hi
   simp +contextual -implicitDefEqProofs (maxSteps := 2000000) only [↓wP, wS, seval, h2, hk, hi, hd]
 ·have hk : okCel ⟨true, id, b, e, v⟩ = okVer b e v := by simp [okCel]
  cases ho : okVer b e v
  ·rw [ho] at h
   simp +contextual -implicitDefEqProofs (maxSteps := 2000000) only [↓wP, wS, seval, h, hk, ho]
  ·rw [ho] at h
   simp +contextual -implicitDefEqProofs (maxSteps := 2000000) only [↓wP, wS, seval, h, hk, ho]
def f38 (u : Bool) (id b e : Int) (v : Option (List Int)) (hv : (lst v).length < 9223372036854775808) := callE_tr (by decide) (r38 u id b e v hv) (by simp [Tr, Tr_slV]) rfl
theorem r37 (u : Bool) (id b e : Int) (v : Option (List Int)) (hv : (lst v).length < 9223372036854775808) : res T 37 [.agg [.bool u, .int .u64 id, .int .u64 b, .int .u64 e, slV 1 i32V v]] = some (.bool (!okCel ⟨u, id, b, e, v⟩)) := by
 refine run_res (run_pure (fn := g37) rfl rfl (by decide) ?_)
 simp only [g37, b37, zO, zN, zM, zL, zG, zP, zQ, zI, zA, zT, zF, zB, zC, zD, zE, zH, zJ, zK]
 have h := f38 u id b e v hv
 simp +contextual -implicitDefEqProofs (maxSteps := 2000000) only [↓wP, wS, seval, h]
def f37 (u : Bool) (id b e : Int) (v : Option (List Int)) (hv : (lst v).length < 9223372036854775808) := callE_tr (by decide) (r37 u id b e v hv) (by simp [Tr, Tr_slV]) rfl
theorem celV_eq (c : Cel) : celV c = .agg [.bool c.u, .int .u64 c.id, .int .u64 c.b, .int .u64 c.e, slV 1 i32V c.v] := rfl
theorem r74 (o : Option (List Cel)) (ho : SmA o) : res T 74 [slV 5 celV o, .fn 37 []] = some (.int .i64 (idxF (fun c => !okCel c) (lst o))) := by
 refine run_res (run_pure (fn := g74) rfl rfl (by decide) ?_)
 simp only [g74, b74, zO, zN, zM, zL, zG, zP, zQ, zI, zA, zT, zF, zB, zC, zD, zE, zH, zJ, zK]
 obtain ⟨hl, hs⟩ := ho
 simp +contextual -implicitDefEqProofs (maxSteps := 2000000) only [↓wP, wS, seval]
 refine WC_for (lst o).length 0 (fun (j : Nat) env _ _ => env 0 = slV 5 celV o ∧ env 1 = .fn 37 [] ∧ (lst o).findIdx? (fun c => !okCel c) = (((lst o).drop j).findIdx? (fun c => !okCel c)).map (· + j)) (by omega) (by decide) (by decide) (fun _ _ => rfl) (fun _ _ _ => rfl) ?_ ?_ _ _ _ rfl rfl ?_
 ·intro j env σ n hj h1 h2 ⟨h3, h4, h5⟩
  simp only [vl_tmp] at h2
  have hx : (lst o)[j]? = some (lst o)[j] := List.getElem?_eq_getElem hj
  have hv := hs _ (List.getElem_mem hj)
  rw [List.drop_eq_getElem_cons hj, List.findIdx?_cons] at h5
  generalize (lst o)[j] = c at *
  have hp' := f37 c.u c.id c.b c.e c.v hv
  simp +contextual -implicitDefEqProofs (maxSteps := 2000000) only [↓wP, wS, seval, h1, h2, h3, h4, hx, celV_eq, hp']
  cases hb : okCel c
  ·have h5' : List.findIdx? (fun c => !okCel c) (lst o) = some j := by simpa [hb] using h5
   simp +contextual -implicitDefEqProofs (maxSteps := 2000000) only [↓wP, wS, seval, hb]
   simp [idxF, h5']
  ·have h5' : List.findIdx? (fun c => !okCel c) (lst o) = (((lst o).drop (j + 1)).findIdx? (fun c => !okCel c)).map (· + (j + 1)) := by
    rw [h5, hb]
    simp only [Bool.not_true, Bool.false_eq_true, if_false, Option.map_map, Function.comp_def]
    congr 1; funext i; omega
   simp +contextual -implicitDefEqProofs (maxSteps := 2000000) only [↓wP, wS, seval, h1, h2, h3, h4, hb]
   exact h5'
 ·intro env σ n ⟨h3, h4, h5⟩ h1 h2
  simp +contextual -implicitDefEqProofs (maxSteps := 2000000) only [↓wP, wS, seval]
  simp [idxF, h5]
 ·exact ⟨rfl, rfl, by simp⟩
def f74 (o : Option (List Cel)) (ho : SmA o) := callE_tr (by decide) (r74 o ho) (by simp [Tr, Tr_slV]) rfl
theorem r39 (o : Option (List Cel)) (ho : SmA o) : res T 39 [slV 5 celV o, .fn 37 []] = some (.bool ((lst o).any fun c => !okCel c)) := by
 refine run_res (run_pure (fn := g39) rfl rfl (by decide) ?_)
 simp only [g39, b39, zO, zN, zM, zL, zG, zP, zQ, zI, zA, zT, zF, zB, zC, zD, zE, zH, zJ, zK]
 have h := f74 o ho
 simp +contextual -implicitDefEqProofs (maxSteps := 2000000) only [↓wP, wS, seval, h, idxF_any]
def f39 (o : Option (List Cel)) (ho : SmA o) := callE_tr (by decide) (r39 o ho) (by simp [Tr, Tr_slV]) rfl
def arE (a : Option (List Cel)) : Int := if okA a then 0 else 190
theorem r15 (a : Option (List Cel)) (ha : SmA a) : res T 15 [.agg [slV 5 celV a]] = some (.int .i64 (arE a)) := by
 refine run_res (run_pure (fn := g15) rfl rfl (by decide) ?_)
 simp only [g15, b15, zO, zN, zM, zL, zG, zP, zQ, zI, zA, zT, zF, zB, zC, zD, zE, zH, zJ, zK]
 have h := f39 a ha
 by_cases hl : (lst a).length = 96
 ·have hd : (((lst a).length : Int) != 96) = false := by simp [hl]
  have hk : (lst a).any (fun c => !okCel c) = !okA a := by
   simp only [okA, hl, decide_true, Bool.true_and, List.not_all_eq_any_not]
  cases ho : okA a
  ·rw [hk, ho] at h
   simp +contextual -implicitDefEqProofs (maxSteps := 2000000) only [↓wP, wS, seval, h, hd, arE, ho]
  ·rw [hk, ho] at h
   simp +contextual -implicitDefEqProofs (maxSteps := 2000000) only [↓wP, wS, seval, h, hd, arE, ho]
 ·have hd : (((lst a).length : Int) != 96) = true := by simp; omega
  have ho : okA a = false := by simp [okA, hl]
  simp +contextual -implicitDefEqProofs (maxSteps := 2000000) only [↓wP, wS, seval, h, hd, arE, ho]
def f15 (a : Option (List Cel)) (ha : SmA a) := callE_tr (by decide) (r15 a ha) (by simp [Tr, Tr_slV]) rfl
end Go.Q.SD
end

section
/- Masks. -/
namespace Go.Q.SD
open Go.Q
theorem b_shl (k : Nat) (hk : k < 64) : binV .shl (.int .u64 1) (.int .i64 (k : Int)) = some (.int .u64 ((2 ^ k : Nat) : Int)) := by
 have h0 : ¬ ((k : Int) < 0) := by omega
 have hm : min ((k : Int).toNat) IntKind.u64.bits = k := by
  show min (k : Int).toNat 64 = k
  omega
 have hlt : 2 ^ k < 2 ^ 64 := Nat.pow_lt_pow_right (by decide) hk
 have hf : IntKind.u64.wrap (1 * 2 ^ k) = ((2 ^ k : Nat) : Int) := by
  have e : (2 : Int) ^ k = ((2 ^ k : Nat) : Int) := by norm_cast
  rw [Int.one_mul, e]
  have hlt' : 2 ^ k < 18446744073709551616 := hlt
  generalize 2 ^ k = y at *
  rw [wrap_u64] <;> omega
 simp only [binV, pureV, Go.binOp, Op.shift, h0, if_false, hm, hf]
 rfl
theorem ofInt_nat {x : Nat} (hx : x < 18446744073709551616) : (BitVec.ofInt 64 (x : Int)).toNat = x := by
 simp; omega
theorem b_and (x y : Nat) (hx : x < 18446744073709551616) (hy : y < 18446744073709551616) : binV .and (.int .u64 (x : Int)) (.int .u64 (y : Int)) = some (.int .u64 ((x &&& y : Nat) : Int)) := by
 rw [bin_and]
 have e : (BitVec.ofInt IntKind.u64.bits (x : Int) &&& BitVec.ofInt IntKind.u64.bits (y : Int)).toNat = x &&& y := by
  show (BitVec.ofInt 64 (x : Int) &&& BitVec.ofInt 64 (y : Int)).toNat = x &&& y
  rw [BitVec.toNat_and, ofInt_nat hx, ofInt_nat hy]
 have hle : x &&& y ≤ x := Nat.and_le_left
 rw [e, wrap_u64] <;> omega
theorem b_or (x y : Nat) (hx : x < 18446744073709551616) (hy : y < 18446744073709551616) : binV .or (.int .u64 (x : Int)) (.int .u64 (y : Int)) = some (.int .u64 ((x ||| y : Nat) : Int)) := by
 rw [bin_or]
 have e : (BitVec.ofInt IntKind.u64.bits (x : Int) ||| BitVec.ofInt IntKind.u64.bits (y : Int)).toNat = x ||| y := by
  show (BitVec.ofInt 64 (x : Int) ||| BitVec.ofInt 64 (y : Int)).toNat = x ||| y
  rw [BitVec.toNat_or, ofInt_nat hx, ofInt_nat hy]
 have hlt : x ||| y < 2 ^ 64 := Nat.or_lt_two_pow hx hy
 rw [e, wrap_u64] <;> omega
def tb (m0 m1 i : Nat) : Bool := if i < 64 then m0.testBit i else m1.testBit (i - 64)
def W64 (m : Nat) : Prop := m < 18446744073709551616
theorem quo64 (i : Nat) (hi : i < 128) : binV .quo (.int .i64 (i : Int)) (.int .i64 64) = some (.int .i64 ((i / 64 : Nat) : Int)) := by
 rw [bin_quo .i64 (i : Int) 64 (by decide)]
 have : (i : Int).tdiv 64 = ((i / 64 : Nat) : Int) := by
  rw [Int.tdiv_eq_ediv_of_nonneg (by omega)]; norm_cast
 rw [this, wrap_i64] <;> omega
theorem rem64 (i : Nat) (hi : i < 128) : binV .rem (.int .i64 (i : Int)) (.int .i64 64) = some (.int .i64 ((i % 64 : Nat) : Int)) := by
 rw [bin_rem .i64 (i : Int) 64 (by decide)]
 have : (i : Int).tmod 64 = ((i % 64 : Nat) : Int) := by
  rw [Int.tmod_eq_emod_of_nonneg (by omega)]; norm_cast
 rw [this]
def bw (i : Nat) : Nat × Nat := if i < 64 then (2 ^ i, 0) else (0, 2 ^ (i - 64))
theorem r85 (i : Nat) (hi : i < 128) : res T 85 [.int .i64 (i : Int)] = some (.agg [.int .u64 ((bw i).1 : Int), .int .u64 ((bw i).2 : Int)]) := by
 refine run_res (run_pure (fn := g85) rfl rfl (by decide) ?_)
 simp only [g85, b85, zO, zN, zM, zL, zG, zP, zQ, zI, zA, zT, zF, zB, zC, zD, zE, zH, zJ, zK]
 have q := quo64 i hi
 have r := rem64 i hi
 by_cases h : i < 64
 ·have e1 : i / 64 = 0 := by omega
  have e2 : i % 64 = i := by omega
  have eb : bw i = (2 ^ i, 0) := by simp [bw, h]
  rw [e1] at q; rw [e2] at r
  have s := b_shl i h
  simp only [Int.natCast_zero] at q
  rw [eb]
  simp +contextual -implicitDefEqProofs (maxSteps := 2000000) only [↓wP, wS, seval, q, r, s, Int.natCast_zero]
 ·have e1 : i / 64 = 1 := by omega
  have e2 : i % 64 = i - 64 := by omega
  have eb : bw i = (0, 2 ^ (i - 64)) := by simp [bw, h]
  rw [e1] at q; rw [e2] at r
  have s := b_shl (i - 64) (by omega)
  simp only [Int.natCast_one] at q
  rw [eb]
  simp +contextual -implicitDefEqProofs (maxSteps := 2000000) only [↓wP, wS, seval, q, r, s, Int.natCast_zero]
def f85 (i : Nat) (hi : i < 128) := callE_tr (by decide) (r85 i hi) (by simp [Tr, Tr_slV]) rfl
theorem r84 (i : Int) : res T 84 [.int .i64 i] = some (.bool (decide (0 ≤ i) && decide (i < 96))) := by
 refine run_res (run_pure (fn := g84) rfl rfl (by decide) ?_)
 simp only [g84, b84, zO, zN, zM, zL, zG, zP, zQ, zI, zA, zT, zF, zB, zC, zD, zE, zH, zJ, zK]
 simp +contextual -implicitDefEqProofs (maxSteps := 2000000) only [↓wP, wS, seval]
def f84 (i : Int) := callE_tr (by decide) (r84 i) (by simp [Tr, Tr_slV]) rfl
theorem r88 (x y : Nat) (hx : W64 x) (hy : W64 y) : res T 88 [.int .u64 (x : Int), .int .u64 (y : Int)] = some (.int .u64 ((x &&& y : Nat) : Int)) := by
 refine run_res (run_pure (fn := g88) rfl rfl (by decide) ?_)
 simp only [g88, b88, zO, zN, zM, zL, zG, zP, zQ, zI, zA, zT, zF, zB, zC, zD, zE, zH, zJ, zK]
 have h := b_and x y hx hy
 simp +contextual -implicitDefEqProofs (maxSteps := 2000000) only [↓wP, wS, seval, h]
def f88 (x y : Nat) (hx : W64 x) (hy : W64 y) := callE_tr (by decide) (r88 x y hx hy) (by simp [Tr, Tr_slV]) rfl
theorem r97 (x y : Nat) (hx : W64 x) (hy : W64 y) : res T 97 [.int .u64 (x : Int), .int .u64 (y : Int)] = some (.int .u64 ((x ||| y : Nat) : Int)) := by
 refine run_res (run_pure (fn := g97) rfl rfl (by decide) ?_)
 simp only [g97, b97, zO, zN, zM, zL, zG, zP, zQ, zI, zA, zT, zF, zB, zC, zD, zE, zH, zJ, zK]
 have h := b_or x y hx hy
 simp +contextual -implicitDefEqProofs (maxSteps := 2000000) only [↓wP, wS, seval, h]
def f97 (x y : Nat) (hx : W64 x) (hy : W64 y) := callE_tr (by decide) (r97 x y hx hy) (by simp [Tr, Tr_slV]) rfl
end Go.Q.SD
end

section
/- What a mask has. -/
namespace Go.Q.SD
open Go.Q
open Nat renaming reduceEqDiff → n1w, reduceAdd → n2w, reduceSub → n3w, reduceLeDiff → n4w, reduceLT → n5w, reduceMul → n6w
open Int renaming reduceBNe → i1w, reduceBEq → i2w, reduceLT → i3w, reduceLE → i4w, reduceGT → i5w
theorem r87 (a b c d : Nat) (ha : W64 a) (hb : W64 b) (hc : W64 c) (hd : W64 d) : res T 87 [.agg [.int .u64 (a : Int), .int .u64 (b : Int)], .agg [.int .u64 (c : Int), .int .u64 (d : Int)], .fn 88 []] = some (.agg [.int .u64 ((a &&& c : Nat) : Int), .int .u64 ((b &&& d : Nat) : Int)]) := by
 refine run_res (run_pure (fn := g87) rfl rfl (by decide) ?_)
 simp only [g87, b87, zO, zN, zM, zL, zG, zP, zQ, zI, zA, zT, zF, zB, zC, zD, zE, zH, zJ, zK]
 simp +contextual -implicitDefEqProofs (maxSteps := 2000000) only [↓wP, wQ, wQ1, wQ2, wQ3, wR, boxE, partsOf, ↓reduceIte, n1w, n2w, n3w, n4w, n5w, n6w, reduceCtorEq, i1w, i2w, i3w, i4w, i5w]
 refine WC_for 2 0 (fun (j : Nat) env σ n => env 2 = .fn 88 [] ∧ env 3 = .ptr 0 2 0 0 ∧ env 4 = .ptr 1 2 0 0 ∧ env 6 = .ptr 2 2 0 0 ∧ σ 1 = some (.row 2 [.agg [.int .u64 (c : Int), .int .u64 (d : Int)]]) ∧ σ 2 = some (.row 2 [.agg [.int .u64 0, .int .u64 0]]) ∧
  σ 0 = some (.row 2 [.agg [.int .u64 ((if j = 0 then a else a &&& c : Nat) : Int), .int .u64 ((if j < 2 then b else b &&& d : Nat) : Int)]])) (by decide) (by decide) (by decide) (fun _ _ => rfl) (fun _ _ _ => rfl) ?_ ?_ _ _ _ rfl rfl ?_
 ·intro j env σ n hj h1 h2 ⟨h3, h4, h5, h6, h7, h8, h9⟩
  obtain rfl | rfl : j = 0 ∨ j = 1 := by omega
  ·simp only [if_true, Nat.reduceLT, Int.natCast_zero] at h1 h9
   have f := f88 a c ha hc
   simp +contextual -implicitDefEqProofs (maxSteps := 2000000) only [↓wP, wQ, wQ1, wQ2, wQ3, wR, boxE, partsOf, ↓reduceIte, n1w, n2w, n3w, n4w, n5w, n6w, reduceCtorEq, i1w, i2w, i3w, i4w, i5w, h1, h3, h4, h5, h6, h7, h8, h9, f]
   exact ⟨rfl, rfl⟩
  ·simp only [Nat.reduceEqDiff, if_false, if_true, Nat.reduceLT, Int.natCast_one] at h1 h9
   have f := f88 b d hb hd
   simp +contextual -implicitDefEqProofs (maxSteps := 2000000) only [↓wP, wQ, wQ1, wQ2, wQ3, wR, boxE, partsOf, ↓reduceIte, n1w, n2w, n3w, n4w, n5w, n6w, reduceCtorEq, i1w, i2w, i3w, i4w, i5w, h1, h3, h4, h5, h6, h7, h8, h9, f]
   exact ⟨rfl, rfl⟩
 ·intro env σ n ⟨h3, h4, h5, h6, h7, h8, h9⟩ h1 h2
  simp only [Nat.reduceEqDiff, if_false, Nat.lt_irrefl] at h9
  simp +contextual -implicitDefEqProofs (maxSteps := 2000000) only [↓wP, wQ, wQ1, wQ2, wQ3, wR, boxE, partsOf, ↓reduceIte, n1w, n2w, n3w, n4w, n5w, n6w, reduceCtorEq, i1w, i2w, i3w, i4w, i5w, h4, h6, h9, h8]
 ·simp +contextual -implicitDefEqProofs (maxSteps := 2000000) only [↓wP, wQ, wQ1, wQ2, wQ3, wR, boxE, partsOf, ↓reduceIte, n1w, n2w, n3w, n4w, n5w, n6w, reduceCtorEq, i1w, i2w, i3w, i4w, i5w]
def f87 (a b c d : Nat) (ha : W64 a) (hb : W64 b) (hc : W64 c) (hd : W64 d) := callE_tr (by decide) (r87 a b c d ha hb hc hd) (by simp [Tr, Tr_slV]) rfl
theorem r60 (a b c d : Nat) (ha : W64 a) (hb : W64 b) (hc : W64 c) (hd : W64 d) : res T 60 [.agg [.int .u64 (a : Int), .int .u64 (b : Int)], .agg [.int .u64 (c : Int), .int .u64 (d : Int)]] = some (.agg [.int .u64 ((a &&& c : Nat) : Int), .int .u64 ((b &&& d : Nat) : Int)]) := by
 refine run_res (run_pure (fn := g60) rfl rfl (by decide) ?_)
 simp only [g60, b60, zO, zN, zM, zL, zG, zP, zQ, zI, zA, zT, zF, zB, zC, zD, zE, zH, zJ, zK]
 have f := f87 a b c d ha hb hc hd
 simp +contextual -implicitDefEqProofs (maxSteps := 2000000) only [↓wP, wS, seval, f]
def f60 (a b c d : Nat) (ha : W64 a) (hb : W64 b) (hc : W64 c) (hd : W64 d) := callE_tr (by decide) (r60 a b c d ha hb hc hd) (by simp [Tr, Tr_slV]) rfl
theorem bw_lt (i : Nat) (hi : i < 128) : W64 (bw i).1 ∧ W64 (bw i).2 := by
 unfold bw W64
 split
 ·have : 2 ^ i < 2 ^ 64 := Nat.pow_lt_pow_right (by decide) (by assumption)
  exact ⟨this, by simp⟩
 ·have : 2 ^ (i - 64) < 2 ^ 64 := Nat.pow_lt_pow_right (by decide) (by omega)
  exact ⟨by simp, this⟩
theorem bit0 (m k : Nat) : (((m &&& 2 ^ k : Nat) : Int) == 0) = !m.testBit k := by
 cases h : m.testBit k
 ·have e : m &&& 2 ^ k = 0 := by
   apply Nat.eq_of_testBit_eq
   intro i
   rw [Nat.testBit_and, Nat.testBit_two_pow, Nat.zero_testBit]
   by_cases hk : k = i
   ·subst hk; simp [h]
   ·simp [hk]
  simp [e]
 ·have e : m &&& 2 ^ k ≠ 0 := by
   intro e
   have := congrArg (fun x => x.testBit k) e
   simp [Nat.testBit_and, h] at this
  simp
  exact_mod_cast e
theorem hasbit (m0 m1 i : Nat) : (((m0 &&& (bw i).1 : Nat) : Int) == 0 && ((m1 &&& (bw i).2 : Nat) : Int) == 0) = !tb m0 m1 i := by
 unfold bw tb
 split
 ·rename_i h
  simp only [bit0, Nat.and_zero]
  simp
 ·rename_i h
  simp only [bit0, Nat.and_zero]
  simp
theorem r57 (m0 m1 i : Nat) (h0 : W64 m0) (h1 : W64 m1) (hi : i < 128) : res T 57 [.agg [.int .u64 (m0 : Int), .int .u64 (m1 : Int)], .int .i64 (i : Int)] = some (.bool (decide (i < 96) && tb m0 m1 i)) := by
 refine run_res (run_pure (fn := g57) rfl rfl (by decide) ?_)
 simp only [g57, b57, zO, zN, zM, zL, zG, zP, zQ, zI, zA, zT, zF, zB, zC, zD, zE, zH, zJ, zK]
 have f1 := f84 (i : Int)
 have f2 := f85 i hi
 obtain ⟨w1, w2⟩ := bw_lt i hi
 have f3 := f60 m0 m1 (bw i).1 (bw i).2 h0 h1 w1 w2
 have hb := hasbit m0 m1 i
 have hnn : decide ((0 : Int) ≤ (i : Int)) = true := by simp
 by_cases h : i < 96
 ·have hd : decide ((i : Int) < 96) = true := by simp; omega
  have hd' : decide (i < 96) = true := by simpa using h
  rw [hnn, hd] at f1
  simp +contextual -implicitDefEqProofs (maxSteps := 2000000) only [↓wP, wS, seval, f1, f2, f3, eqc_two, hb, hd', Bool.bne_true, Bool.not_not]
 ·have hd : decide ((i : Int) < 96) = false := by simp; omega
  have hd' : decide (i < 96) = false := by simpa using h
  rw [hnn, hd] at f1
  simp +contextual -implicitDefEqProofs (maxSteps := 2000000) only [↓wP, wS, seval, f1, f2, f3, hd']
def f57 (m0 m1 i : Nat) (h0 : W64 m0) (h1 : W64 m1) (hi : i < 128) := callE_tr (by decide) (r57 m0 m1 i h0 h1 hi) (by simp [Tr, Tr_slV]) rfl
theorem r56 (m0 m1 i : Nat) (h0 : W64 m0) (h1 : W64 m1) (hi : i < 128) : res T 56 [.int .i64 (i : Int), .box [.int .u64 (m0 : Int), .int .u64 (m1 : Int)]] = some (.bool (decide (i < 96) && tb m0 m1 i)) := by
 refine run_res (run_pure (fn := g56) rfl rfl (by decide) ?_)
 simp only [g56, b56, zO, zN, zM, zL, zG, zP, zQ, zI, zA, zT, zF, zB, zC, zD, zE, zH, zJ, zK]
 have f := f57 m0 m1 i h0 h1 hi
 simp +contextual -implicitDefEqProofs (maxSteps := 2000000) only [↓wP, wS, seval, f]
def f56 (m0 m1 i : Nat) (h0 : W64 m0) (h1 : W64 m1) (hi : i < 128) := callE_tr (by decide) (r56 m0 m1 i h0 h1 hi) (by simp [Tr, Tr_slV]) rfl
end Go.Q.SD
end

section
/- A slot put into a mask; what is visible. -/
namespace Go.Q.SD
open Go.Q
open Nat renaming reduceEqDiff → n1w, reduceAdd → n2w, reduceSub → n3w, reduceLeDiff → n4w, reduceLT → n5w, reduceMul → n6w
open Int renaming reduceBNe → i1w, reduceBEq → i2w, reduceLT → i3w, reduceLE → i4w, reduceGT → i5w
theorem r80G (F a b c d x y : Nat) (hF : ∀ fs σ n lk, callE T fs F [.int .u64 (a : Int), .int .u64 (c : Int)] σ n lk = some (.int .u64 (x : Int), σ, n))
 (hG : ∀ fs σ n lk, callE T fs F [.int .u64 (b : Int), .int .u64 (d : Int)] σ n lk = some (.int .u64 (y : Int), σ, n)) :
 res T 87 [.agg [.int .u64 (a : Int), .int .u64 (b : Int)], .agg [.int .u64 (c : Int), .int .u64 (d : Int)], .fn F []] = some (.agg [.int .u64 (x : Int), .int .u64 (y : Int)]) := by
 refine run_res (run_pure (fn := g87) rfl rfl (by decide) ?_)
 simp only [g87, b87, zO, zN, zM, zL, zG, zP, zQ, zI, zA, zT, zF, zB, zC, zD, zE, zH, zJ, zK]
 simp +contextual -implicitDefEqProofs (maxSteps := 2000000) only [↓wP, wQ, wQ1, wQ2, wQ3, wR, boxE, partsOf, ↓reduceIte, n1w, n2w, n3w, n4w, n5w, n6w, reduceCtorEq, i1w, i2w, i3w, i4w, i5w]
 refine WC_for 2 0 (fun (j : Nat) env σ n => env 2 = .fn F [] ∧ env 3 = .ptr 0 2 0 0 ∧ env 4 = .ptr 1 2 0 0 ∧ env 6 = .ptr 2 2 0 0 ∧ σ 1 = some (.row 2 [.agg [.int .u64 (c : Int), .int .u64 (d : Int)]]) ∧ σ 2 = some (.row 2 [.agg [.int .u64 0, .int .u64 0]]) ∧
  σ 0 = some (.row 2 [.agg [.int .u64 ((if j = 0 then a else x : Nat) : Int), .int .u64 ((if j < 2 then b else y : Nat) : Int)]])) (by decide) (by decide) (by decide) (fun _ _ => rfl) (fun _ _ _ => rfl) ?_ ?_ _ _ _ rfl rfl ?_
 ·intro j env σ n hj h1 h2 ⟨h3, h4, h5, h6, h7, h8, h9⟩
  obtain rfl | rfl : j = 0 ∨ j = 1 := by omega
  ·simp only [if_true, Nat.reduceLT, Int.natCast_zero] at h1 h9
   simp +contextual -implicitDefEqProofs (maxSteps := 2000000) only [↓wP, wQ, wQ1, wQ2, wQ3, wR, boxE, partsOf, ↓reduceIte, n1w, n2w, n3w, n4w, n5w, n6w, reduceCtorEq, i1w, i2w, i3w, i4w, i5w, h1, h3, h4, h5, h6, h7, h8, h9, hF]
   exact ⟨rfl, rfl⟩
  ·simp only [Nat.reduceEqDiff, if_false, if_true, Nat.reduceLT, Int.natCast_one] at h1 h9
   simp +contextual -implicitDefEqProofs (maxSteps := 2000000) only [↓wP, wQ, wQ1, wQ2, wQ3, wR, boxE, partsOf, ↓reduceIte, n1w, n2w, n3w, n4w, n5w, n6w, reduceCtorEq, i1w, i2w, i3w, i4w, i5w, h1, h3, h4, h5, h6, h7, h8, h9, hG]
   exact ⟨rfl, rfl⟩
 ·intro env σ n ⟨h3, h4, h5, h6, h7, h8, h9⟩ h1 h2
  simp only [Nat.reduceEqDiff, if_false, Nat.lt_irrefl] at h9
  simp +contextual -implicitDefEqProofs (maxSteps := 2000000) only [↓wP, wQ, wQ1, wQ2, wQ3, wR, boxE, partsOf, ↓reduceIte, n1w, n2w, n3w, n4w, n5w, n6w, reduceCtorEq, i1w, i2w, i3w, i4w, i5w, h4, h6, h9, h8]
 ·simp +contextual -implicitDefEqProofs (maxSteps := 2000000) only [↓wP, wQ, wQ1, wQ2, wQ3, wR, boxE, partsOf, ↓reduceIte, n1w, n2w, n3w, n4w, n5w, n6w, reduceCtorEq, i1w, i2w, i3w, i4w, i5w]
theorem f80G (F a b c d x y : Nat) (hF : ∀ fs σ n lk, callE T fs F [.int .u64 (a : Int), .int .u64 (c : Int)] σ n lk = some (.int .u64 (x : Int), σ, n))
 (hG : ∀ fs σ n lk, callE T fs F [.int .u64 (b : Int), .int .u64 (d : Int)] σ n lk = some (.int .u64 (y : Int), σ, n)) (fs : Bool) (σ : Sto) (n lk : Nat) :
 callE T fs 87 [.agg [.int .u64 (a : Int), .int .u64 (b : Int)], .agg [.int .u64 (c : Int), .int .u64 (d : Int)], .fn F []] σ n lk = some (.agg [.int .u64 (x : Int), .int .u64 (y : Int)], σ, n) :=
 callE_tr (by decide) (r80G F a b c d x y hF hG) (by simp [Tr]) rfl fs σ n lk
theorem r79 (a b c d : Nat) (ha : W64 a) (hb : W64 b) (hc : W64 c) (hd : W64 d) : res T 79 [.agg [.int .u64 (a : Int), .int .u64 (b : Int)], .agg [.int .u64 (c : Int), .int .u64 (d : Int)]] = some (.agg [.int .u64 ((a ||| c : Nat) : Int), .int .u64 ((b ||| d : Nat) : Int)]) := by
 refine run_res (run_pure (fn := g79) rfl rfl (by decide) ?_)
 simp only [g79, b79, zO, zN, zM, zL, zG, zP, zQ, zI, zA, zT, zF, zB, zC, zD, zE, zH, zJ, zK]
 have f := f80G 97 a b c d _ _ (f97 a c ha hc) (f97 b d hb hd)
 simp +contextual -implicitDefEqProofs (maxSteps := 2000000) only [↓wP, wS, seval, f]
def f79 (a b c d : Nat) (ha : W64 a) (hb : W64 b) (hc : W64 c) (hd : W64 d) := callE_tr (by decide) (r79 a b c d ha hb hc hd) (by simp [Tr, Tr_slV]) rfl
theorem r59 : res T 59 [] = some (.agg [.int .u64 18446744073709551615, .int .u64 4294967295]) := by
 have h : (match exJob T 40 (.pure 59 []) with | some (.val (.agg [.int .u64 x, .int .u64 y])) => x == 18446744073709551615 && y == 4294967295 | _ => false) = true := by decide +kernel
 have h2 : exJob T 40 (.pure 59 []) = some (.val (.agg [.int .u64 18446744073709551615, .int .u64 4294967295])) := by
  split at h
  ·rename_i x y e
   simp only [Bool.and_eq_true, beq_iff_eq] at h
   rw [e, h.1, h.2]
  ·cases h
 exact run_res (exJob_sound 40 _ _ h2)
theorem f59 (fs : Bool) (σ : Sto) (n lk : Nat) : callE T fs 59 [] σ n lk = some (.agg [.int .u64 18446744073709551615, .int .u64 4294967295], σ, n) := callE_tr (by decide) r59 rfl rfl fs σ n lk
theorem an_eq (x y : Nat) (hx : W64 x) (h : (BitVec.ofNat 64 x &&& ~~~ BitVec.ofNat 64 y) = 0#64) : binV .andNot (.int .u64 (x : Int)) (.int .u64 (y : Int)) = some (.int .u64 0) := by
 have h' : (BitVec.ofInt 64 (x : Int) &&& ~~~ BitVec.ofInt 64 (y : Int)) = 0#64 := by
  rw [BitVec.ofInt_natCast, BitVec.ofInt_natCast]; exact h
 have e : (BitVec.ofInt IntKind.u64.bits (x : Int) &&& ~~~BitVec.ofInt IntKind.u64.bits (y : Int)).toNat = 0 := congrArg BitVec.toNat h'
 simp only [binV, pureV, Go.binOp, Op.intBits, ne_eq, not_true_eq_false, if_false, e]
 rfl
theorem an_0 (x : Nat) (hx : W64 x) : binV .andNot (.int .u64 (x : Int)) (.int .u64 18446744073709551615) = some (.int .u64 0) :=
 an_eq x 18446744073709551615 hx (by rw [show ~~~ BitVec.ofNat 64 18446744073709551615 = 0#64 from rfl, BitVec.and_zero])
theorem an_1 (x : Nat) (hx : x < 4294967296) : binV .andNot (.int .u64 (x : Int)) (.int .u64 4294967295) = some (.int .u64 0) := by
 refine an_eq x 4294967295 (Nat.lt_trans hx (by decide)) ?_
 rw [show ~~~ BitVec.ofNat 64 4294967295 = BitVec.ofNat 64 (4294967295 <<< 32) from rfl]
 apply BitVec.eq_of_getLsbD_eq
 intro i hi
 rw [BitVec.getLsbD_and, BitVec.getLsbD_ofNat, BitVec.getLsbD_ofNat, Nat.testBit_shiftLeft]
 by_cases h : 32 ≤ i
 ·have : x.testBit i = false := Nat.testBit_lt_two_pow (Nat.lt_of_lt_of_le (show x < 2 ^ 32 from hx) (Nat.pow_le_pow_right (Nat.zero_lt_succ 1) h))
  simp [this]
 ·simp [h]
structure Mk (m : Nat × Nat) : Prop where
 lo : W64 m.1
 hi : m.2 < 4294967296
theorem Mk.w {m : Nat × Nat} (h : Mk m) : W64 m.2 := Nat.lt_trans h.hi (by decide)
def orM (m : Nat × Nat) (i : Nat) : Nat × Nat := (m.1 ||| (bw i).1, m.2 ||| (bw i).2)
theorem bw_hi {i : Nat} (hi : i < 96) : (bw i).2 < 4294967296 := by
 unfold bw
 split
 ·simp
 ·have : 2 ^ (i - 64) < 2 ^ 32 := Nat.pow_lt_pow_right (by decide) (by omega)
  exact this
theorem orM_mk {m : Nat × Nat} (h : Mk m) {i : Nat} (hi : i < 96) : Mk (orM m i) :=
 ⟨Nat.or_lt_two_pow (n := 64) h.lo (bw_lt i (by omega)).1, Nat.or_lt_two_pow (n := 32) h.hi (bw_hi hi)⟩
theorem orM_tb {m : Nat × Nat} {i : Nat} (hi : i < 96) (j : Nat) (hj : j < 128) : tb (orM m i).1 (orM m i).2 j = (tb m.1 m.2 j || decide (j = i)) := by
 unfold tb orM bw
 by_cases h1 : i < 64 <;> by_cases h2 : j < 64 <;> simp only [h1, h2, if_true, if_false, Nat.testBit_or, Nat.testBit_two_pow, Nat.zero_testBit, Bool.or_false]
 ·congr 1; exact decide_eq_decide.2 (by omega)
 ·have : decide (j = i) = false := by simp; omega
  rw [this, Bool.or_false]
 ·have : decide (j = i) = false := by simp; omega
  rw [this, Bool.or_false]
 ·congr 1; exact decide_eq_decide.2 (by omega)
theorem f111a (x : Nat) (hx : W64 x) (fs : Bool) (σ : Sto) (n lk : Nat) : callE T fs 98 [.int .u64 (x : Int), .int .u64 ((18446744073709551615 : Nat) : Int)] σ n lk = some (.int .u64 ((0 : Nat) : Int), σ, n) := by
 have h := an_0 x hx
 refine callE_tr (by decide) (?_ : res T 98 [.int .u64 (x : Int), .int .u64 18446744073709551615] = some (.int .u64 0)) rfl rfl fs σ n lk
 refine run_res (run_pure (fn := g98) rfl rfl (by decide) ?_)
 simp only [g98, b98, zO, zN, zM, zL, zG, zP, zQ, zI, zA, zT, zF, zB, zC, zD, zE, zH, zJ, zK]
 simp +contextual -implicitDefEqProofs (maxSteps := 2000000) only [↓wP, wS, seval, h]
theorem f111b (x : Nat) (hx : x < 4294967296) (fs : Bool) (σ : Sto) (n lk : Nat) : callE T fs 98 [.int .u64 (x : Int), .int .u64 ((4294967295 : Nat) : Int)] σ n lk = some (.int .u64 ((0 : Nat) : Int), σ, n) := by
 have h := an_1 x hx
 refine callE_tr (by decide) (?_ : res T 98 [.int .u64 (x : Int), .int .u64 4294967295] = some (.int .u64 0)) rfl rfl fs σ n lk
 refine run_res (run_pure (fn := g98) rfl rfl (by decide) ?_)
 simp only [g98, b98, zO, zN, zM, zL, zG, zP, zQ, zI, zA, zT, zF, zB, zC, zD, zE, zH, zJ, zK]
 simp +contextual -implicitDefEqProofs (maxSteps := 2000000) only [↓wP, wS, seval, h]
theorem r80 (m : Nat × Nat) (hm : Mk m) : res T 80 [.agg [.int .u64 (m.1 : Int), .int .u64 (m.2 : Int)], .agg [.int .u64 18446744073709551615, .int .u64 4294967295]] = some (.agg [.int .u64 0, .int .u64 0]) := by
 refine run_res (run_pure (fn := g80) rfl rfl (by decide) ?_)
 simp only [g80, b80, zO, zN, zM, zL, zG, zP, zQ, zI, zA, zT, zF, zB, zC, zD, zE, zH, zJ, zK]
 have f := f80G 98 m.1 m.2 18446744073709551615 4294967295 _ _ (f111a m.1 hm.lo) (f111b m.2 hm.hi)
 simp only [Int.natCast_zero, show (((18446744073709551615 : Nat) : Int)) = 18446744073709551615 from rfl, show (((4294967295 : Nat) : Int)) = 4294967295 from rfl] at f
 simp +contextual -implicitDefEqProofs (maxSteps := 2000000) only [↓wP, wS, seval, f]
def f80 (m : Nat × Nat) (hm : Mk m) := callE_tr (by decide) (r80 m hm) (by simp [Tr, Tr_slV]) rfl
theorem r51 (m : Nat × Nat) (hm : Mk m) : res T 51 [.agg [.int .u64 (m.1 : Int), .int .u64 (m.2 : Int)]] = some (.int .i64 0) := by
 refine run_res (run_pure (fn := g51) rfl rfl (by decide) ?_)
 simp only [g51, b51, zO, zN, zM, zL, zG, zP, zQ, zI, zA, zT, zF, zB, zC, zD, zE, zH, zJ, zK]
 have f := f80 m hm
 simp +contextual -implicitDefEqProofs (maxSteps := 2000000) only [↓wP, wS, seval, f59, f, eqc_two, BEq.rfl, Bool.and_self, Bool.bne_true]
def f51 (m : Nat × Nat) (hm : Mk m) := callE_tr (by decide) (r51 m hm) (by simp [Tr, Tr_slV]) rfl
theorem r78 (m : Nat × Nat) (i : Nat) (hm : Mk m) (hi : i < 96) : res T 78 [.agg [.int .u64 (m.1 : Int), .int .u64 (m.2 : Int)], .int .i64 (i : Int), .fn 79 []] = some (.tup [.agg [.int .u64 ((orM m i).1 : Int), .int .u64 ((orM m i).2 : Int)], .int .i64 0]) := by
 refine run_res (run_pure (fn := g78) rfl rfl (by decide) ?_)
 simp only [g78, b78, zO, zN, zM, zL, zG, zP, zQ, zI, zA, zT, zF, zB, zC, zD, zE, zH, zJ, zK]
 have f1 := f51 m hm
 have f2 := f84 (i : Int)
 have f3 := f85 i (by omega)
 obtain ⟨w1, w2⟩ := bw_lt i (by omega)
 have f4 := f79 m.1 m.2 (bw i).1 (bw i).2 hm.lo hm.w w1 w2
 have hnn : decide ((0 : Int) ≤ (i : Int)) = true := by simp
 have hd : decide ((i : Int) < 96) = true := by simp; omega
 rw [hnn, hd] at f2
 simp +contextual -implicitDefEqProofs (maxSteps := 2000000) only [↓wP, wS, seval, f1, f2, f3, f4, orM]
def f78 (m : Nat × Nat) (i : Nat) (hm : Mk m) (hi : i < 96) := callE_tr (by decide) (r78 m i hm hi) (by simp [Tr, Tr_slV]) rfl
theorem r48 (m : Nat × Nat) (i : Nat) (hm : Mk m) (hi : i < 96) : res T 48 [.agg [.int .u64 (m.1 : Int), .int .u64 (m.2 : Int)], .int .i64 (i : Int)] = some (.tup [.agg [.int .u64 ((orM m i).1 : Int), .int .u64 ((orM m i).2 : Int)], .int .i64 0]) := by
 refine run_res (run_pure (fn := g48) rfl rfl (by decide) ?_)
 simp only [g48, b48, zO, zN, zM, zL, zG, zP, zQ, zI, zA, zT, zF, zB, zC, zD, zE, zH, zJ, zK]
 have f := f78 m i hm hi
 simp +contextual -implicitDefEqProofs (maxSteps := 2000000) only [↓wP, wS, seval, f]
def f48 (m : Nat × Nat) (i : Nat) (hm : Mk m) (hi : i < 96) := callE_tr (by decide) (r48 m i hm hi) (by simp [Tr, Tr_slV]) rfl
end Go.Q.SD
end

section
/- What is visible. -/
namespace Go.Q.SD
open Go.Q
def visB (b e t : Int) : Bool := decide (b ≤ t) && (e == 0 || decide (t < e))
def seenC (t : Int) (c : Cel) : Bool := c.u && visB c.b c.e t
def mskL (t : Int) (l : List Cel) : Nat × Nat := l.zipIdx.foldl (fun m p => if seenC t p.1 = true then orM m p.2 else m) (0, 0)
theorem mskL_snoc (t : Int) (l : List Cel) (c : Cel) : mskL t (l ++ [c]) = if seenC t c = true then orM (mskL t l) l.length else mskL t l := by
 unfold mskL
 rw [List.zipIdx_append, List.foldl_append]
 simp
theorem mskL_ok (t : Int) (l : List Cel) : ∀ k, k ≤ l.length → k ≤ 96 → Mk (mskL t (l.take k)) ∧ ∀ j, j < 128 → tb (mskL t (l.take k)).1 (mskL t (l.take k)).2 j = (decide (j < k) && ((l[j]?).map (seenC t)).getD false)
 | 0, _, _ => by
   refine ⟨⟨by show (0 : Nat) < _; decide, by show (0 : Nat) < _; decide⟩, fun j hj => ?_⟩
   simp [mskL, tb]
 | k + 1, h1, h2 => by
   obtain ⟨i1, i2⟩ := mskL_ok t l k (by omega) (by omega)
   have hl : (l.take k).length = k := by rw [List.length_take]; omega
   rw [← List.take_append_getElem (show k < l.length by omega), mskL_snoc, hl]
   have hk : l[k]? = some l[k] := List.getElem?_eq_getElem (by omega)
   by_cases hs : seenC t l[k] = true
   ·rw [if_pos hs]
    refine ⟨orM_mk i1 (by omega), fun j hj => ?_⟩
    rw [orM_tb (by omega) j hj, i2 j hj]
    by_cases e : j = k
    ·subst e; simp [hk, hs]
    ·have : decide (j < k + 1) = decide (j < k) := decide_eq_decide.2 (by omega)
     rw [this]; simp [e]
   ·rw [if_neg hs]
    refine ⟨i1, fun j hj => ?_⟩
    rw [i2 j hj]
    by_cases e : j = k
    ·subst e; simp [hk, hs]
    ·have : decide (j < k + 1) = decide (j < k) := decide_eq_decide.2 (by omega)
     rw [this]
def visM (t : Int) (a : Option (List Cel)) : Nat × Nat := if okA a then mskL t (lst a) else (0, 0)
theorem r23 (a : Option (List Cel)) (t : Int) (ha : SmA a) : res T 23 [.agg [slV 5 celV a], .int .u64 t] = some (.tup [.agg [.int .u64 ((visM t a).1 : Int), .int .u64 ((visM t a).2 : Int)], .int .i64 (arE a)]) := by
 refine run_res (run_pure (fn := g23) rfl rfl (by decide) ?_)
 simp only [g23, b23, zO, zN, zM, zL, zG, zP, zQ, zI, zA, zT, zF, zB, zC, zD, zE, zH, zJ, zK]
 have f := f15 a ha
 cases ho : okA a
 ·have e1 : arE a = 190 := by simp [arE, ho]
  have e2 : visM t a = (0, 0) := by simp [visM, ho]
  rw [e1] at f
  simp +contextual -implicitDefEqProofs (maxSteps := 2000000) only [↓wP, wS, seval, f, e1, e2, Int.natCast_zero]
 ·have e1 : arE a = 0 := by simp [arE, ho]
  have e2 : visM t a = mskL t (lst a) := by simp [visM, ho]
  have hl : (lst a).length = 96 := by simp only [okA, Bool.and_eq_true, decide_eq_true_eq] at ho; exact ho.1
  rw [e1] at f
  rw [e1, e2]
  simp +contextual -implicitDefEqProofs (maxSteps := 2000000) only [↓wP, wS, seval, f]
  refine WC_for (lst a).length 0 (fun (j : Nat) env σ n => env 1 = .int .u64 t ∧ env 4 = .ptr 1 2 0 0 ∧ env 7 = .ptr 2 2 0 0 ∧ env 18 = slV 5 celV a ∧ 2 < n ∧ σ 1 = some (.row 2 [.agg [.int .u64 0, .int .u64 0]]) ∧
   σ 2 = some (.row 2 [.agg [.int .u64 ((mskL t ((lst a).take j)).1 : Int), .int .u64 ((mskL t ((lst a).take j)).2 : Int)]])) (by omega) (by decide) (by decide) (fun _ _ => rfl) (fun _ _ _ => rfl) ?_ ?_ _ _ _ rfl rfl ?_
  ·intro j env σ n hj h1 h2 ⟨h3, h4, h5, h6, h7, h8, h9⟩
   simp only [vl_tmp] at h2
   have hx : (lst a)[j]? = some (lst a)[j] := List.getElem?_eq_getElem hj
   have ht : mskL t ((lst a).take (j + 1)) = if seenC t (lst a)[j] = true then orM (mskL t ((lst a).take j)) j else mskL t ((lst a).take j) := by
    rw [← List.take_append_getElem hj, mskL_snoc, List.length_take, Nat.min_eq_left (by omega)]
   have hmk := (mskL_ok t (lst a) j (by omega) (by omega)).1
   have f48' := f48 (mskL t ((lst a).take j)) j hmk (by omega)
   generalize (lst a)[j] = c at *
   generalize mskL t ((lst a).take j) = m at *
   have q1 : (1 = n) = False := by simp; omega
   have q2 : (2 = n) = False := by simp; omega
   have q3 : (1 = n + 1) = False := by simp; omega
   have q4 : (2 = n + 1) = False := by simp; omega
   have q5 : (n = n + 1) = False := by simp
   have done : ∀ (σ' : Sto) (n' : Nat) (x y : Int), x = ((mskL t ((lst a).take (j + 1))).1 : Int) → y = ((mskL t ((lst a).take (j + 1))).2 : Int) → 2 < n' → σ' 1 = σ 1 → σ' 2 = some (.row 2 [.agg [.int .u64 x, .int .u64 y]]) →
    2 < n' ∧ σ' 1 = some (.row 2 [.agg [.int .u64 0, .int .u64 0]]) ∧ σ' 2 = some (.row 2 [.agg [.int .u64 ((mskL t ((lst a).take (j + 1))).1 : Int), .int .u64 ((mskL t ((lst a).take (j + 1))).2 : Int)]]) := by
    rintro σ' n' _ _ rfl rfl g1 g2 g3
    exact ⟨g1, g2.trans h8, g3⟩
   cases hu : c.u
   ·have hs : seenC t c = false := by simp [seenC, hu]
    rw [if_neg (by simp [hs])] at ht
    simp +contextual -implicitDefEqProofs (maxSteps := 2000000) only [↓wP, wS, seval, h1, h2, h3, h4, h5, h6, hx, celV_eq, hu, q1, q2, q3, q4, q5]
    refine ⟨by omega, h8, ?_⟩
    rw [ht]
    try exact h9
   ·by_cases hb : c.b ≤ t
    ·have hseen : ∀ w : Bool, (c.e == 0 || decide (t < c.e)) = w → seenC t c = w := by
      intro w hw
      simp [seenC, hu, visB, hb]
      rw [← hw]
     by_cases he : c.e = 0
     ·have hs := hseen true (by simp [he])
      rw [if_pos hs] at ht
      simp +contextual -implicitDefEqProofs (maxSteps := 2000000) only [↓wP, wS, seval, h1, h2, h3, h4, h5, h6, h9, hx, celV_eq, hu, hb, he, q1, q2, q3, q4, q5, f48']
      refine ⟨by omega, h8, ?_⟩
      rw [ht]
      try exact h9
     ·have hd : (c.e == 0) = false := by simpa using he
      by_cases hlt : t < c.e
      ·have hs := hseen true (by simp [hlt])
       rw [if_pos hs] at ht
       simp +contextual -implicitDefEqProofs (maxSteps := 2000000) only [↓wP, wS, seval, h1, h2, h3, h4, h5, h6, h9, hx, celV_eq, hu, hb, hd, he, hlt, q1, q2, q3, q4, q5, f48']
       refine ⟨by omega, h8, ?_⟩
       rw [ht]
       try exact h9
      ·have hs := hseen false (by simp [hlt, hd])
       rw [if_neg (by simp [hs])] at ht
       simp +contextual -implicitDefEqProofs (maxSteps := 2000000) only [↓wP, wS, seval, h1, h2, h3, h4, h5, h6, h9, hx, celV_eq, hu, hb, hd, he, hlt, q1, q2, q3, q4, q5, f48']
       refine ⟨by omega, h8, ?_⟩
       rw [ht]
       try exact h9
    ·have hs : seenC t c = false := by simp [seenC, visB, hb]
     rw [if_neg (by simp [hs])] at ht
     simp +contextual -implicitDefEqProofs (maxSteps := 2000000) only [↓wP, wS, seval, h1, h2, h3, h4, h5, h6, hx, celV_eq, hu, hb, q1, q2, q3, q4, q5]
     refine ⟨by omega, h8, ?_⟩
     rw [ht]
     try exact h9
  ·intro env σ n ⟨h3, h4, h5, h6, h7, h8, h9⟩ h1 h2
   rw [List.take_length] at h9
   simp +contextual -implicitDefEqProofs (maxSteps := 2000000) only [↓wP, wS, seval, h4, h5, h8, h9]
  ·simp +contextual -implicitDefEqProofs (maxSteps := 2000000) only [↓wP, wS, seval]
   simp [mskL]
def f23 (a : Option (List Cel)) (t : Int) (ha : SmA a) := callE_tr (by decide) (r23 a t ha) (by simp [Tr, Tr_slV]) rfl
end Go.Q.SD
end

section
/- How many bits a word has. -/
set_option maxRecDepth 10000
namespace Go.Q.SD
open Go.Q
theorem and_split {a m y M : Nat} (ha : a < 256) (hm : m < 256) : (a + 256 * y) &&& (m + 256 * M) = (a &&& m) + 256 * (y &&& M) := by
 have h1 := Nat.and_mod_two_pow (a := a + 256 * y) (b := m + 256 * M) (n := 8)
 have h2 := Nat.and_div_two_pow (a := a + 256 * y) (b := m + 256 * M) (n := 8)
 rw [show (2 : Nat) ^ 8 = 256 from rfl] at h1 h2
 rw [show (a + 256 * y) % 256 = a by omega, show (m + 256 * M) % 256 = m by omega] at h1
 rw [show (a + 256 * y) / 256 = y by omega, show (m + 256 * M) / 256 = M by omega] at h2
 omega
def rep (m : Nat) : Nat → Nat
 | 0 => 0
 | n + 1 => m + 256 * rep m n
def stA (n x : Nat) : Nat := (x / 2 &&& rep 0x55 n) + (x &&& rep 0x55 n)
def stB (n x : Nat) : Nat := (x / 4 &&& rep 0x33 n) + (x &&& rep 0x33 n)
def stC (n x : Nat) : Nat := (x / 16 + x) &&& rep 0x0f n
def a1 (a : Nat) : Nat := (a / 2 &&& 0x55) + (a &&& 0x55)
def b1 (a : Nat) : Nat := (a / 4 &&& 0x33) + (a &&& 0x33)
def c1 (a : Nat) : Nat := (a / 16 + a) &&& 0x0f
theorem dA : ∀ a < 256, ∀ e < 2, (a / 2 + 128 * e) &&& 0x55 = a / 2 &&& 0x55 := by decide +kernel
theorem dB : ∀ a < 256, ∀ e < 4, (a / 4 + 64 * e) &&& 0x33 = a / 4 &&& 0x33 := by decide +kernel
theorem dC : ∀ a < 256, a % 16 ≤ 4 → a / 16 ≤ 4 → ∀ e < 5, (a / 16 + a + 16 * e) &&& 0x0f = (a / 16 + a) &&& 0x0f := by decide +kernel
theorem dP : ∀ a < 256, a1 a < 256 ∧ b1 (a1 a) < 256 ∧ b1 (a1 a) % 16 ≤ 4 ∧ b1 (a1 a) / 16 ≤ 4 ∧ c1 (b1 (a1 a)) ≤ 8 ∧ (c1 (b1 (a1 a)) = 0 → a = 0) ∧ (a = 0 → c1 (b1 (a1 a)) = 0) := by decide +kernel
theorem stA_s (n a y : Nat) (ha : a < 256) : stA (n + 1) (a + 256 * y) = a1 a + 256 * stA n y := by
 unfold stA a1
 simp only [rep]
 rw [show (a + 256 * y) / 2 = (a / 2 + 128 * (y % 2)) + 256 * (y / 2) by omega, and_split (by omega) (by omega), and_split ha (by omega), dA a ha _ (by omega)]
 omega
theorem stB_s (n a y : Nat) (ha : a < 256) : stB (n + 1) (a + 256 * y) = b1 a + 256 * stB n y := by
 unfold stB b1
 simp only [rep]
 rw [show (a + 256 * y) / 4 = (a / 4 + 64 * (y % 4)) + 256 * (y / 4) by omega, and_split (by omega) (by omega), and_split ha (by omega), dB a ha _ (by omega)]
 omega
theorem stC_s (n a y : Nat) (ha : a < 256) (h1 : a % 16 ≤ 4) (h2 : a / 16 ≤ 4) (hy : y % 16 ≤ 4) : stC (n + 1) (a + 256 * y) = c1 a + 256 * stC n y := by
 unfold stC c1
 simp only [rep]
 rw [show (a + 256 * y) / 16 + (a + 256 * y) = (a / 16 + a + 16 * (y % 16)) + 256 * (y / 16 + y) by omega, and_split (by omega) (by omega), dC a ha h1 h2 _ (by omega)]
def pb (a : Nat) : Nat := c1 (b1 (a1 a))
def pcs : Nat → Nat → Nat
 | 0, _ => 0
 | n + 1, x => pb (x % 256) + 256 * pcs n (x / 256)
theorem stAB : ∀ (n x : Nat), stB n (stA n x) % 16 ≤ 4
 | 0, x => by simp [stB, rep]
 | n + 1, x => by
   have hx : x = x % 256 + 256 * (x / 256) := by omega
   obtain ⟨d1, d2, d3, d4, -⟩ := dP (x % 256) (by omega)
   rw [hx, stA_s n _ _ (by omega), stB_s n _ _ d1]
   omega
theorem st_pcs : ∀ (n x : Nat), stC n (stB n (stA n x)) = pcs n x
 | 0, x => by simp [stC, rep, pcs]
 | n + 1, x => by
   have hx : x = x % 256 + 256 * (x / 256) := by omega
   obtain ⟨d1, d2, d3, d4, -⟩ := dP (x % 256) (by omega)
   have ih := st_pcs n (x / 256)
   have h16 := stAB n (x / 256)
   show _ = pb (x % 256) + 256 * pcs n (x / 256)
   rw [← ih]
   conv => lhs; rw [hx]
   rw [stA_s n _ _ (by omega), stB_s n _ _ d1, stC_s n _ _ d2 d3 d4 h16]
   rfl
theorem pb_le (a : Nat) (ha : a < 256) : pb a ≤ 8 := (dP a ha).2.2.2.2.1
theorem pb_0 (a : Nat) (ha : a < 256) : pb a = 0 ↔ a = 0 := ⟨(dP a ha).2.2.2.2.2.1, (dP a ha).2.2.2.2.2.2⟩
end Go.Q.SD
end

section
/- How many bits a word has: the sum. -/
namespace Go.Q.SD
open Go.Q
def sh8 (c : Nat) : Nat := c + c / 256
def sh16 (c : Nat) : Nat := c + c / 65536
def sh32 (c : Nat) : Nat := c + c / 4294967296
def sums (c : Nat) : Nat := sh32 (sh16 (sh8 c))
def pc (x : Nat) : Nat := sums (pcs 8 x) % 128
def num (a0 a1 a2 a3 a4 a5 a6 a7 : Nat) : Nat := a0 + 256 * (a1 + 256 * (a2 + 256 * (a3 + 256 * (a4 + 256 * (a5 + 256 * (a6 + 256 * a7))))))
theorem dv8 {a Y : Nat} (h : a < 256) : (a + 256 * Y) / 256 = Y := by omega
theorem dv16 {a b Y : Nat} (h1 : a < 256) (h2 : b < 256) : (a + 256 * (b + 256 * Y)) / 65536 = Y := by omega
theorem dv32 {a b c d Y : Nat} (h1 : a < 256) (h2 : b < 256) (h3 : c < 256) (h4 : d < 256) : (a + 256 * (b + 256 * (c + 256 * (d + 256 * Y)))) / 4294967296 = Y := by
 have : (a + 256 * (b + 256 * (c + 256 * (d + 256 * Y)))) / 4294967296 = (a + 256 * (b + 256 * (c + 256 * (d + 256 * Y)))) / 65536 / 65536 := by rw [Nat.div_div_eq_div_mul]
 rw [this, dv16 h1 h2, dv16 h3 h4]
theorem s8 {a0 a1 a2 a3 a4 a5 a6 a7 : Nat} (h : a0 < 256) : sh8 (num a0 a1 a2 a3 a4 a5 a6 a7) = num (a0 + a1) (a1 + a2) (a2 + a3) (a3 + a4) (a4 + a5) (a5 + a6) (a6 + a7) a7 := by
 unfold sh8 num
 rw [dv8 h]
 omega
theorem s16 {a0 a1 a2 a3 a4 a5 a6 a7 : Nat} (h : a0 < 256) (h' : a1 < 256) : sh16 (num a0 a1 a2 a3 a4 a5 a6 a7) = num (a0 + a2) (a1 + a3) (a2 + a4) (a3 + a5) (a4 + a6) (a5 + a7) a6 a7 := by
 unfold sh16 num
 rw [dv16 h h']
 omega
theorem s32 {a0 a1 a2 a3 a4 a5 a6 a7 : Nat} (h : a0 < 256) (h1 : a1 < 256) (h2 : a2 < 256) (h3 : a3 < 256) : sh32 (num a0 a1 a2 a3 a4 a5 a6 a7) = num (a0 + a4) (a1 + a5) (a2 + a6) (a3 + a7) a4 a5 a6 a7 := by
 unfold sh32 num
 rw [dv32 h h1 h2 h3]
 omega
theorem num_mod {a0 a1 a2 a3 a4 a5 a6 a7 : Nat} (h : a0 < 128) : num a0 a1 a2 a3 a4 a5 a6 a7 % 128 = a0 := by
 unfold num
 generalize a1 + _ = Y
 omega
theorem num_lt {a0 a1 a2 a3 a4 a5 a6 a7 : Nat} (h0 : a0 < 127) (h1 : a1 < 127) (h2 : a2 < 127) (h3 : a3 < 127) (h4 : a4 < 127) (h5 : a5 < 127) (h6 : a6 < 127) (h7 : a7 < 127) : num a0 a1 a2 a3 a4 a5 a6 a7 < 9223372036854775808 := by
 unfold num
 omega
theorem num_0 {a0 a1 a2 a3 a4 a5 a6 a7 : Nat} : num a0 a1 a2 a3 a4 a5 a6 a7 = 0 ↔ a0 + a1 + a2 + a3 + a4 + a5 + a6 + a7 = 0 := by
 unfold num
 omega
theorem pcs_num (x : Nat) : ∃ a0 a1 a2 a3 a4 a5 a6 a7, pcs 8 x = num a0 a1 a2 a3 a4 a5 a6 a7 ∧ a0 ≤ 8 ∧ a1 ≤ 8 ∧ a2 ≤ 8 ∧ a3 ≤ 8 ∧ a4 ≤ 8 ∧ a5 ≤ 8 ∧ a6 ≤ 8 ∧ a7 ≤ 8 := by
 have hb : ∀ y, pb (y % 256) ≤ 8 := fun y => pb_le _ (by omega)
 exact ⟨_, _, _, _, _, _, _, _, rfl, hb _, hb _, hb _, hb _, hb _, hb _, hb _, hb _⟩
theorem pcs_0 : ∀ (n x : Nat), x < 256 ^ n → (pcs n x = 0 ↔ x = 0)
 | 0, x, h => by simp at h; simp [pcs, h]
 | n + 1, x, h => by
   have ih := pcs_0 n (x / 256) (by rw [Nat.div_lt_iff_lt_mul (by decide)]; rw [Nat.pow_succ] at h; exact h)
   have h0 := pb_0 (x % 256) (by omega)
   simp only [pcs]
   omega
theorem pc_pos {x : Nat} (hx : x < 18446744073709551616) : (0 < pc x ↔ x ≠ 0) ∧ pc x ≤ 64 ∧ sums (pcs 8 x) < 9223372036854775808 ∧ sh16 (sh8 (pcs 8 x)) < 9223372036854775808 ∧ sh8 (pcs 8 x) < 9223372036854775808 ∧ pcs 8 x < 9223372036854775808 := by
 obtain ⟨a0, a1, a2, a3, a4, a5, a6, a7, he, h0, h1, h2, h3, h4, h5, h6, h7⟩ := pcs_num x
 have hz := pcs_0 8 x hx
 unfold pc sums
 rw [he] at hz ⊢
 rw [num_0] at hz
 have e1 := s8 (a0 := a0) (a1 := a1) (a2 := a2) (a3 := a3) (a4 := a4) (a5 := a5) (a6 := a6) (a7 := a7) (by omega)
 rw [e1]
 have e2 := s16 (a0 := a0 + a1) (a1 := a1 + a2) (a2 := a2 + a3) (a3 := a3 + a4) (a4 := a4 + a5) (a5 := a5 + a6) (a6 := a6 + a7) (a7 := a7) (by omega) (by omega)
 rw [e2, s32 (by omega) (by omega) (by omega) (by omega), num_mod (by omega)]
 refine ⟨?_, by omega, num_lt (by omega) (by omega) (by omega) (by omega) (by omega) (by omega) (by omega) (by omega), num_lt (by omega) (by omega) (by omega) (by omega) (by omega) (by omega) (by omega) (by omega),
  num_lt (by omega) (by omega) (by omega) (by omega) (by omega) (by omega) (by omega) (by omega), num_lt (by omega) (by omega) (by omega) (by omega) (by omega) (by omega) (by omega) (by omega)⟩
 rw [Ne, ← hz]
 omega
end Go.Q.SD
end

section
/- The bits of a word, counted. -/
namespace Go.Q.SD
open Go.Q
theorem b_shrU (m k : Nat) (hk : k < 64) : binV .shr (.int .u64 (m : Int)) (.int .u64 (k : Int)) = some (.int .u64 ((m / 2 ^ k : Nat) : Int)) := by
 have h0 : ¬ ((k : Int) < 0) := by omega
 have hm : min ((k : Int).toNat) IntKind.u64.bits = k := by
  show min (k : Int).toNat 64 = k
  omega
 have hf : (m : Int).fdiv (2 ^ k) = ((m / 2 ^ k : Nat) : Int) := by
  rw [Int.fdiv_eq_ediv_of_nonneg _ (by exact_mod_cast Nat.zero_le _)]
  norm_cast
 simp only [binV, pureV, Go.binOp, Op.shift, h0, if_false, hm, hf]
 rfl
theorem b_andI (x y : Nat) (hx : x < 9223372036854775808) (hy : y < 9223372036854775808) : binV .and (.int .i64 (x : Int)) (.int .i64 (y : Int)) = some (.int .i64 ((x &&& y : Nat) : Int)) := by
 rw [bin_and]
 have e : (BitVec.ofInt IntKind.i64.bits (x : Int) &&& BitVec.ofInt IntKind.i64.bits (y : Int)).toNat = x &&& y := by
  show (BitVec.ofInt 64 (x : Int) &&& BitVec.ofInt 64 (y : Int)).toNat = x &&& y
  rw [BitVec.toNat_and, ofInt_nat (by omega), ofInt_nat (by omega)]
 have hle : x &&& y ≤ x := Nat.and_le_left
 rw [e, wrap_i64] <;> omega
theorem rep55 : rep 0x55 8 = 6148914691236517205 := by decide
theorem rep33 : rep 0x33 8 = 3689348814741910323 := by decide
theorem rep0f : rep 0x0f 8 = 1085102592571150095 := by decide
theorem r81 (x : Nat) (hx : W64 x) : res T 81 [.int .u64 (x : Int)] = some (.int .i64 (pc x : Int)) := by
 refine run_res (run_pure (fn := g81) rfl rfl (by decide) ?_)
 simp only [g81, b81, zO, zN, zM, zL, zG, zP, zQ, zI, zA, zT, zF, zB, zC, zD, zE, zH, zJ, zK]
 unfold W64 at hx
 obtain ⟨-, -, q1, q2, q3, q4⟩ := pc_pos hx
 have hP := st_pcs 8 x
 obtain ⟨p1, h1⟩ : ∃ p, p = x / 2 ^ 1 := ⟨_, rfl⟩
 obtain ⟨p2, h2⟩ : ∃ p, p = p1 &&& 6148914691236517205 := ⟨_, rfl⟩
 obtain ⟨p3, h3⟩ : ∃ p, p = x &&& 6148914691236517205 := ⟨_, rfl⟩
 have g2 : p2 ≤ 6148914691236517205 := by rw [h2]; exact Nat.and_le_right
 have g3 : p3 ≤ 6148914691236517205 := by rw [h3]; exact Nat.and_le_right
 have e1 : binV .shr (.int .u64 (x : Int)) (.int .u64 1) = some (.int .u64 ((x / 2 ^ 1 : Nat) : Int)) := b_shrU x 1 (by decide)
 have e2 : binV .and (.int .u64 (p1 : Int)) (.int .u64 6148914691236517205) = some (.int .u64 ((p1 &&& 6148914691236517205 : Nat) : Int)) := b_and p1 6148914691236517205 (by omega) (by decide)
 have e3 : binV .and (.int .u64 (x : Int)) (.int .u64 6148914691236517205) = some (.int .u64 ((x &&& 6148914691236517205 : Nat) : Int)) := b_and x 6148914691236517205 hx (by decide)
 rw [← h1] at e1
 rw [← h2] at e2
 rw [← h3] at e3
 obtain ⟨a, ha⟩ : ∃ a, a = p2 + p3 := ⟨_, rfl⟩
 have w1 : IntKind.u64.wrap ((p2 : Int) + (p3 : Int)) = (a : Int) := by rw [wrap_u64] <;> omega
 have hA : stA 8 x = a := by unfold stA; rw [rep55, ha, h2, h3, h1]
 obtain ⟨p4, h4⟩ : ∃ p, p = a / 2 ^ 2 := ⟨_, rfl⟩
 obtain ⟨p5, h5⟩ : ∃ p, p = p4 &&& 3689348814741910323 := ⟨_, rfl⟩
 obtain ⟨p6, h6⟩ : ∃ p, p = a &&& 3689348814741910323 := ⟨_, rfl⟩
 have g5 : p5 ≤ 3689348814741910323 := by rw [h5]; exact Nat.and_le_right
 have g6 : p6 ≤ 3689348814741910323 := by rw [h6]; exact Nat.and_le_right
 have e4 : binV .shr (.int .u64 (a : Int)) (.int .u64 2) = some (.int .u64 ((a / 2 ^ 2 : Nat) : Int)) := b_shrU a 2 (by decide)
 have e5 : binV .and (.int .u64 (p4 : Int)) (.int .u64 3689348814741910323) = some (.int .u64 ((p4 &&& 3689348814741910323 : Nat) : Int)) := b_and p4 3689348814741910323 (by omega) (by decide)
 have e6 : binV .and (.int .u64 (a : Int)) (.int .u64 3689348814741910323) = some (.int .u64 ((a &&& 3689348814741910323 : Nat) : Int)) := b_and a 3689348814741910323 (by omega) (by decide)
 rw [← h4] at e4
 rw [← h5] at e5
 rw [← h6] at e6
 obtain ⟨b, hb⟩ : ∃ b, b = p5 + p6 := ⟨_, rfl⟩
 have w2 : IntKind.u64.wrap ((p5 : Int) + (p6 : Int)) = (b : Int) := by rw [wrap_u64] <;> omega
 have hB : stB 8 a = b := by unfold stB; rw [rep33, hb, h5, h6, h4]
 obtain ⟨p7, h7⟩ : ∃ p, p = b / 2 ^ 4 := ⟨_, rfl⟩
 have e7 : binV .shr (.int .u64 (b : Int)) (.int .u64 4) = some (.int .u64 ((b / 2 ^ 4 : Nat) : Int)) := b_shrU b 4 (by decide)
 rw [← h7] at e7
 obtain ⟨p8, h8⟩ : ∃ p, p = p7 + b := ⟨_, rfl⟩
 have w3 : IntKind.u64.wrap ((p7 : Int) + (b : Int)) = (p8 : Int) := by rw [wrap_u64] <;> omega
 obtain ⟨c, hc⟩ : ∃ c, c = p8 &&& 1085102592571150095 := ⟨_, rfl⟩
 have e8 : binV .and (.int .u64 (p8 : Int)) (.int .u64 1085102592571150095) = some (.int .u64 ((p8 &&& 1085102592571150095 : Nat) : Int)) := b_and p8 1085102592571150095 (by omega) (by decide)
 rw [← hc] at e8
 have hC : c = pcs 8 x := by rw [← hP, hA, hB]; unfold stC; rw [rep0f, hc, h8, h7]
 rw [← hC] at q1 q2 q3 q4
 have e9 : binV .shr (.int .u64 (c : Int)) (.int .u64 8) = some (.int .u64 ((c / 2 ^ 8 : Nat) : Int)) := b_shrU c 8 (by decide)
 obtain ⟨d, hd⟩ : ∃ d, d = sh8 c := ⟨_, rfl⟩
 have w4 : IntKind.u64.wrap ((c : Int) + ((c / 2 ^ 8 : Nat) : Int)) = (d : Int) := by rw [wrap_u64] <;> unfold sh8 at hd <;> omega
 have ea : binV .shr (.int .u64 (d : Int)) (.int .u64 16) = some (.int .u64 ((d / 2 ^ 16 : Nat) : Int)) := b_shrU d 16 (by decide)
 rw [← hd] at q2 q3
 obtain ⟨e, he⟩ : ∃ e, e = sh16 d := ⟨_, rfl⟩
 rw [← he] at q2
 have w5 : IntKind.u64.wrap ((d : Int) + ((d / 2 ^ 16 : Nat) : Int)) = (e : Int) := by rw [wrap_u64] <;> unfold sh16 at he <;> omega
 have eb : binV .shr (.int .u64 (e : Int)) (.int .u64 32) = some (.int .u64 ((e / 2 ^ 32 : Nat) : Int)) := b_shrU e 32 (by decide)
 obtain ⟨f, hf⟩ : ∃ f, f = sh32 e := ⟨_, rfl⟩
 have hsf : sums c = f := by unfold sums; rw [← hd, ← he, ← hf]
 rw [hsf] at q1
 have w6 : IntKind.u64.wrap ((e : Int) + ((e / 2 ^ 32 : Nat) : Int)) = (f : Int) := by rw [wrap_u64] <;> unfold sh32 at hf <;> omega
 have w7 : IntKind.i64.wrap (f : Int) = (f : Int) := by rw [wrap_i64] <;> omega
 have ec : binV .and (.int .i64 (f : Int)) (.int .i64 127) = some (.int .i64 ((f &&& 127 : Nat) : Int)) := b_andI f 127 q1 (by decide)
 have hpc : f &&& 127 = pc x := by unfold pc; rw [← hC, hsf]; exact Nat.and_two_pow_sub_one_eq_mod f 7
 rw [hpc] at ec
 generalize c / 2 ^ 8 = c' at *
 generalize d / 2 ^ 16 = d' at *
 generalize e / 2 ^ 32 = e' at *
 simp +contextual -implicitDefEqProofs (maxSteps := 2000000) only [↓wP, wS, seval, e1, e2, e3, w1, e4, e5, e6, w2, e7, w3, e8, e9, w4, ea, w5, eb, w6, w7, ec]
def f81 (x : Nat) (hx : W64 x) := callE_tr (by decide) (r81 x hx) (by simp [Tr, Tr_slV]) rfl
end Go.Q.SD
end

section
/- Masks: all of some, one of some, how many slots. -/
namespace Go.Q.SD
open Go.Q
open Nat renaming reduceEqDiff → n1w, reduceAdd → n2w, reduceSub → n3w, reduceLeDiff → n4w, reduceLT → n5w, reduceMul → n6w
open Int renaming reduceBNe → i1w, reduceBEq → i2w, reduceLT → i3w, reduceLE → i4w, reduceGT → i5w
def mV (m : Nat × Nat) : V := .agg [.int .u64 (m.1 : Int), .int .u64 (m.2 : Int)]
theorem mV_eq (m : Nat × Nat) : mV m = .agg [.int .u64 (m.1 : Int), .int .u64 (m.2 : Int)] := rfl
def WM (m : Nat × Nat) : Prop := W64 m.1 ∧ W64 m.2
def andM (a b : Nat × Nat) : Nat × Nat := (a.1 &&& b.1, a.2 &&& b.2)
def orMM (a b : Nat × Nat) : Nat × Nat := (a.1 ||| b.1, a.2 ||| b.2)
def allM : Nat × Nat := (18446744073709551615, 4294967295)
theorem WM_all : WM allM := ⟨by unfold allM W64; omega, by unfold allM W64; omega⟩
theorem WM_and {a b : Nat × Nat} (h : WM a) : WM (andM a b) := ⟨Nat.lt_of_le_of_lt Nat.and_le_left h.1, Nat.lt_of_le_of_lt Nat.and_le_left h.2⟩
theorem WM_or {a b : Nat × Nat} (h : WM a) (h' : WM b) : WM (orMM a b) := ⟨Nat.or_lt_two_pow (n := 64) h.1 h'.1, Nat.or_lt_two_pow (n := 64) h.2 h'.2⟩
theorem m61 (fs : Bool) (σ : Sto) (n lk : Nat) : callE T fs 59 [] σ n lk = some (.agg [.int .u64 (allM.1 : Int), .int .u64 (allM.2 : Int)], σ, n) := f59 fs σ n lk
theorem m62 {a b : Nat × Nat} (h : WM a) (h' : WM b) (fs : Bool) (σ : Sto) (n lk : Nat) :
 callE T fs 60 [.agg [.int .u64 (a.1 : Int), .int .u64 (a.2 : Int)], .agg [.int .u64 (b.1 : Int), .int .u64 (b.2 : Int)]] σ n lk = some (.agg [.int .u64 ((andM a b).1 : Int), .int .u64 ((andM a b).2 : Int)], σ, n) := f60 a.1 a.2 b.1 b.2 h.1 h.2 h'.1 h'.2 fs σ n lk
theorem m85 {a b : Nat × Nat} (h : WM a) (h' : WM b) (fs : Bool) (σ : Sto) (n lk : Nat) :
 callE T fs 79 [.agg [.int .u64 (a.1 : Int), .int .u64 (a.2 : Int)], .agg [.int .u64 (b.1 : Int), .int .u64 (b.2 : Int)]] σ n lk = some (.agg [.int .u64 ((orMM a b).1 : Int), .int .u64 ((orMM a b).2 : Int)], σ, n) := f79 a.1 a.2 b.1 b.2 h.1 h.2 h'.1 h'.2 fs σ n lk
theorem WM_fold (l : List (Nat × Nat)) : ∀ a, WM a → WM (l.foldl andM a) := by
 induction l with
 | nil => intro a h; exact h
 | cons x l ih => intro a h; exact ih _ (WM_and h)
theorem WM_foldo (l : List (Nat × Nat)) : ∀ a, WM a → (∀ m ∈ l, WM m) → WM (l.foldl orMM a) := by
 induction l with
 | nil => intro a h _; exact h
 | cons x l ih => intro a h hl; exact ih _ (WM_or h (hl x List.mem_cons_self)) (fun m hm => hl m (List.mem_cons_of_mem _ hm))
theorem fold_take {α β : Type} (g : β → α → β) (b : β) {l : List α} {j : Nat} (h : j < l.length) : (l.take (j + 1)).foldl g b = g ((l.take j).foldl g b) l[j] := by
 rw [← List.take_append_getElem h, List.foldl_append]; rfl
theorem r25 (l : Option (List (Nat × Nat))) (hl : (lst l).length < 4611686018427387904) (h : ∀ m ∈ lst l, WM m) : res T 25 [slV 2 mV l] = some (mV ((lst l).foldl andM allM)) := by
 refine run_res (run_pure (fn := g25) rfl rfl (by decide) ?_)
 simp only [g25, b25, zO, zN, zM, zL, zG, zP, zQ, zI, zA, zT, zF, zB, zC, zD, zE, zH, zJ, zK]
 simp +contextual -implicitDefEqProofs (maxSteps := 2000000) only [↓wP, wS, seval, m61]
 refine WC_for (lst l).length 0 (fun (j : Nat) env σ n => env 7 = slV 2 mV l ∧ env 3 = .ptr 1 2 0 0 ∧ env 2 = .ptr 0 2 0 0 ∧ 2 ≤ n ∧ σ 0 = some (.row 2 [.agg [.int .u64 0, .int .u64 0]]) ∧ σ 1 = some (.row 2 [mV (((lst l).take j).foldl andM allM)])) (by omega) (by decide) (by decide) (fun _ _ => rfl) (fun _ _ _ => rfl) ?_ ?_ _ _ _ rfl rfl ?_
 ·intro j env σ n hj h1 h2 ⟨g1, g2, g3, g4, g5, g6⟩
  simp only [vl_tmp] at h2
  have hx : (lst l)[j]? = some (lst l)[j] := List.getElem?_eq_getElem hj
  have hm := h _ (List.getElem_mem hj)
  have hft := fold_take andM allM hj
  have hw := WM_fold ((lst l).take j) allM WM_all
  generalize ((lst l).take j).foldl andM allM = c at *
  generalize (lst l)[j] = m at *
  have f := m62 hw hm
  rw [mV_eq] at g6
  have a1 : (1 = n) = False := by simp; omega
  have a2 : (0 = n) = False := by simp; omega
  have a3 : (n = 1) = False := by simp; omega
  simp +contextual -implicitDefEqProofs (maxSteps := 2000000) only [↓wP, wS, seval, h1, h2, g1, g2, g3, g5, g6, hx, mV_eq, a1, a2, a3, f]
  rw [hft]
  exact ⟨by omega, rfl⟩
 ·intro env σ n ⟨g1, g2, g3, g4, g5, g6⟩ h1 h2
  rw [List.take_length, mV_eq] at g6
  simp +contextual -implicitDefEqProofs (maxSteps := 2000000) only [↓wP, wS, seval, g2, g3, g5, g6]
  rfl
 ·exact ⟨rfl, rfl, rfl, by omega, rfl, rfl⟩
def f25 (l : Option (List (Nat × Nat))) (hl : (lst l).length < 4611686018427387904) (h : ∀ m ∈ lst l, WM m) := callE_tr (by decide) (r25 l hl h) (by simp [Tr, Tr_slV]) rfl
theorem r50 (l : Option (List (Nat × Nat))) (hl : (lst l).length < 4611686018427387904) (h : ∀ m ∈ lst l, WM m) : res T 50 [slV 2 mV l] = some (mV (andM ((lst l).foldl orMM (0, 0)) allM)) := by
 refine run_res (run_pure (fn := g50) rfl rfl (by decide) ?_)
 simp only [g50, b50, zO, zN, zM, zL, zG, zP, zQ, zI, zA, zT, zF, zB, zC, zD, zE, zH, zJ, zK]
 simp +contextual -implicitDefEqProofs (maxSteps := 2000000) only [↓wP, wS, seval]
 refine WC_for (lst l).length 0 (fun (j : Nat) env σ n => env 6 = slV 2 mV l ∧ env 3 = .ptr 1 2 0 0 ∧ env 2 = .ptr 0 2 0 0 ∧ 2 ≤ n ∧ σ 0 = some (.row 2 [.agg [.int .u64 0, .int .u64 0]]) ∧ σ 1 = some (.row 2 [mV (((lst l).take j).foldl orMM (0, 0))])) (by omega) (by decide) (by decide) (fun _ _ => rfl) (fun _ _ _ => rfl) ?_ ?_ _ _ _ rfl rfl ?_
 ·intro j env σ n hj h1 h2 ⟨g1, g2, g3, g4, g5, g6⟩
  simp only [vl_tmp] at h2
  have hx : (lst l)[j]? = some (lst l)[j] := List.getElem?_eq_getElem hj
  have hm := h _ (List.getElem_mem hj)
  have hft := fold_take orMM (0, 0) hj
  have hw := WM_foldo ((lst l).take j) (0, 0) ⟨by unfold W64; omega, by unfold W64; omega⟩ (fun m hm => h m (List.mem_of_mem_take hm))
  generalize ((lst l).take j).foldl orMM (0, 0) = c at *
  generalize (lst l)[j] = m at *
  have f := m85 hw hm
  rw [mV_eq] at g6
  have a1 : (1 = n) = False := by simp; omega
  have a2 : (0 = n) = False := by simp; omega
  have a3 : (n = 1) = False := by simp; omega
  simp +contextual -implicitDefEqProofs (maxSteps := 2000000) only [↓wP, wS, seval, h1, h2, g1, g2, g3, g5, g6, hx, mV_eq, a1, a2, a3, f]
  rw [hft]
  exact ⟨by omega, rfl⟩
 ·intro env σ n ⟨g1, g2, g3, g4, g5, g6⟩ h1 h2
  have hw := WM_foldo (lst l) (0, 0) ⟨by unfold W64; omega, by unfold W64; omega⟩ h
  have f := m62 hw WM_all
  rw [List.take_length, mV_eq] at g6
  simp +contextual -implicitDefEqProofs (maxSteps := 2000000) only [↓wP, wS, seval, g2, g3, g5, g6, m61, f]
  rfl
 ·exact ⟨rfl, rfl, rfl, by omega, rfl, rfl⟩
def f50 (l : Option (List (Nat × Nat))) (hl : (lst l).length < 4611686018427387904) (h : ∀ m ∈ lst l, WM m) := callE_tr (by decide) (r50 l hl h) (by simp [Tr, Tr_slV]) rfl
def cntM (m : Nat × Nat) : Nat := pc (andM m allM).1 + pc (andM m allM).2
theorem r52 (m : Nat × Nat) (h : WM m) : res T 52 [mV m] = some (.int .i64 (cntM m : Int)) := by
 refine run_res (run_pure (fn := g52) rfl rfl (by decide) ?_)
 simp only [g52, b52, zO, zN, zM, zL, zG, zP, zQ, zI, zA, zT, zF, zB, zC, zD, zE, zH, zJ, zK]
 have f := m62 h WM_all
 have hw := WM_and (b := allM) h
 unfold cntM
 obtain ⟨⟨a, b⟩, hab⟩ : ∃ c, c = andM m allM := ⟨_, rfl⟩
 rw [← hab] at f hw
 rw [← hab]
 have fa := f81 a hw.1
 have fb := f81 b hw.2
 have pa := (pc_pos hw.1).2.1
 have pb := (pc_pos hw.2).2.1
 simp only at pa pb
 have w1 : IntKind.i64.wrap ((0 : Int) + (pc a : Int)) = (pc a : Int) := by rw [wrap_i64] <;> omega
 have w2 : IntKind.i64.wrap ((pc a : Int) + (pc b : Int)) = ((pc a + pc b : Nat) : Int) := by rw [wrap_i64] <;> omega
 simp +contextual -implicitDefEqProofs (maxSteps := 2000000) only [↓wP, wQ, wQ1, wQ2, wQ3, wR, boxE, partsOf, ↓reduceIte, n1w, n2w, n3w, n4w, n5w, n6w, reduceCtorEq, i1w, i2w, i3w, i4w, i5w, mV_eq, m61, f]
 refine WC_for 2 0 (fun (j : Nat) env σ n => env 8 = .agg [.int .u64 (a : Int), .int .u64 (b : Int)] ∧ env 3 = .int .i64 ((if j = 0 then 0 else if j = 1 then pc a else pc a + pc b : Nat) : Int)) (by decide) (by decide) (by decide) (fun _ _ => rfl) (fun _ _ _ => rfl) ?_ ?_ _ _ _ rfl rfl ?_
 ·intro j env σ n hj h1 h2 ⟨g1, g2⟩
  obtain rfl | rfl : j = 0 ∨ j = 1 := by omega
  ·simp only [if_true, Int.natCast_zero] at h1 g2
   simp +contextual -implicitDefEqProofs (maxSteps := 2000000) only [↓wP, wQ, wQ1, wQ2, wQ3, wR, boxE, partsOf, ↓reduceIte, n1w, n2w, n3w, n4w, n5w, n6w, reduceCtorEq, i1w, i2w, i3w, i4w, i5w, h1, g1, g2, fa, w1]
   exact ⟨rfl, rfl⟩
  ·simp only [Nat.reduceEqDiff, if_false, if_true, Int.natCast_one] at h1 g2
   simp +contextual -implicitDefEqProofs (maxSteps := 2000000) only [↓wP, wQ, wQ1, wQ2, wQ3, wR, boxE, partsOf, ↓reduceIte, n1w, n2w, n3w, n4w, n5w, n6w, reduceCtorEq, i1w, i2w, i3w, i4w, i5w, h1, g1, g2, fb, w2]
   exact ⟨rfl, rfl⟩
 ·intro env σ n ⟨g1, g2⟩ h1 h2
  simp only [Nat.reduceEqDiff, if_false] at g2
  simp +contextual -implicitDefEqProofs (maxSteps := 2000000) only [↓wP, wQ, wQ1, wQ2, wQ3, wR, boxE, partsOf, ↓reduceIte, n1w, n2w, n3w, n4w, n5w, n6w, reduceCtorEq, i1w, i2w, i3w, i4w, i5w, g2]
 ·exact ⟨rfl, rfl⟩
def f52 (m : Nat × Nat) (h : WM m) := callE_tr (by decide) (r52 m h) (by simp [Tr, mV_eq]) rfl
theorem cntM_pos {m : Nat × Nat} (h : WM m) : 0 < cntM m ↔ andM m allM ≠ (0, 0) := by
 have hw := WM_and (b := allM) h
 unfold cntM
 have p1 := (pc_pos hw.1).1
 have p2 := (pc_pos hw.2).1
 have : andM m allM ≠ (0, 0) ↔ (andM m allM).1 ≠ 0 ∨ (andM m allM).2 ≠ 0 := by
  rw [Ne, Prod.ext_iff]
  simp only
  omega
 rw [this]
 omega
end Go.Q.SD
end

section
/- Which masks may be. -/
namespace Go.Q.SD
open Go.Q
theorem bin_andNot (k : IntKind) (a b : Int) : binV .andNot (.int k a) (.int k b) = some (.int k (k.wrap (BitVec.ofInt k.bits a &&& ~~~BitVec.ofInt k.bits b).toNat)) := by
 simp [binV, pureV, Go.binOp, Op.intBits]; rfl
theorem an_g {x : Nat} (hx : W64 x) : ∃ v : Nat, binV .andNot (.int .u64 (x : Int)) (.int .u64 4294967295) = some (.int .u64 (v : Int)) ∧ (v = 0 ↔ x < 4294967296) := by
 refine ⟨x &&& 18446744069414584320, ?_, ?_⟩
 ·rw [bin_andNot]
  have e : (BitVec.ofInt IntKind.u64.bits (x : Int) &&& ~~~BitVec.ofInt IntKind.u64.bits 4294967295).toNat = x &&& 18446744069414584320 := by
   show (BitVec.ofInt 64 (x : Int) &&& ~~~ BitVec.ofInt 64 4294967295).toNat = _
   rw [BitVec.toNat_and, ofInt_nat hx]
   rfl
  have hle : x &&& 18446744069414584320 ≤ x := Nat.and_le_left
  unfold W64 at hx
  rw [e, wrap_u64] <;> omega
 ·have h1 := Nat.and_mod_two_pow (a := x) (b := 18446744069414584320) (n := 32)
  have h2 := Nat.and_div_two_pow (a := x) (b := 18446744069414584320) (n := 32)
  have h3 := Nat.and_two_pow_sub_one_eq_mod (x / 2 ^ 32) 32
  rw [show (18446744069414584320 : Nat) % 2 ^ 32 = 0 by decide, Nat.and_zero] at h1
  rw [show (18446744069414584320 : Nat) / 2 ^ 32 = 2 ^ 32 - 1 by decide, h3] at h2
  unfold W64 at hx
  omega
theorem m113a {x : Nat} (hx : W64 x) (fs : Bool) (σ : Sto) (n lk : Nat) : callE T fs 98 [.int .u64 (x : Int), .int .u64 (allM.1 : Int)] σ n lk = some (.int .u64 ((0 : Nat) : Int), σ, n) := f111a x hx fs σ n lk
theorem m113b {x v : Nat} (h : binV .andNot (.int .u64 (x : Int)) (.int .u64 4294967295) = some (.int .u64 (v : Int))) (fs : Bool) (σ : Sto) (n lk : Nat) : callE T fs 98 [.int .u64 (x : Int), .int .u64 (allM.2 : Int)] σ n lk = some (.int .u64 (v : Int), σ, n) := by
 refine callE_tr (by decide) (?_ : res T 98 [.int .u64 (x : Int), .int .u64 4294967295] = some (.int .u64 (v : Int))) rfl rfl fs σ n lk
 refine run_res (run_pure (fn := g98) rfl rfl (by decide) ?_)
 simp only [g98, b98, zO, zN, zM, zL, zG, zP, zQ, zI, zA, zT, zF, zB, zC, zD, zE, zH, zJ, zK]
 simp +contextual -implicitDefEqProofs (maxSteps := 2000000) only [↓wP, wS, seval, h]
theorem r49g (m : Nat × Nat) (h : WM m) : res T 51 [mV m] = some (.int .i64 (if m.2 < 4294967296 then 0 else 200)) := by
 obtain ⟨v, h1, h2⟩ := an_g h.2
 have f := f80G 98 m.1 m.2 allM.1 allM.2 _ _ (m113a h.1) (m113b h1)
 have f80 : ∀ fs σ n lk, callE T fs 80 [.agg [.int .u64 (m.1 : Int), .int .u64 (m.2 : Int)], .agg [.int .u64 (allM.1 : Int), .int .u64 (allM.2 : Int)]] σ n lk = some (.agg [.int .u64 ((0 : Nat) : Int), .int .u64 (v : Int)], σ, n) := by
  intro fs σ n lk
  refine callE_tr (by decide) ?_ (by simp [Tr]) rfl fs σ n lk
  refine run_res (run_pure (fn := g80) rfl rfl (by decide) ?_)
  simp only [g80, b80, zO, zN, zM, zL, zG, zP, zQ, zI, zA, zT, zF, zB, zC, zD, zE, zH, zJ, zK]
  simp +contextual -implicitDefEqProofs (maxSteps := 2000000) only [↓wP, wS, seval, f]
 refine run_res (run_pure (fn := g51) rfl rfl (by decide) ?_)
 simp only [g51, b51, zO, zN, zM, zL, zG, zP, zQ, zI, zA, zT, zF, zB, zC, zD, zE, zH, zJ, zK]
 by_cases hv : m.2 < 4294967296
 ·have hv0 : v = 0 := h2.2 hv
  subst hv0
  rw [if_pos hv]
  have z : (((0 : Nat) : Int) == 0) = true := rfl
  simp +contextual -implicitDefEqProofs (maxSteps := 2000000) only [↓wP, wS, seval, mV_eq, m61, f80, eqc_two, z, Bool.and_self, Bool.bne_true]
 ·have hv0 : v ≠ 0 := fun e => hv (h2.1 e)
  rw [if_neg hv]
  have z : (((0 : Nat) : Int) == 0) = true := rfl
  have z1 : ((v : Int) == 0) = false := by simp; omega
  have z2 : (false != true) = true := rfl
  simp +contextual -implicitDefEqProofs (maxSteps := 2000000) only [↓wP, wS, seval, mV_eq, m61, f80, eqc_two, z, z1, Bool.and_false, z2]
def f49g (m : Nat × Nat) (h : WM m) := callE_tr (by decide) (r49g m h) (by simp [Tr, mV_eq]) rfl
end Go.Q.SD
end

section
/- Hits, and which stands ahead. -/
namespace Go.Q.SD
open Go.Q
open Nat renaming reduceEqDiff → n1w, reduceAdd → n2w, reduceSub → n3w, reduceLeDiff → n4w, reduceLT → n5w, reduceMul → n6w
open Int renaming reduceBNe → i1w, reduceBEq → i2w, reduceLT → i3w, reduceLE → i4w, reduceGT → i5w
structure Hit where
 id : Int
 d : Int
 deriving Inhabited, DecidableEq
def hitV (x : Hit) : V := .agg [.int .u64 x.id, .int .u64 x.d]
def cmpU (x y : Int) : Int := if x < y then -1 else if y < x then 1 else 0
def cmpH (a b : Hit) : Int := if cmpU a.d b.d = 0 then cmpU a.id b.id else cmpU a.d b.d
def ahead (a b : Hit) : Bool := decide (a.d < b.d) || (a.d == b.d && decide (a.id < b.id))
theorem cmp_lt (a b : Hit) : decide (cmpH a b < 0) = ahead a b := by
 unfold cmpH cmpU ahead
 by_cases h1 : a.d < b.d
 ·simp [h1]
 ·by_cases h2 : b.d < a.d
  ·have : a.d ≠ b.d := by omega
   simp [h1, h2, this]
  ·have e : a.d = b.d := by omega
   by_cases h3 : a.id < b.id
   ·simp [e, h3]
   ·by_cases h4 : b.id < a.id <;> simp [e, h3, h4]
theorem cmp_gt (a b : Hit) : decide (0 < cmpH a b) = ahead b a := by
 unfold cmpH cmpU ahead
 by_cases h1 : b.d < a.d
 ·have : ¬ a.d < b.d := by omega
  simp [h1, this]
 ·by_cases h2 : a.d < b.d
  ·have : b.d ≠ a.d := by omega
   simp [h1, h2, this]
  ·have e : b.d = a.d := by omega
   by_cases h3 : b.id < a.id
   ·have : ¬ a.id < b.id := by omega
    simp [e, h3, this]
   ·by_cases h4 : a.id < b.id <;> simp [e, h3, h4]
theorem r93 (x : Int) : res T 93 [.int .u64 x] = some (.bool false) := by
 refine run_res (run_pure (fn := g93) rfl rfl (by decide) ?_)
 simp only [g93, b93, zO, zN, zM, zL, zG, zP, zQ, zI, zA, zT, zF, zB, zC, zD, zE, zH, zJ, zK]
 simp +contextual -implicitDefEqProofs (maxSteps := 2000000) only [↓wP, wS, seval]
def f93 (x : Int) := callE_tr (by decide) (r93 x) (by simp [Tr, Tr_slV]) rfl
theorem r67 (x y : Int) : res T 67 [.int .u64 x, .int .u64 y] = some (.int .i64 (cmpU x y)) := by
 refine run_res (run_pure (fn := g67) rfl rfl (by decide) ?_)
 simp only [g67, b67, zO, zN, zM, zL, zG, zP, zQ, zI, zA, zT, zF, zB, zC, zD, zE, zH, zJ, zK]
 simp +contextual -implicitDefEqProofs (maxSteps := 2000000) only [↓wP, wS, seval, f93]
 unfold cmpU
 by_cases h1 : x < y
 ·simp +contextual -implicitDefEqProofs (maxSteps := 2000000) only [↓wP, wS, seval, h1]
 ·by_cases h2 : y < x
  ·simp +contextual -implicitDefEqProofs (maxSteps := 2000000) only [↓wP, wS, seval, h1, h2]
  ·simp +contextual -implicitDefEqProofs (maxSteps := 2000000) only [↓wP, wS, seval, h1, h2]
def f67 (x y : Int) := callE_tr (by decide) (r67 x y) (by simp [Tr, Tr_slV]) rfl
theorem r66 (a b : Int) : res T 66 [.sl 1 [.int .i64 a, .int .i64 b]] = some (.int .i64 (if a = 0 then b else a)) := by
 refine run_res (run_pure (fn := g66) rfl rfl (by decide) ?_)
 simp only [g66, b66, zO, zN, zM, zL, zG, zP, zQ, zI, zA, zT, zF, zB, zC, zD, zE, zH, zJ, zK]
 simp +contextual -implicitDefEqProofs (maxSteps := 2000000) only [↓wP, wQ, wQ1, wQ2, wQ3, wR, boxE, partsOf, ↓reduceIte, n1w, n2w, n3w, n4w, n5w, n6w, reduceCtorEq, i1w, i2w, i3w, i4w, i5w]
 refine WC_for 2 0 (fun (j : Nat) env σ n => env 3 = .int .i64 0 ∧ env 6 = .sl 1 [.int .i64 a, .int .i64 b] ∧ (0 < j → a = 0) ∧ (1 < j → b = 0)) (by omega) (by decide) (by decide) (fun _ _ => rfl) (fun _ _ _ => rfl) ?_ ?_ _ _ _ rfl rfl ?_
 ·intro j env σ n hj h1 h2 ⟨h3, h4, h5, h6⟩
  simp only [vl_tmp] at h2
  match j, hj with
  | 0, _ =>
    by_cases ha : a = 0
    ·have hd : (a != 0) = false := by simp [ha]
     simp +contextual -implicitDefEqProofs (maxSteps := 2000000) only [↓wP, wQ, wQ1, wQ2, wQ3, wR, boxE, partsOf, ↓reduceIte, n1w, n2w, n3w, n4w, n5w, n6w, reduceCtorEq, i1w, i2w, i3w, i4w, i5w, h1, h2, h3, h4, hd]
     exact ⟨fun _ => ha, fun h => h.elim⟩
    ·have hd : (a != 0) = true := by simp [ha]
     simp +contextual -implicitDefEqProofs (maxSteps := 2000000) only [↓wP, wQ, wQ1, wQ2, wQ3, wR, boxE, partsOf, ↓reduceIte, n1w, n2w, n3w, n4w, n5w, n6w, reduceCtorEq, i1w, i2w, i3w, i4w, i5w, h1, h2, h3, h4, hd, ha]
  | 1, _ =>
    have ha := h5 (by omega)
    by_cases hb : b = 0
    ·have hd : (b != 0) = false := by simp [hb]
     simp +contextual -implicitDefEqProofs (maxSteps := 2000000) only [↓wP, wQ, wQ1, wQ2, wQ3, wR, boxE, partsOf, ↓reduceIte, n1w, n2w, n3w, n4w, n5w, n6w, reduceCtorEq, i1w, i2w, i3w, i4w, i5w, h1, h2, h3, h4, hd]
     exact ⟨fun _ => ha, fun _ => hb⟩
    ·have hd : (b != 0) = true := by simp [hb]
     simp +contextual -implicitDefEqProofs (maxSteps := 2000000) only [↓wP, wQ, wQ1, wQ2, wQ3, wR, boxE, partsOf, ↓reduceIte, n1w, n2w, n3w, n4w, n5w, n6w, reduceCtorEq, i1w, i2w, i3w, i4w, i5w, h1, h2, h3, h4, hd, ha]
 ·intro env σ n ⟨h3, h4, h5, h6⟩ h1 h2
  have ha : a = 0 := h5 (by decide)
  have hb : b = 0 := h6 (by decide)
  simp +contextual -implicitDefEqProofs (maxSteps := 2000000) only [↓wP, wQ, wQ1, wQ2, wQ3, wR, boxE, partsOf, ↓reduceIte, n1w, n2w, n3w, n4w, n5w, n6w, reduceCtorEq, i1w, i2w, i3w, i4w, i5w, h3, ha, hb]
 ·simp +contextual -implicitDefEqProofs (maxSteps := 2000000) only [↓wP, wQ, wQ1, wQ2, wQ3, wR, boxE, partsOf, ↓reduceIte, n1w, n2w, n3w, n4w, n5w, n6w, reduceCtorEq, i1w, i2w, i3w, i4w, i5w]
  exact ⟨fun h => absurd h (by decide), fun h => absurd h (by decide)⟩
def f66 (a b : Int) := callE_tr (by decide) (r66 a b) (by simp [Tr, Tr_slV]) rfl
theorem r45 (i d i' d' : Int) : res T 45 [.agg [.int .u64 i, .int .u64 d], .agg [.int .u64 i', .int .u64 d']] = some (.int .i64 (cmpH ⟨i, d⟩ ⟨i', d'⟩)) := by
 refine run_res (run_pure (fn := g45) rfl rfl (by decide) ?_)
 simp only [g45, b45, zO, zN, zM, zL, zG, zP, zQ, zI, zA, zT, zF, zB, zC, zD, zE, zH, zJ, zK]
 have h26 := r66 (cmpU d d') (cmpU i i')
 have hm26 : T.mode 66 ≠ .raw := by decide
 simp +contextual -implicitDefEqProofs (maxSteps := 2000000) only [↓wP, wS, seval, f67, callE_eq hm26, frz_rf, h26]
 rfl
def f45 (i d i' d' : Int) := callE_tr (by decide) (r45 i d i' d') (by simp [Tr, Tr_slV]) rfl
end Go.Q.SD
end

section
/- The pivot of a sort. -/
namespace Go.Q.SD
open Go.Q
def rw' (d : Array Hit) : List V := d.toList.map hitV
theorem rw_len (d : Array Hit) : (rw' d).length = d.size := by simp [rw']
theorem rw_at {d : Array Hit} {i : Nat} (h : i < d.size) : (rw' d)[i]? = some (.agg [.int .u64 (d[i]!).id, .int .u64 (d[i]!).d]) := by
 unfold rw'
 rw [List.getElem?_map, List.getElem?_eq_getElem (by simpa using h), Option.map_some]
 simp [hitV, h]
theorem wrap_nat {m : Nat} (h : m < 9223372036854775808) : IntKind.i64.wrap (m : Int) = (m : Int) := by rw [wrap_i64] <;> omega
theorem bin_quo4 (m : Nat) (h : m < 9223372036854775808) : binV .quo (.int .i64 (m : Int)) (.int .i64 4) = some (.int .i64 ((m / 4 : Nat) : Int)) := by
 rw [bin_quo .i64 (m : Int) 4 (by decide)]
 have e : (m : Int).tdiv 4 = ((m / 4 : Nat) : Int) := rfl
 rw [e, wrap_nat (by omega)]
theorem raw123 (d : Array Hit) (a b : Nat) (s : Int) (sid n : Nat) (σ : Sto) (ha : a < d.size) (hb : b < d.size) (hs : σ sid = some (.row 1 [.int .i64 s])) {Q : V → Sto → Nat → Prop}
 (hQ : ∀ (x y : Nat) (s' : Int) (σ' : Sto), (x = a ∨ x = b) → (y = a ∨ y = b) → σ' sid = some (.row 1 [.int .i64 s']) → (∀ i, i ≠ sid → σ' i = σ i) → Q (.tup [.int .i64 (x : Int), .int .i64 (y : Int)]) σ' n) :
 run T (.raw 123 [.sl 2 (rw' d), .int .i64 (a : Int), .int .i64 (b : Int), .ptr sid 1 0 0, .fn 45 []] σ n 0) (memQ Q) := by
 refine run_rawE (fn := g123) rfl rfl ?_
 simp only [g123, b123, zO, zN, zM, zL, zG, zP, zQ, zI, zA, zT, zF, zB, zC, zD, zE, zH, zJ, zK]
 have hxa := rw_at ha
 have hxb := rw_at hb
 by_cases hc : cmpH d[b]! d[a]! < 0
 ·simp +contextual -implicitDefEqProofs (maxSteps := 2000000) only [↓wP, wS, seval, hxa, hxb, f45, hc, hs]
  exact hQ b a _ _ (.inr rfl) (.inl rfl) (by simp [upd]; rfl) (fun i hi => by simp [upd, hi])
 ·simp +contextual -implicitDefEqProofs (maxSteps := 2000000) only [↓wP, wS, seval, hxa, hxb, f45, hc, hs]
  exact hQ a b _ _ (.inl rfl) (.inr rfl) hs (fun i hi => rfl)
theorem raw116 (d : Array Hit) (a b c : Nat) (s : Int) (sid n : Nat) (σ : Sto) (ha : a < d.size) (hb : b < d.size) (hc : c < d.size) (hs : σ sid = some (.row 1 [.int .i64 s])) {Q : V → Sto → Nat → Prop}
 (hQ : ∀ (x : Nat) (s' : Int) (σ' : Sto), (x = a ∨ x = b ∨ x = c) → σ' sid = some (.row 1 [.int .i64 s']) → (∀ i, i ≠ sid → σ' i = σ i) → Q (.int .i64 (x : Int)) σ' n) :
 run T (.raw 116 [.sl 2 (rw' d), .int .i64 (a : Int), .int .i64 (b : Int), .int .i64 (c : Int), .ptr sid 1 0 0, .fn 45 []] σ n 0) (memQ Q) := by
 refine run_rawE (fn := g116) rfl rfl ?_
 simp only [g116, b116, zO, zN, zM, zL, zG, zP, zQ, zI, zA, zT, zF, zB, zC, zD, zE, zH, zJ, zK]
 simp +contextual -implicitDefEqProofs (maxSteps := 2000000) only [↓wP, wS, seval]
 refine stepW_raw (by decide) (raw123 d a b s sid n σ ha hb hs fun x y s1 σ1 hx hy h1 h2 => ?_)
 simp +contextual -implicitDefEqProofs (maxSteps := 2000000) only [↓wP, wS, seval]
 have hy' : y < d.size := by rcases hy with rfl | rfl <;> assumption
 have hx' : x < d.size := by rcases hx with rfl | rfl <;> assumption
 refine stepW_raw (by decide) (raw123 d y c s1 sid n σ1 hy' hc h1 fun x2 y2 s2 σ2 hx2 hy2 h3 h4 => ?_)
 simp +contextual -implicitDefEqProofs (maxSteps := 2000000) only [↓wP, wS, seval]
 have hx2' : x2 < d.size := by rcases hx2 with rfl | rfl <;> assumption
 refine stepW_raw (by decide) (raw123 d x x2 s2 sid n σ2 hx' hx2' h3 fun x3 y3 s3 σ3 hx3 hy3 h5 h6 => ?_)
 simp +contextual -implicitDefEqProofs (maxSteps := 2000000) only [↓wP, wS, seval]
 refine hQ y3 s3 σ3 ?_ h5 (fun i hi => by rw [h6 i hi, h4 i hi, h2 i hi])
 rcases hy3 with rfl | rfl
 ·rcases hx with rfl | rfl <;> simp
 ·rcases hx2 with rfl | rfl
  ·rcases hy with rfl | rfl <;> simp
  ·simp
theorem r103 (d : Array Hit) (a b : Nat) (hab : a < b) (hb : b ≤ d.size) (h50 : b - a < 50) (hn : d.size < 1000000) :
 ∃ (p : Nat) (h : Int), a ≤ p ∧ p < b ∧ (h = 0 ∨ h = 1 ∨ h = 2) ∧ res T 103 [.sl 2 (rw' d), .int .i64 (a : Int), .int .i64 (b : Int), .fn 45 []] = some (.tup [.int .i64 (p : Int), .int .i64 h]) := by
 obtain ⟨r, hr, p, h, h1, h2, h3, rfl⟩ := res_pure (T := T) (f := 103) (args := [.sl 2 (rw' d), .int .i64 (a : Int), .int .i64 (b : Int), .fn 45 []])
  (R := fun r => ∃ (p : Nat) (h : Int), a ≤ p ∧ p < b ∧ (h = 0 ∨ h = 1 ∨ h = 2) ∧ r = .tup [.int .i64 (p : Int), .int .i64 h]) (fn := g103) rfl rfl (by decide) (by
  simp only [g103, b103, zO, zN, zM, zL, zG, zP, zQ, zI, zA, zT, zF, zB, zC, zD, zE, zH, zJ, zK]
  have w1 : IntKind.i64.wrap ((b : Int) - (a : Int)) = ((b - a : Nat) : Int) := by rw [wrap_i64] <;> omega
  have q4 := bin_quo4 (b - a) (by omega)
  have w2 : IntKind.i64.wrap ((((b - a) / 4 : Nat) : Int) * 1) = (((b - a) / 4 : Nat) : Int) := by rw [wrap_i64] <;> omega
  have w3 : IntKind.i64.wrap ((((b - a) / 4 : Nat) : Int) * 2) = (((b - a) / 4 * 2 : Nat) : Int) := by rw [wrap_i64] <;> omega
  have w4 : IntKind.i64.wrap ((((b - a) / 4 : Nat) : Int) * 3) = (((b - a) / 4 * 3 : Nat) : Int) := by rw [wrap_i64] <;> omega
  have w5 : IntKind.i64.wrap ((a : Int) + (((b - a) / 4 : Nat) : Int)) = ((a + (b - a) / 4 : Nat) : Int) := by rw [wrap_i64] <;> omega
  have w6 : IntKind.i64.wrap ((a : Int) + (((b - a) / 4 * 2 : Nat) : Int)) = ((a + (b - a) / 4 * 2 : Nat) : Int) := by rw [wrap_i64] <;> omega
  have w7 : IntKind.i64.wrap ((a : Int) + (((b - a) / 4 * 3 : Nat) : Int)) = ((a + (b - a) / 4 * 3 : Nat) : Int) := by rw [wrap_i64] <;> omega
  have c50 : ¬ (50 : Int) ≤ ((b - a : Nat) : Int) := by omega
  have fin : ∀ (p : Nat) (s' : Int), a ≤ p → p < b → True := fun _ _ _ _ => trivial
  by_cases c8 : (8 : Int) ≤ ((b - a : Nat) : Int)
  ·simp +contextual -implicitDefEqProofs (maxSteps := 2000000) only [↓wP, wS, seval, w1, q4, w2, w3, w4, w5, w6, w7, c8, c50]
   refine stepW_raw (by decide) (raw116 d _ _ _ 0 0 1 _ (by omega) (by omega) (by omega) (by simp [upd]) fun x s' σ' hx h1 h2 => ?_)
   have hx' : a ≤ x ∧ x < b := by omega
   by_cases e0 : s' = 0
   ·simp +contextual -implicitDefEqProofs (maxSteps := 2000000) only [↓wP, wS, seval, h1, e0]
    exact ⟨x, 1, hx'.1, hx'.2, by simp, rfl⟩
   ·have d0 : (s' == 0) = false := by simpa using e0
    by_cases e12 : s' = 12
    ·simp +contextual -implicitDefEqProofs (maxSteps := 2000000) only [↓wP, wS, seval, h1, e12]
     exact ⟨x, 2, hx'.1, hx'.2, by simp, rfl⟩
    ·have d12 : (s' == 12) = false := by simpa using e12
     simp +contextual -implicitDefEqProofs (maxSteps := 2000000) only [↓wP, wS, seval, h1, d0, d12]
     exact ⟨x, 0, hx'.1, hx'.2, by simp, rfl⟩
  ·simp +contextual -implicitDefEqProofs (maxSteps := 2000000) only [↓wP, wS, seval, w1, q4, w2, w3, w4, w5, w6, w7, c8, c50]
   exact ⟨a + (b - a) / 4 * 2, 1, by omega, by omega, by simp, rfl⟩)
 exact ⟨p, h, h1, h2, h3, hr⟩
end Go.Q.SD
end

section
/- Small sorts, a part turned round, patterns broken. -/
namespace Go.Q.SD
open Go.Q Go.Sort
def At (σ σ0 : Sto) (id : Nat) (d : Array Hit) : Prop := σ id = some (.row 2 (rw' d)) ∧ ∀ i, i ≠ id → σ i = σ0 i
theorem rw_set {d : Array Hit} {i : Nat} {x : Hit} : (rw' d).set i (.agg [.int .u64 x.id, .int .u64 x.d]) = rw' (d.setIfInBounds i x) := by
 unfold rw'
 rw [Array.toList_setIfInBounds, List.map_set]
 rfl
theorem rw_set_at {d : Array Hit} {i j : Nat} {x : Hit} (hj : j < d.size) : ∃ u w : Int, ((rw' d).set i (.agg [.int .u64 x.id, .int .u64 x.d]))[j]? = some (.agg [.int .u64 u, .int .u64 w]) := by
 rw [rw_set, rw_at (by simpa using hj)]
 exact ⟨_, _, rfl⟩
theorem rw_swp (d : Array Hit) (i j : Nat) : ((rw' d).set i (.agg [.int .u64 (d[j]!).id, .int .u64 (d[j]!).d])).set j (.agg [.int .u64 (d[i]!).id, .int .u64 (d[i]!).d]) = rw' (swp d i j) := by
 rw [rw_set, rw_set]
 rfl
theorem At.swp {σ σ0 : Sto} {id : Nat} {d : Array Hit} (h : At σ σ0 id d) (i j : Nat) :
 At (upd (upd σ id (some (.row 2 ((rw' d).set i (.agg [.int .u64 (d[j]!).id, .int .u64 (d[j]!).d]))))) id
  (some (.row 2 (((rw' d).set i (.agg [.int .u64 (d[j]!).id, .int .u64 (d[j]!).d])).set j (.agg [.int .u64 (d[i]!).id, .int .u64 (d[i]!).d]))))) σ0 id (swp d i j) := by
 refine ⟨?_, fun k hk => ?_⟩
 ·simp only [upd, if_true, rw_swp]
 ·simp only [upd, hk, if_false, h.2 k hk]
theorem At.refl {σ : Sto} {id : Nat} {d : Array Hit} (h : σ id = some (.row 2 (rw' d))) : At σ σ id d := ⟨h, fun _ _ => rfl⟩
theorem insIn_lt {lt : Hit → Hit → Bool} {a j : Nat} {d : Array Hit} (h : a < j + 1) (hl : lt d[j + 1]! d[j]! = true) : insInner lt a (j + 1) d = insInner lt a j (Go.Sort.swp d (j + 1) j) := by
 rw [insInner]; simp [h, hl]
theorem insIn_stop {lt : Hit → Hit → Bool} {a j : Nat} {d : Array Hit} (h : j ≤ a ∨ (0 < j ∧ lt d[j]! d[j - 1]! = false)) : insInner lt a j d = d := by
 cases j with
 | zero => rfl
 | succ j =>
   rw [insInner]
   rcases h with h | h
   ·have : ¬ a < j + 1 := by omega
    simp [this]
   ·simp only [Nat.add_sub_cancel] at h
    simp [h.2]
theorem raw100 (d : Array Hit) (a b id n : Nat) (σ : Sto) (hab : a ≤ b) (hb : b ≤ d.size) (hn : d.size < 1000000) (hσ : σ id = some (.row 2 (rw' d))) {Q : V → Sto → Nat → Prop}
 (hQ : ∀ σ', At σ' σ id (insertionSort ahead d a b) → Q .undef σ' n) :
 run T (.raw 100 [.ref id 0 d.size 2, .int .i64 (a : Int), .int .i64 (b : Int), .fn 45 []] σ n 0) (memQ Q) := by
 refine run_rawE (fn := g100) rfl rfl ?_
 simp only [g100, b100, zO, zN, zM, zL, zG, zP, zQ, zI, zA, zT, zF, zB, zC, zD, zE, zH, zJ, zK]
 have w1 : IntKind.i64.wrap ((a : Int) + 1) = ((a + 1 : Nat) : Int) := by rw [wrap_i64] <;> omega
 generalize hsz : d.size = N at *
 simp +contextual -implicitDefEqProofs (maxSteps := 2000000) only [↓wP, wS, seval, w1]
 refine WC_loopI 0 (fun (s : Nat × Array Hit) env σ' n' => n' = n ∧ env 0 = .ref id 0 N 2 ∧ env 1 = .int .i64 (a : Int) ∧ env 2 = .int .i64 (b : Int) ∧ env 3 = .fn 45 [] ∧ env 8 = .int .i64 (s.1 : Int) ∧
  a < s.1 ∧ (s.1 ≤ b ∨ s.1 = a + 1) ∧ s.2.size = N ∧ At σ' σ id s.2 ∧ insOuter ahead a b s.1 s.2 = insertionSort ahead d a b) (fun s => b + 1 - s.1) ?_ (a + 1, d) _ _ _ ?_
 ·intro ⟨i, e⟩ env σ1 n1 ⟨h1, h2, h3, h4, h5, h6, h7, h8, h9, h10, h11⟩
  subst h1
  simp only at h6 h7 h8 h9 h10 h11
  by_cases hlt : i < b
  ·have w2 : IntKind.i64.wrap ((i : Int) + 1) = ((i + 1 : Nat) : Int) := by rw [wrap_i64] <;> omega
   have hlt' : (i : Int) < (b : Int) := by omega
   rw [insOuter, if_pos hlt] at h11
   simp +contextual -implicitDefEqProofs (maxSteps := 2000000) only [↓wP, wS, seval, h2, h3, h4, h5, h6, hlt']
   refine WC_loopI 0 (fun (s : Nat × Array Hit) env σ' n' => n' = n1 ∧ env 0 = .ref id 0 N 2 ∧ env 1 = .int .i64 (a : Int) ∧ env 2 = .int .i64 (b : Int) ∧ env 3 = .fn 45 [] ∧ env 8 = .int .i64 (i : Int) ∧ env 9 = .int .i64 (s.1 : Int) ∧
    s.1 ≤ i ∧ s.2.size = N ∧ At σ' σ id s.2 ∧ insInner ahead a s.1 s.2 = insInner ahead a i e) (fun s => s.1) ?_ (i, e) _ _ _ ?_
   ·clear h2 h3 h4 h5 h6 h10
    intro ⟨j, g⟩ env σ2 n2 ⟨k1, k2, k3, k4, k5, k6, k7, k8, k9, k10, k11⟩
    subst k1
    simp only at k7 k8 k9 k10 k11
    have hat := k10.1
    by_cases hja : a < j
    ·obtain ⟨j, rfl⟩ : ∃ j', j = j' + 1 := ⟨j - 1, by omega⟩
     have hja' : (a : Int) < ((j + 1 : Nat) : Int) := by omega
     have w3 : IntKind.i64.wrap (((j + 1 : Nat) : Int) - 1) = (j : Int) := by rw [wrap_i64] <;> omega
     have x1 := rw_at (d := g) (i := j + 1) (by omega)
     have x2 := rw_at (d := g) (i := j) (by omega)
     have l1 : j + 1 < N := by omega
     have l2 : j < N := by omega
     by_cases hc : cmpH g[j + 1]! g[j]! < 0
     ·have hah : ahead g[j + 1]! g[j]! = true := by rw [← cmp_lt]; simpa using hc
      obtain ⟨u, v, x3⟩ := rw_set_at (d := g) (i := j + 1) (j := j) (x := g[j]!) (by omega)
      simp +contextual -implicitDefEqProofs (maxSteps := 2000000) only [↓wP, wS, seval, k2, k3, k4, k5, k6, k7, hja', w3, hat, l1, l2, x1, x2, x3, f45, hc]
      refine ⟨(j, swp g (j + 1) j), by dsimp only; omega, rfl, by dsimp only; omega, by rw [swp_size, k9], k10.swp _ _, ?_⟩
      dsimp only
      rw [← insIn_lt hja hah]
      exact k11
     ·have hah : ahead g[j + 1]! g[j]! = false := by rw [← cmp_lt]; simpa using hc
      simp +contextual -implicitDefEqProofs (maxSteps := 2000000) only [↓wP, wS, seval, k2, k3, k4, k5, k6, k7, hja', w3, hat, l1, l2, x1, x2, f45, hc, w2]
      refine ⟨(i + 1, g), by dsimp only; omega, rfl, by dsimp only; omega, by dsimp only; omega, k9, k10, ?_⟩
      dsimp only
      rw [insIn_stop (.inr ⟨by omega, hah⟩)] at k11
      rw [k11]
      exact h11
    ·have hja' : ¬ (a : Int) < (j : Int) := by omega
     simp +contextual -implicitDefEqProofs (maxSteps := 2000000) only [↓wP, wS, seval, k2, k3, k4, k5, k6, k7, hja', w2]
     refine ⟨(i + 1, g), by dsimp only; omega, rfl, by dsimp only; omega, by dsimp only; omega, k9, k10, ?_⟩
     dsimp only
     rw [insIn_stop (.inl (by omega))] at k11
     rw [k11]
     exact h11
   ·simp +contextual -implicitDefEqProofs (maxSteps := 2000000) only [↓wP, wS, seval, h2, h3, h4, h5, h6]
    exact ⟨h9, h10⟩
  ·have hlt' : ¬ (i : Int) < (b : Int) := by omega
   rw [insOuter, if_neg hlt] at h11
   simp +contextual -implicitDefEqProofs (maxSteps := 2000000) only [↓wP, wS, seval, h2, h3, h4, h5, h6, hlt']
   refine hQ _ ?_
   rw [← h11]
   exact h10
 ·simp +contextual -implicitDefEqProofs (maxSteps := 2000000) only [↓wP, wS, seval]
  exact ⟨by omega, .inr trivial, hsz, At.refl hσ, rfl⟩
theorem raw104 (d : Array Hit) (a b id n : Nat) (σ : Sto) (hab : a < b) (hb : b ≤ d.size) (hn : d.size < 1000000) (hσ : σ id = some (.row 2 (rw' d))) {Q : V → Sto → Nat → Prop}
 (hQ : ∀ σ' d', At σ' σ id d' → PermIn a b d d' → Q .undef σ' n) :
 run T (.raw 104 [.ref id 0 d.size 2, .int .i64 (a : Int), .int .i64 (b : Int), .fn 45 []] σ n 0) (memQ Q) := by
 refine run_rawE (fn := g104) rfl rfl ?_
 simp only [g104, b104, zO, zN, zM, zL, zG, zP, zQ, zI, zA, zT, zF, zB, zC, zD, zE, zH, zJ, zK]
 have w1 : IntKind.i64.wrap ((b : Int) - 1) = ((b - 1 : Nat) : Int) := by rw [wrap_i64] <;> omega
 have hp : ∀ d' : Array Hit, PermIn a b d d' → d'.size = d.size := fun d' h => h.1
 generalize hsz : d.size = N at *
 simp +contextual -implicitDefEqProofs (maxSteps := 2000000) only [↓wP, wS, seval, w1]
 refine WC_loopI 0 (fun (s : (Nat × Nat) × Array Hit) env σ' n' => n' = n ∧ env 0 = .ref id 0 N 2 ∧ env 8 = .int .i64 (s.1.1 : Int) ∧ env 9 = .int .i64 (s.1.2 : Int) ∧
  a ≤ s.1.1 ∧ s.1.2 < b ∧ At σ' σ id s.2 ∧ PermIn a b d s.2) (fun s => s.1.2) ?_ ((a, b - 1), d) _ _ _ ?_
 ·intro ⟨⟨i, j⟩, e⟩ env σ1 n1 ⟨h1, h2, h3, h4, h5, h6, h7, h8⟩
  subst h1
  simp only at h3 h4 h5 h6 h7 h8
  by_cases hlt : i < j
  ·obtain ⟨j, rfl⟩ : ∃ j', j = j' + 1 := ⟨j - 1, by omega⟩
   have hlt' : (i : Int) < ((j + 1 : Nat) : Int) := by omega
   have w2 : IntKind.i64.wrap ((i : Int) + 1) = ((i + 1 : Nat) : Int) := by rw [wrap_i64] <;> omega
   have w3 : IntKind.i64.wrap (((j + 1 : Nat) : Int) - 1) = (j : Int) := by rw [wrap_i64] <;> omega
   have he := hp e h8
   have x1 := rw_at (d := e) (i := i) (by omega)
   have x2 := rw_at (d := e) (i := j + 1) (by omega)
   obtain ⟨u, v, x3⟩ := rw_set_at (d := e) (i := i) (j := j + 1) (x := e[j + 1]!) (by omega)
   have l1 : i < N := by omega
   have l2 : j + 1 < N := by omega
   have hat := h7.1
   simp +contextual -implicitDefEqProofs (maxSteps := 2000000) only [↓wP, wS, seval, h2, h3, h4, hlt', w2, w3, x1, x2, x3, l1, l2, hat]
   refine ⟨((i + 1, j), swp e i (j + 1)), by dsimp only; omega, rfl, rfl, by dsimp only; omega, by dsimp only; omega, h7.swp _ _, ?_⟩
   exact permIn_trans _ _ _ _ _ h8 (swp_permIn e a b i (j + 1) h5 (by omega) (by omega) h6 (by omega))
  ·have hlt' : ¬ (i : Int) < (j : Int) := by omega
   simp +contextual -implicitDefEqProofs (maxSteps := 2000000) only [↓wP, wS, seval, h2, h3, h4, hlt']
   exact hQ _ _ h7 h8
 ·simp +contextual -implicitDefEqProofs (maxSteps := 2000000) only [↓wP, wS, seval]
  exact ⟨by omega, At.refl hσ, permIn_refl _ _ _⟩
theorem bin_shl (k : IntKind) (x : Int) (m : Nat) : ∃ y, binV .shl (.int k x) (.int .u64 (m : Int)) = some (.int k y) := by
 refine ⟨k.wrap (x * 2 ^ (min (m : Int).toNat k.bits)), ?_⟩
 have : ¬ ((m : Int) < 0) := by omega
 simp [binV, pureV, Go.binOp, Op.shift, this]
 rfl
theorem bin_shr (k : IntKind) (x : Int) (m : Nat) : ∃ y, binV .shr (.int k x) (.int .u64 (m : Int)) = some (.int k y) := by
 refine ⟨x.fdiv (2 ^ (min (m : Int).toNat k.bits)), ?_⟩
 have : ¬ ((m : Int) < 0) := by omega
 simp [binV, pureV, Go.binOp, Op.shift, this]
 rfl
theorem bin_and64 (x : Int) (m : Nat) (hm : m < 18446744073709551616) : ∃ y : Nat, y ≤ m ∧ binV .and (.int .u64 x) (.int .u64 (m : Int)) = some (.int .u64 (y : Int)) := by
 have hle : (BitVec.ofInt 64 x &&& BitVec.ofInt 64 (m : Int)).toNat ≤ m := by
  rw [BitVec.toNat_and]
  refine Nat.le_trans Nat.and_le_right ?_
  simp
  exact Nat.mod_le _ _
 refine ⟨(BitVec.ofInt 64 x &&& BitVec.ofInt 64 (m : Int)).toNat, hle, ?_⟩
 have hw : IntKind.u64.wrap ((BitVec.ofInt 64 x &&& BitVec.ofInt 64 (m : Int)).toNat : Int) = ((BitVec.ofInt 64 x &&& BitVec.ofInt 64 (m : Int)).toNat : Int) := by rw [wrap_u64] <;> omega
 have := bin_and .u64 x (m : Int)
 rw [this]
 congr 2
theorem raw114 (r : Int) (sid n : Nat) (σ : Sto) (hs : σ sid = some (.row 1 [.int .u64 r])) {Q : V → Sto → Nat → Prop}
 (hQ : ∀ (r' : Int) (σ' : Sto), σ' sid = some (.row 1 [.int .u64 r']) → (∀ i, i ≠ sid → σ' i = σ i) → Q (.int .u64 r') σ' n) :
 run T (.raw 114 [.ptr sid 1 0 0] σ n 0) (memQ Q) := by
 refine run_rawE (fn := g114) rfl rfl ?_
 simp only [g114, b114, zO, zN, zM, zL, zG, zP, zQ, zI, zA, zT, zF, zB, zC, zD, zE, zH, zJ, zK]
 obtain ⟨y1, e1⟩ := bin_shl .u64 r 13
 have x1 := bin_xor .u64 r y1
 generalize IntKind.u64.wrap ↑(BitVec.ofInt IntKind.u64.bits r ^^^ BitVec.ofInt IntKind.u64.bits y1).toNat = r1 at x1
 obtain ⟨y2, e2⟩ := bin_shr .u64 r1 7
 have x2 := bin_xor .u64 r1 y2
 generalize IntKind.u64.wrap ↑(BitVec.ofInt IntKind.u64.bits r1 ^^^ BitVec.ofInt IntKind.u64.bits y2).toNat = r2 at x2
 obtain ⟨y3, e3⟩ := bin_shl .u64 r2 17
 have x3 := bin_xor .u64 r2 y3
 generalize IntKind.u64.wrap ↑(BitVec.ofInt IntKind.u64.bits r2 ^^^ BitVec.ofInt IntKind.u64.bits y3).toNat = r3 at x3
 simp only [show ((13 : Nat) : Int) = 13 from rfl, show ((7 : Nat) : Int) = 7 from rfl, show ((17 : Nat) : Int) = 17 from rfl] at e1 e2 e3
 simp +contextual -implicitDefEqProofs (maxSteps := 2000000) only [↓wP, wS, seval, hs, e1, x1, e2, x2, e3, x3]
 exact hQ _ _ (by simp [upd]) (fun i hi => by simp [upd, hi])
def chk113 (m : Nat) : Bool := match exJob T 60 (.pure 113 [.int .i64 (m : Int)]) with
 | some (.val (.int .u64 M)) => decide (0 < M ∧ M ≤ 2 * (m : Int))
 | _ => false
theorem all113 : (List.range 60).all (fun m => decide (m < 8) || chk113 m) = true := by decide +kernel
theorem r113 (m : Nat) (h8 : 8 ≤ m) (h60 : m < 60) : ∃ M : Nat, 0 < M ∧ M ≤ 2 * m ∧ res T 113 [.int .i64 (m : Int)] = some (.int .u64 (M : Int)) := by
 have h := List.all_eq_true.1 all113 m (List.mem_range.2 h60)
 have h8' : ¬ m < 8 := by omega
 simp only [h8', decide_false, Bool.false_or] at h
 unfold chk113 at h
 split at h
 ·rename_i M hM
  simp only [decide_eq_true_eq] at h
  refine ⟨M.toNat, by omega, by omega, ?_⟩
  rw [show ((M.toNat : Nat) : Int) = M by omega]
  exact run_res (exJob_sound 60 _ _ hM)
 ·cases h
theorem raw102 (d : Array Hit) (a b id n : Nat) (σ : Sto) (h8 : 8 ≤ b - a) (h60 : b - a < 60) (hb : b ≤ d.size) (hn : d.size < 1000000) (hid : id < n) (hσ : σ id = some (.row 2 (rw' d))) {Q : V → Sto → Nat → Prop}
 (hQ : ∀ σ' d' n', n ≤ n' → σ' id = some (.row 2 (rw' d')) → (∀ i, i ≠ id → i < n → σ' i = σ i) → PermIn a b d d' → Q .undef σ' n') :
 run T (.raw 102 [.ref id 0 d.size 2, .int .i64 (a : Int), .int .i64 (b : Int), .fn 45 []] σ n 0) (memQ Q) := by
 refine run_rawE (fn := g102) rfl rfl ?_
 simp only [g102, b102, zO, zN, zM, zL, zG, zP, zQ, zI, zA, zT, zF, zB, zC, zD, zE, zH, zJ, zK]
 have hp : ∀ d' : Array Hit, PermIn a b d d' → d'.size = d.size := fun d' h => h.1
 obtain ⟨L, hL⟩ : ∃ L, L = b - a := ⟨_, rfl⟩
 have w1 : IntKind.i64.wrap ((b : Int) - (a : Int)) = (L : Int) := by rw [wrap_i64] <;> omega
 have c8 : (8 : Int) ≤ (L : Int) := by omega
 obtain ⟨M, hM1, hM2, hM⟩ := r113 L (by omega) (by omega)
 have f113 := callE_tr (fs := true) (by decide) hM (by simp [Tr]) rfl
 have q4 := bin_quo4 L (by omega)
 have wu : IntKind.u64.wrap (L : Int) = (L : Int) := by rw [wrap_u64] <;> omega
 have w2 : IntKind.i64.wrap (((L / 4 : Nat) : Int) * 2) = ((L / 4 * 2 : Nat) : Int) := by rw [wrap_i64] <;> omega
 obtain ⟨t, ht⟩ : ∃ t, t = a + L / 4 * 2 := ⟨_, rfl⟩
 have w3 : IntKind.i64.wrap ((a : Int) + ((L / 4 * 2 : Nat) : Int)) = (t : Int) := by rw [wrap_i64] <;> omega
 have w4 : IntKind.i64.wrap ((t : Int) - 1) = ((t - 1 : Nat) : Int) := by rw [wrap_i64] <;> omega
 have w5 : IntKind.i64.wrap ((t : Int) + 1) = ((t + 1 : Nat) : Int) := by rw [wrap_i64] <;> omega
 have wm : IntKind.u64.wrap ((M : Int) - 1) = ((M - 1 : Nat) : Int) := by rw [wrap_u64] <;> omega
 have hidn : (id = n) = False := by simp; omega
 generalize hsz : d.size = N at *
 simp +contextual -implicitDefEqProofs (maxSteps := 2000000) only [↓wP, wS, seval, w1, c8, wu, f113, q4, w2, w3, w4, w5]
 refine WC_loopI 0 (fun (s : Nat × (Array Hit × Int)) env σ' n' => n' = n + 1 ∧ env 0 = .ref id 0 N 2 ∧ env 1 = .int .i64 (a : Int) ∧ env 8 = .int .i64 (L : Int) ∧ env 9 = .ptr n 1 0 0 ∧ env 10 = .int .u64 (M : Int) ∧ env 11 = .int .i64 (s.1 : Int) ∧
  a ≤ s.1 ∧ s.1 ≤ t + 2 ∧ σ' id = some (.row 2 (rw' s.2.1)) ∧ σ' n = some (.row 1 [.int .u64 s.2.2]) ∧ (∀ i, i ≠ id → i < n → σ' i = σ i) ∧ PermIn a b d s.2.1) (fun s => t + 3 - s.1) ?_ (t - 1, (d, (L : Int))) _ _ _ ?_
 ·intro ⟨i, e, r⟩ env σ1 n1 ⟨h1, h2, h3, h4, h5, h6, h7, h8', h9, h10, h11, h12, h13⟩
  subst h1
  simp only at h7 h8' h9 h10 h11 h13
  have he := hp e h13
  by_cases hlt : i ≤ t + 1
  ·have hlt' : (i : Int) ≤ ((t + 1 : Nat) : Int) := by omega
   have wi : IntKind.i64.wrap ((i : Int) + 1) = ((i + 1 : Nat) : Int) := by rw [wrap_i64] <;> omega
   simp +contextual -implicitDefEqProofs (maxSteps := 2000000) only [↓wP, wS, seval, h2, h3, h4, h5, h6, h7, q4, w2, w3, w5, hlt']
   refine stepW_raw (by decide) (raw114 r n (n + 1) σ1 h11 fun r' σ2 g1 g2 => ?_)
   obtain ⟨y, hy, ey⟩ := bin_and64 r' (M - 1) (by omega)
   have hg : σ2 id = some (.row 2 (rw' e)) := by rw [g2 id (by omega), h10]
   have wy : IntKind.i64.wrap (y : Int) = (y : Int) := by rw [wrap_i64] <;> omega
   have x1 := rw_at (d := e) (i := i) (by omega)
   have l1 : i < N := by omega
   by_cases hge : L ≤ y
   ·have hge' : (L : Int) ≤ (y : Int) := by omega
    have wd : IntKind.i64.wrap ((y : Int) - (L : Int)) = ((y - L : Nat) : Int) := by rw [wrap_i64] <;> omega
    have wa : IntKind.i64.wrap ((a : Int) + ((y - L : Nat) : Int)) = ((a + (y - L) : Nat) : Int) := by rw [wrap_i64] <;> omega
    have x2 := rw_at (d := e) (i := a + (y - L)) (by omega)
    have l2 : a + (y - L) < N := by omega
    obtain ⟨u, v, x3⟩ := rw_set_at (d := e) (i := i) (j := a + (y - L)) (x := e[a + (y - L)]!) (by omega)
    simp +contextual -implicitDefEqProofs (maxSteps := 2000000) only [↓wP, wS, seval, h2, h3, h4, h5, h6, h7, wm, ey, wy, hge', wd, wa, hg, x1, x2, x3, l1, l2, wi, hidn]
    refine ⟨(i + 1, (swp e i (a + (y - L)), r')), by dsimp only; omega, rfl, by dsimp only; omega, by dsimp only; omega, ?_, ?_, ?_, ?_⟩
    ·dsimp only; rw [rw_swp]
    ·have a1 : n ≠ id := by omega
     simp only [a1, if_false]; exact g1
    ·intro k hk hkn
     rw [g2 k (by omega), h12 k hk hkn]
    ·exact permIn_trans _ _ _ _ _ h13 (swp_permIn e a b i (a + (y - L)) h8' (by omega) (by omega) (by omega) (by omega))
   ·have hge' : ¬ (L : Int) ≤ (y : Int) := by omega
    have wa : IntKind.i64.wrap ((a : Int) + (y : Int)) = ((a + y : Nat) : Int) := by rw [wrap_i64] <;> omega
    have x2 := rw_at (d := e) (i := a + y) (by omega)
    have l2 : a + y < N := by omega
    obtain ⟨u, v, x3⟩ := rw_set_at (d := e) (i := i) (j := a + y) (x := e[a + y]!) (by omega)
    simp +contextual -implicitDefEqProofs (maxSteps := 2000000) only [↓wP, wS, seval, h2, h3, h4, h5, h6, h7, wm, ey, wy, hge', wa, hg, x1, x2, x3, l1, l2, wi, hidn]
    refine ⟨(i + 1, (swp e i (a + y), r')), by dsimp only; omega, rfl, by dsimp only; omega, by dsimp only; omega, ?_, ?_, ?_, ?_⟩
    ·dsimp only; rw [rw_swp]
    ·have a1 : n ≠ id := by omega
     simp only [a1, if_false]; exact g1
    ·intro k hk hkn
     rw [g2 k (by omega), h12 k hk hkn]
    ·exact permIn_trans _ _ _ _ _ h13 (swp_permIn e a b i (a + y) h8' (by omega) (by omega) (by omega) (by omega))
  ·have hlt' : ¬ (i : Int) ≤ ((t + 1 : Nat) : Int) := by omega
   simp +contextual -implicitDefEqProofs (maxSteps := 2000000) only [↓wP, wS, seval, h2, h3, h4, h5, h6, h7, q4, w2, w3, w5, hlt']
   exact hQ _ e _ (by omega) h10 h12 h13
 ·simp +contextual -implicitDefEqProofs (maxSteps := 2000000) only [↓wP, wS, seval, hidn]
  refine ⟨by omega, by omega, hσ, fun i h1 h2 => ?_, permIn_refl _ _ _⟩
  have a1 : i ≠ n := by omega
  simp only [a1, if_false]
theorem raw105 (d : Array Hit) (a b id n : Nat) (σ : Sto) (hS : SWO ahead) (hab : a < b) (h50 : b - a < 50) (hb : b ≤ d.size) (hn : d.size < 1000000) (hσ : σ id = some (.row 2 (rw' d))) {Q : V → Sto → Nat → Prop}
 (hQ : ∀ r : Bool, (r = true → SortedIn ahead a b d) → Q (.bool r) σ n) :
 run T (.raw 105 [.ref id 0 d.size 2, .int .i64 (a : Int), .int .i64 (b : Int), .fn 45 []] σ n 0) (memQ Q) := by
 refine run_rawE (fn := g105) rfl rfl ?_
 simp only [g105, b105, zO, zN, zM, zL, zG, zP, zQ, zI, zA, zT, zF, zB, zC, zD, zE, zH, zJ, zK]
 have w1 : IntKind.i64.wrap ((a : Int) + 1) = ((a + 1 : Nat) : Int) := by rw [wrap_i64] <;> omega
 have w2 : IntKind.i64.wrap ((b : Int) - (a : Int)) = ((b - a : Nat) : Int) := by rw [wrap_i64] <;> omega
 have c50 : ((b - a : Nat) : Int) < 50 := by omega
 generalize hsz : d.size = N at *
 simp +contextual -implicitDefEqProofs (maxSteps := 2000000) only [↓wP, wS, seval, w1]
 refine WC_loopI 0 (fun (s : Nat) env σ' n' => σ' = σ ∧ n' = n ∧ env 0 = .ref id 0 N 2 ∧ env 1 = .int .i64 (a : Int) ∧ env 2 = .int .i64 (b : Int) ∧ env 3 = .fn 45 [] ∧ env 9 = .int .i64 ((a + 1 : Nat) : Int) ∧ env 10 = .int .i64 0) (fun s => s) ?_ 0 _ _ _ ?_
 ·intro _ env σ1 n1 ⟨h1, h2, h3, h4, h5, h6, h7, h8⟩
  subst h1 h2
  simp +contextual -implicitDefEqProofs (maxSteps := 2000000) only [↓wP, wS, seval, h3, h4, h5, h6, h7, h8]
  refine WC_loopI 0 (fun (i : Nat) env σ' n' => σ' = σ1 ∧ n' = n1 ∧ env 0 = .ref id 0 N 2 ∧ env 1 = .int .i64 (a : Int) ∧ env 2 = .int .i64 (b : Int) ∧ env 3 = .fn 45 [] ∧ env 9 = .int .i64 (i : Int) ∧
   a < i ∧ i ≤ b ∧ SortedIn ahead a i d) (fun i => b - i) ?_ (a + 1) _ _ _ ?_
  ·clear h3 h4 h5 h6 h7 h8
   intro i env σ2 n2 ⟨k1, k2, k3, k4, k5, k6, k7, k8, k9, k10⟩
   subst k1 k2
   by_cases hlt : i < b
   ·have hlt' : (i : Int) < (b : Int) := by omega
    have w3 : IntKind.i64.wrap ((i : Int) - 1) = ((i - 1 : Nat) : Int) := by rw [wrap_i64] <;> omega
    have w4 : IntKind.i64.wrap ((i : Int) + 1) = ((i + 1 : Nat) : Int) := by rw [wrap_i64] <;> omega
    have x1 := rw_at (d := d) (i := i) (by omega)
    have x2 := rw_at (d := d) (i := i - 1) (by omega)
    have l1 : i < N := by omega
    have l2 : i - 1 < N := by omega
    by_cases hc : cmpH d[i]! d[i - 1]! < 0
    ·have he : ((i : Int) == (b : Int)) = false := by simp; omega
     simp +contextual -implicitDefEqProofs (maxSteps := 2000000) only [↓wP, wS, seval, k3, k4, k5, k6, k7, hlt', w2, w3, w4, x1, x2, l1, l2, hσ, f45, hc, he, c50]
     exact hQ false (fun h => by cases h)
    ·have hah : ahead d[i]! d[i - 1]! = false := by rw [← cmp_lt]; simpa using hc
     simp +contextual -implicitDefEqProofs (maxSteps := 2000000) only [↓wP, wS, seval, k3, k4, k5, k6, k7, hlt', w2, w3, w4, x1, x2, l1, l2, hσ, f45, hc]
     exact ⟨i + 1, by omega, rfl, by omega, by omega, k10.snoc hS hah⟩
   ·have hlt' : ¬ (i : Int) < (b : Int) := by omega
    have he : ((i : Int) == (b : Int)) = true := by simp; omega
    simp +contextual -implicitDefEqProofs (maxSteps := 2000000) only [↓wP, wS, seval, k3, k4, k5, k6, k7, hlt', he]
    have e : i = b := by omega
    exact hQ true (fun _ => e ▸ k10)
  ·simp +contextual -implicitDefEqProofs (maxSteps := 2000000) only [↓wP, wS, seval, h3, h4, h5, h6, h7]
   exact ⟨by omega, by omega, fun p q h1 h2 h3 => by omega⟩
 ·simp +contextual -implicitDefEqProofs (maxSteps := 2000000) only [↓wP, wS, seval]
end Go.Q.SD
end

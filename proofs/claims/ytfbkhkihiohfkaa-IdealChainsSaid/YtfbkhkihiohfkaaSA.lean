/- The compact code of this seat's functions, printed by a program. -/
import Derived.Test.YtfbkhkihiohfkaaQD
import Derived.Sort.AssemblyPlain
section
namespace Go.Q.SB
def oO (d : Nat) (x : AI) : AOp := ⟨some d, none, x⟩
def oN (x : AI) : AOp := ⟨none, none, x⟩
def mV (d s : Nat) : AOp := ⟨some d, none, .mov (.tmp s)⟩
def lD (d s : Nat) : AOp := ⟨some d, none, .load false 1 (.tmp s)⟩
def gO (d g : Nat) (b : Bool) (x : AI) : AOp := ⟨some d, some (g, b), x⟩
def pP (x : AOp) : DOp := ⟨x, true, false, false, 0, [], none⟩
def qQ (x : AOp) : DOp := ⟨x, false, false, false, 0, [], none⟩
def cI (n : Int) : Opd := .con (.int .i64 n)
def aR (x : List AOp) (y : AC) : AC := .seq (.reg x) y
def b8 : AC :=
 (aR [oO 6 (.mov (.con (.bool false)))]
 (.seq (aR [oO 34 (.call 9 []),
 oO 35 (.un .not (.tmp 34))]
 (.cond (.tmp 35)
 (aR [oO 6 (.mov (.con (.bool false)))]
 .ret)
 .skip))
 (aR [mV 36 0,
 oO 37 (.call 10 [(.tmp 36)]),
 mV 7 37]
 (.seq (aR [mV 38 7,
 oO 39 (.call 24 [(.tmp 38)]),
 oO 40 (.bin .neq (.tmp 39) (cI 0))]
 (.cond (.tmp 40)
 (aR [oO 6 (.mov (.con (.bool true)))]
 .ret)
 .skip))
 (aR [oO 41 (.mkmap),
 mV 8 41]
 (.seq (aR [mV 42 7,
 oO 43 (.len (.tmp 42)),
 oO 44 (.mov (cI 0))]
 (.block 0 (.loop (aR [oO 45 (.bin .lss (.tmp 44) (.tmp 43))]
 (.seq (.cond (.tmp 45)
 .skip
 (.exit 0))
 (.seq (.block 1 (aR [oO 46 (.iaddr 5 (.tmp 42) (.tmp 44)),
 oO 47 (.load true 5 (.tmp 46)),
 oO 10 (.alloc (.agg [(.int .u64 0), (.int .i64 0), (.int .u64 0), (.bool false), .nilS])),
 oN (.store 5 (.tmp 10) (.tmp 47))]
 (aR [oO 48 (.faddr (.tmp 10) 1),
 oO 49 (.faddr (.tmp 48) 0),
 lD 50 49,
 oO 51 (.conv .u64 (.tmp 50)),
 oO 52 (.faddr (.tmp 10) 1),
 oO 53 (.faddr (.tmp 52) 1),
 lD 54 53,
 oO 55 (.build [(.int .u64 0), (.int .u64 0)] [(0, 1, (.tmp 51)), (1, 1, (.tmp 54))]),
 oO 11 (.alloc (.agg [(.int .u64 0), (.int .u64 0)])),
 oN (.store 2 (.tmp 11) (.tmp 55))]
 (.seq (.regd [⟨[pP (mV 57 8),
 qQ (oO 58 (.load true 2 (.tmp 11))),
 qQ (oO 59 (.mget false (.agg [.int, .int]) .nilS (.tmp 57) (.tmp 58))),
 pP (oO 60 (.faddr (.tmp 10) 0)),
 qQ (lD 61 60),
 pP (oO 62 (.faddr (.tmp 10) 1)),
 pP (oO 63 (.faddr (.tmp 62) 3)),
 qQ (lD 64 63)], 0, [oO 65 (.call 38 [(.tmp 59), (.tmp 61), (.tmp 64)]),
 mV 56 65]⟩,
 ⟨[pP (oO 66 (.ext (.tmp 56) 0)),
 pP (oO 67 (.ext (.tmp 56) 1)),
 pP (mV 12 66)], 0, [mV 13 67]⟩])
 (.seq (aR [oO 68 (.faddr (.tmp 10) 1),
 oO 69 (.faddr (.tmp 68) 2),
 lD 70 69]
 (.cond (.tmp 70)
 (.regd [⟨[pP (mV 72 8),
 qQ (oO 73 (.load true 2 (.tmp 11))),
 qQ (oO 74 (.mget false (.agg [.int, .int]) .nilS (.tmp 72) (.tmp 73))),
 pP (oO 75 (.faddr (.tmp 10) 0)),
 qQ (lD 76 75)], 0, [oO 77 (.call 39 [(.tmp 74), (.tmp 76)]),
 mV 71 77]⟩,
 ⟨[pP (oO 78 (.ext (.tmp 71) 0)),
 pP (oO 79 (.ext (.tmp 71) 1)),
 pP (mV 12 78)], 0, [mV 13 79]⟩])
 .skip))
 (.seq (aR [mV 80 13,
 oO 81 (.bin .neq (.tmp 80) (cI 0))]
 (.cond (.tmp 81)
 (aR [oO 6 (.mov (.con (.bool false)))]
 .ret)
 .skip))
 (.reg [mV 82 8,
 oO 83 (.load true 2 (.tmp 11)),
 mV 84 12,
 oN (.mupd (.agg [.int, .int]) (.tmp 82) (.tmp 83) (.tmp 84))])))))))
 (.reg [oO 85 (.bin .add (.tmp 44) (cI 1)),
 mV 44 85])))))))
 (.seq (aR [oO 86 (.mov (cI 0))]
 (.block 2 (.loop (aR [oO 87 (.bin .lss (.tmp 86) (cI 3))]
 (.seq (.cond (.tmp 87)
 .skip
 (.exit 2))
 (.seq (.block 3 (aR [mV 88 86,
 mV 14 88]
 (aR [mV 90 7,
 mV 91 14,
 mV 92 1,
 oO 93 (.call 30 [(.tmp 90), (.tmp 91), (.tmp 92)]),
 mV 89 93,
 oO 94 (.ext (.tmp 89) 0),
 oO 95 (.ext (.tmp 89) 1),
 mV 15 94,
 mV 16 95]
 (.seq (aR [mV 96 8,
 oO 97 (.range (.tmp 96))]
 (.block 4 (.loop (aR [oO 98 (.next (.tmp 97)),
 oO 99 (.ext (.tmp 98) 0)]
 (.seq (.cond (.tmp 99)
 .skip
 (.exit 4))
 (.block 5 (aR [oO 100 (.entry (.tmp 97)),
 oO 101 (.ext (.tmp 100) 0),
 oO 102 (.ext (.tmp 100) 1),
 oO 17 (.alloc (.agg [(.int .u64 0), (.int .u64 0)])),
 oN (.store 2 (.tmp 17) (.tmp 101)),
 mV 18 102]
 (aR [mV 104 18,
 mV 105 1,
 oO 106 (.call 40 [(.tmp 104), (.tmp 105)]),
 mV 103 106,
 oO 107 (.ext (.tmp 103) 0),
 oO 108 (.ext (.tmp 103) 1),
 oO 109 (.ext (.tmp 103) 2),
 mV 19 107,
 mV 20 108,
 mV 21 109]
 (aR [oO 110 (.iaddrA 2 1 (.tmp 17) (cI 0)),
 lD 111 110,
 mV 112 14,
 oO 113 (.conv .u64 (.tmp 112)),
 oO 114 (.bin .eql (.tmp 111) (.tmp 113))]
 (.cond (.tmp 114)
 (aR [mV 115 15,
 mV 116 19,
 oO 117 (.len (.tmp 116)),
 oO 118 (.bin .sub (.tmp 115) (.tmp 117)),
 mV 15 118]
 (aR [mV 119 21,
 oO 120 (.bin .neq (.tmp 119) (cI 0))]
 (.cond (.tmp 120)
 (aR [oO 6 (.mov (.con (.bool false)))]
 .ret)
 .skip)))
 .skip))))))))))
 (.seq (aR [mV 121 16,
 oO 122 (.bin .neq (.tmp 121) (cI 0)),
 mV 123 122,
 gO 124 123 false (.mov (.tmp 15)),
 gO 125 123 false (.bin .neq (.tmp 124) (cI 0)),
 oO 126 (.pick (.tmp 123) (.con (.bool true)) (.tmp 125))]
 (.cond (.tmp 126)
 (aR [oO 6 (.mov (.con (.bool false)))]
 .ret)
 .skip))
 (aR [mV 127 1,
 mV 128 7,
 oO 129 (.call 20 [(.tmp 128)]),
 oO 130 (.lit 1 [(.tmp 127), (.tmp 129)]),
 mV 131 2,
 oO 132 (.append 1 8 (.tmp 130) (.tmp 131)),
 oO 133 (.len (.tmp 132)),
 oO 134 (.mov (cI 0))]
 (.block 6 (.loop (aR [oO 135 (.bin .lss (.tmp 134) (.tmp 133))]
 (.seq (.cond (.tmp 135)
 .skip
 (.exit 6))
 (.seq (.block 7 (aR [mV 136 134,
 oO 137 (.iaddr 1 (.tmp 132) (.tmp 134)),
 lD 138 137,
 mV 22 136,
 mV 23 138]
 (.seq (aR [mV 139 22,
 oO 140 (.bin .eql (.tmp 139) (cI 12))]
 (.cond (.tmp 140)
 (.exit 6)
 .skip))
 (aR [mV 142 7,
 mV 143 14,
 mV 144 23,
 oO 145 (.call 22 [(.tmp 142), (.tmp 143), (.tmp 144)]),
 mV 141 145,
 oO 146 (.ext (.tmp 141) 0),
 oO 147 (.ext (.tmp 141) 1),
 mV 24 146,
 mV 25 147]
 (.seq (aR [mV 148 25,
 oO 149 (.bin .neq (.tmp 148) (cI 0))]
 (.cond (.tmp 149)
 (aR [oO 6 (.mov (.con (.bool false)))]
 .ret)
 .skip))
 (aR [oO 26 (.mov (cI 0))]
 (.seq (aR [mV 150 8,
 oO 151 (.range (.tmp 150))]
 (.block 8 (.loop (aR [oO 152 (.next (.tmp 151)),
 oO 153 (.ext (.tmp 152) 0)]
 (.seq (.cond (.tmp 153)
 .skip
 (.exit 8))
 (.block 9 (aR [oO 154 (.entry (.tmp 151)),
 oO 155 (.ext (.tmp 154) 0),
 oO 156 (.ext (.tmp 154) 1),
 oO 27 (.alloc (.agg [(.int .u64 0), (.int .u64 0)])),
 oN (.store 2 (.tmp 27) (.tmp 155)),
 mV 28 156]
 (aR [mV 158 28,
 mV 159 23,
 oO 160 (.call 41 [(.tmp 158), (.tmp 159)]),
 mV 157 160,
 oO 161 (.ext (.tmp 157) 0),
 oO 162 (.ext (.tmp 157) 1),
 mV 29 161,
 mV 30 162]
 (aR [mV 163 30,
 mV 164 163,
 gO 165 164 true (.iaddrA 2 1 (.tmp 27) (cI 0)),
 gO 166 164 true (.load false 1 (.tmp 165)),
 gO 167 164 true (.mov (.tmp 14)),
 gO 168 164 true (.conv .u64 (.tmp 167)),
 gO 169 164 true (.bin .eql (.tmp 166) (.tmp 168)),
 oO 170 (.pick (.tmp 164) (.tmp 169) (.con (.bool false)))]
 (.cond (.tmp 170)
 (aR [mV 171 26,
 oO 172 (.bin .add (.tmp 171) (cI 1)),
 mV 26 172]
 (aR [oO 31 (.mov (.con (.bool false)))]
 (.seq (aR [mV 173 24,
 oO 174 (.len (.tmp 173)),
 oO 175 (.mov (cI 0))]
 (.block 10 (.loop (aR [oO 176 (.bin .lss (.tmp 175) (.tmp 174))]
 (.seq (.cond (.tmp 176)
 .skip
 (.exit 10))
 (.seq (.block 11 (aR [oO 177 (.iaddr 2 (.tmp 173) (.tmp 175)),
 oO 178 (.load true 2 (.tmp 177)),
 oO 33 (.alloc (.agg [(.int .u64 0), .nilS])),
 oN (.store 2 (.tmp 33) (.tmp 178))]
 (.regd [⟨[], 0, [mV 179 31,
 mV 180 179]⟩,
 ⟨[pP (gO 181 180 false (.faddr (.tmp 33) 0)),
 qQ (gO 182 180 false (.load false 1 (.tmp 181))),
 pP (gO 183 180 false (.iaddrA 2 1 (.tmp 27) (cI 1))),
 qQ (gO 184 180 false (.load false 1 (.tmp 183)))], 0, [gO 185 180 false (.bin .eql (.tmp 182) (.tmp 184)),
 gO 186 180 false (.mov (.tmp 185))]⟩,
 ⟨[pP (gO 187 186 true (.faddr (.tmp 33) 1)),
 qQ (gO 188 186 true (.load false 1 (.tmp 187))),
 pP (gO 189 186 true (.mov (.tmp 28))),
 pP (gO 190 186 true (.mov (.tmp 29))),
 pP (gO 191 186 true (.iaddr 3 (.tmp 189) (.tmp 190))),
 pP (gO 192 186 true (.faddr (.tmp 191) 2)),
 qQ (gO 193 186 true (.load false 1 (.tmp 192)))], 0, [gO 194 186 true (.call 42 [(.tmp 188), (.tmp 193)]),
 gO 195 180 false (.pick (.tmp 186) (.tmp 194) (.con (.bool false))),
 oO 196 (.pick (.tmp 180) (.con (.bool true)) (.tmp 195)),
 mV 31 196]⟩])))
 (.reg [oO 197 (.bin .add (.tmp 175) (cI 1)),
 mV 175 197])))))))
 (aR [mV 198 31,
 oO 199 (.un .not (.tmp 198))]
 (.cond (.tmp 199)
 (aR [oO 6 (.mov (.con (.bool false)))]
 .ret)
 .skip)))))
 .skip))))))))))
 (aR [mV 200 26,
 mV 201 24,
 oO 202 (.len (.tmp 201)),
 oO 203 (.bin .neq (.tmp 200) (.tmp 202))]
 (.cond (.tmp 203)
 (aR [oO 6 (.mov (.con (.bool false)))]
 .ret)
 .skip)))))))))
 (.reg [oO 204 (.bin .add (.tmp 134) (cI 1)),
 mV 134 204]))))))))))))
 (.reg [oO 205 (.bin .add (.tmp 86) (cI 1)),
 mV 86 205])))))))
 (aR [oO 6 (.mov (.con (.bool true)))]
 .ret))))))))
def g8 : Fn := ⟨3, 206, [.tmp 6], b8⟩
def b9 : AC :=
 (aR [oO 0 (.mov (.con (.bool false)))]
 (aR [oO 12 (.lit 1 [(.con (.int .i32 7))]),
 oO 13 (.build [(.int .i64 0), (.int .u64 0), (.bool false), .nilS] [(1, 1, (.con (.int .u64 5))), (3, 1, (.tmp 12))]),
 oO 14 (.lit 4 [(.tmp 13)]),
 oO 15 (.call 13 [(.con .nilS), (.con (.int .u64 3)), (.tmp 14)]),
 mV 11 15,
 oO 16 (.ext (.tmp 11) 0),
 oO 17 (.ext (.tmp 11) 1),
 mV 1 16,
 mV 2 17]
 (aR [mV 19 1,
 oO 20 (.build [(.int .i64 0), (.int .u64 0), (.bool false), .nilS] [(1, 1, (.con (.int .u64 5))), (2, 1, (.con (.bool true)))]),
 oO 21 (.lit 1 [(.con (.int .i32 1))]),
 oO 22 (.build [(.int .i64 0), (.int .u64 0), (.bool false), .nilS] [(1, 1, (.con (.int .u64 6))), (3, 1, (.tmp 21))]),
 oO 23 (.lit 4 [(.tmp 20), (.tmp 22)]),
 oO 24 (.call 13 [(.tmp 19), (.con (.int .u64 4)), (.tmp 23)]),
 mV 18 24,
 oO 25 (.ext (.tmp 18) 0),
 oO 26 (.ext (.tmp 18) 1),
 mV 3 25,
 mV 4 26]
 (aR [mV 28 3,
 oO 29 (.call 22 [(.tmp 28), (cI 0), (.con (.int .u64 4))]),
 mV 27 29,
 oO 30 (.ext (.tmp 27) 0),
 oO 31 (.ext (.tmp 27) 1),
 mV 5 30,
 mV 6 31]
 (aR [mV 33 3,
 oO 34 (.call 30 [(.tmp 33), (cI 0), (.con (.int .u64 3))]),
 mV 32 34,
 oO 35 (.ext (.tmp 32) 0),
 oO 36 (.ext (.tmp 32) 1),
 mV 7 35,
 mV 8 36]
 (aR [mV 38 3,
 oO 39 (.lit 1 [(.con (.int .i32 9))]),
 oO 40 (.build [(.int .i64 0), (.int .u64 0), (.bool false), .nilS] [(1, 1, (.con (.int .u64 5))), (3, 1, (.tmp 39))]),
 oO 41 (.lit 4 [(.tmp 40)]),
 oO 42 (.call 21 [(.tmp 38), (.con (.int .u64 3)), (.tmp 41)]),
 mV 37 42,
 oO 43 (.ext (.tmp 37) 0),
 oO 44 (.ext (.tmp 37) 1),
 mV 9 43,
 mV 10 44]
 (aR [mV 45 2,
 oO 46 (.bin .eql (.tmp 45) (cI 0)),
 mV 47 46,
 gO 48 47 true (.mov (.tmp 4)),
 gO 49 47 true (.bin .eql (.tmp 48) (cI 0)),
 oO 50 (.pick (.tmp 47) (.tmp 49) (.con (.bool false))),
 mV 51 50,
 gO 52 51 true (.mov (.tmp 6)),
 gO 53 51 true (.bin .eql (.tmp 52) (cI 0)),
 oO 54 (.pick (.tmp 51) (.tmp 53) (.con (.bool false))),
 mV 55 54,
 gO 56 55 true (.mov (.tmp 8)),
 gO 57 55 true (.bin .eql (.tmp 56) (cI 0)),
 oO 58 (.pick (.tmp 55) (.tmp 57) (.con (.bool false))),
 mV 59 58,
 gO 60 59 true (.mov (.tmp 10)),
 gO 61 59 true (.bin .eql (.tmp 60) (cI 0)),
 oO 62 (.pick (.tmp 59) (.tmp 61) (.con (.bool false))),
 mV 63 62,
 gO 64 63 true (.mov (.tmp 3)),
 gO 65 63 true (.len (.tmp 64)),
 gO 66 63 true (.bin .eql (.tmp 65) (cI 3)),
 oO 67 (.pick (.tmp 63) (.tmp 66) (.con (.bool false))),
 mV 68 67,
 gO 69 68 true (.mov (.tmp 5)),
 gO 70 68 true (.len (.tmp 69)),
 gO 71 68 true (.bin .eql (.tmp 70) (cI 1)),
 oO 72 (.pick (.tmp 68) (.tmp 71) (.con (.bool false))),
 mV 73 72,
 gO 74 73 true (.mov (.tmp 5)),
 gO 75 73 true (.iaddr 2 (.tmp 74) (cI 0)),
 gO 76 73 true (.faddr (.tmp 75) 0),
 gO 77 73 true (.load false 1 (.tmp 76)),
 gO 78 73 true (.bin .eql (.tmp 77) (.con (.int .u64 6))),
 oO 79 (.pick (.tmp 73) (.tmp 78) (.con (.bool false))),
 mV 80 79,
 gO 81 80 true (.mov (.tmp 7)),
 gO 82 80 true (.bin .eql (.tmp 81) (cI 2)),
 oO 83 (.pick (.tmp 80) (.tmp 82) (.con (.bool false))),
 mV 84 83,
 gO 85 84 true (.mov (.tmp 9)),
 oO 86 (.pick (.tmp 84) (.tmp 85) (.con (.bool false))),
 mV 0 86]
 .ret)))))))
def g9 : Fn := ⟨0, 87, [.tmp 0], b9⟩
def b10 : AC :=
 (aR [oO 2 (.mov (.con .nilS))]
 (aR [oO 3 (.mov (.con .nilS))]
 (.seq (aR [mV 6 0,
 oO 7 (.len (.tmp 6)),
 oO 8 (.mov (cI 0))]
 (.block 0 (.loop (aR [oO 9 (.bin .lss (.tmp 8) (.tmp 7))]
 (.seq (.cond (.tmp 9)
 .skip
 (.exit 0))
 (.seq (.block 1 (aR [mV 10 8,
 oO 11 (.iaddr 5 (.tmp 6) (.tmp 8)),
 oO 12 (.load true 5 (.tmp 11)),
 oO 5 (.alloc (.agg [(.int .u64 0), (.int .i64 0), (.int .u64 0), (.bool false), .nilS])),
 mV 4 10,
 oN (.store 5 (.tmp 5) (.tmp 12))]
 (aR [mV 13 4,
 oO 14 (.bin .lss (.tmp 13) (cI 60))]
 (.cond (.tmp 14)
 (aR [oO 15 (.faddr (.tmp 5) 1),
 oO 16 (.faddr (.tmp 15) 3),
 lD 17 16,
 oO 18 (.call 43 [(.tmp 17)]),
 oO 19 (.faddr (.tmp 5) 1),
 oO 20 (.faddr (.tmp 19) 3),
 oN (.store 1 (.tmp 20) (.tmp 18))]
 (.reg [mV 21 3,
 oO 22 (.load true 5 (.tmp 5)),
 oO 23 (.lit 5 [(.tmp 22)]),
 oO 24 (.append 5 56 (.tmp 21) (.tmp 23)),
 mV 3 24]))
 .skip))))
 (.reg [oO 25 (.bin .add (.tmp 8) (cI 1)),
 mV 8 25])))))))
 (aR [mV 26 3,
 mV 2 26]
 .ret))))
def g10 : Fn := ⟨1, 27, [.tmp 2], b10⟩
def b13 : AC :=
 (aR [oO 6 (.mov (.con .nilS)),
 oO 7 (.mov (cI 0))]
 (.seq (aR [mV 15 0,
 oO 16 (.call 24 [(.tmp 15)]),
 mV 17 2,
 oO 18 (.call 45 [(.tmp 17)]),
 oO 19 (.lit 1 [(.tmp 16), (.tmp 18)]),
 oO 20 (.call 44 [(.tmp 19)]),
 mV 8 20]
 (aR [mV 21 8,
 oO 22 (.bin .neq (.tmp 21) (cI 0))]
 (.cond (.tmp 22)
 (aR [mV 23 8,
 oO 6 (.mov (.con .nilS)),
 mV 7 23]
 .ret)
 .skip)))
 (.seq (aR [mV 24 1,
 mV 25 0,
 oO 26 (.call 46 [(.tmp 25)]),
 oO 27 (.bin .leq (.tmp 24) (.tmp 26)),
 mV 28 27,
 gO 29 28 false (.mov (.tmp 1)),
 gO 30 28 false (.bin .gtr (.tmp 29) (.con (.int .u64 1099511627776))),
 oO 31 (.pick (.tmp 28) (.con (.bool true)) (.tmp 30))]
 (.cond (.tmp 31)
 (aR [oO 6 (.mov (.con .nilS)),
 oO 7 (.mov (cI 181))]
 .ret)
 .skip))
 (aR [oO 32 (.mkmap),
 mV 9 32]
 (.seq (aR [mV 33 0,
 oO 34 (.len (.tmp 33)),
 oO 35 (.mov (cI 0))]
 (.block 0 (.loop (aR [oO 36 (.bin .lss (.tmp 35) (.tmp 34))]
 (.seq (.cond (.tmp 36)
 .skip
 (.exit 0))
 (.seq (.block 1 (aR [oO 37 (.iaddr 5 (.tmp 33) (.tmp 35)),
 oO 38 (.load true 5 (.tmp 37)),
 oO 11 (.alloc (.agg [(.int .u64 0), (.int .i64 0), (.int .u64 0), (.bool false), .nilS])),
 oN (.store 5 (.tmp 11) (.tmp 38))]
 (.regd [⟨[pP (mV 39 9),
 pP (oO 40 (.faddr (.tmp 11) 1)),
 qQ (oO 41 (.load true 4 (.tmp 40))),
 qQ (oO 42 (.call 47 [(.tmp 41)])),
 pP (oO 43 (.faddr (.tmp 11) 1)),
 pP (oO 44 (.faddr (.tmp 43) 2)),
 qQ (lD 45 44),
 pP (oO 46 (.un .not (.tmp 45)))], 0, [oN (.mupd (.agg [.int, .int]) (.tmp 39) (.tmp 42) (.tmp 46))]⟩])))
 (.reg [oO 47 (.bin .add (.tmp 35) (cI 1)),
 mV 35 47])))))))
 (aR [mV 48 0,
 oO 49 (.call 48 [(.tmp 48)]),
 mV 12 49]
 (.seq (aR [mV 50 2,
 oO 51 (.len (.tmp 50)),
 oO 52 (.mov (cI 0))]
 (.block 2 (.loop (aR [oO 53 (.bin .lss (.tmp 52) (.tmp 51))]
 (.seq (.cond (.tmp 53)
 .skip
 (.exit 2))
 (.seq (.block 3 (aR [oO 54 (.iaddr 4 (.tmp 50) (.tmp 52)),
 oO 55 (.load true 4 (.tmp 54)),
 oO 14 (.alloc (.agg [(.int .i64 0), (.int .u64 0), (.bool false), .nilS])),
 oN (.store 4 (.tmp 14) (.tmp 55))]
 (.seq (aR [oO 56 (.faddr (.tmp 14) 2),
 lD 57 56,
 mV 58 57,
 gO 59 58 true (.mov (.tmp 9)),
 gO 60 58 true (.load true 4 (.tmp 14)),
 gO 61 58 true (.call 47 [(.tmp 60)]),
 gO 62 58 true (.mget false (.agg [.int, .int]) (.bool false) (.tmp 59) (.tmp 61)),
 gO 63 58 true (.un .not (.tmp 62)),
 oO 64 (.pick (.tmp 58) (.tmp 63) (.con (.bool false)))]
 (.cond (.tmp 64)
 (aR [oO 6 (.mov (.con .nilS)),
 oO 7 (.mov (cI 4))]
 .ret)
 .skip))
 (.reg [mV 65 12,
 mV 66 1,
 oO 67 (.load true 4 (.tmp 14)),
 oO 68 (.build [(.int .u64 0), (.int .i64 0), (.int .u64 0), (.bool false), .nilS] [(0, 1, (.tmp 66)), (1, 4, (.tmp 67))]),
 oO 69 (.lit 5 [(.tmp 68)]),
 oO 70 (.append 5 56 (.tmp 65) (.tmp 69)),
 mV 12 70]))))
 (.reg [oO 71 (.bin .add (.tmp 52) (cI 1)),
 mV 52 71])))))))
 (.seq (.block 4 (aR [mV 73 12,
 oO 74 (.call 49 [(.tmp 73)]),
 oO 75 (.un .not (.tmp 74)),
 mV 72 75]
 (.cond (.tmp 72)
 (aR [oO 6 (.mov (.con .nilS)),
 oO 7 (.mov (cI 151))]
 .ret)
 (aR [mV 77 12,
 oO 78 (.len (.tmp 77)),
 oO 79 (.bin .gtr (.tmp 78) (cI 2000)),
 mV 76 79]
 (.cond (.tmp 76)
 (aR [oO 6 (.mov (.con .nilS)),
 oO 7 (.mov (cI 6))]
 .ret)
 .skip)))))
 (aR [mV 80 12,
 oO 81 (.call 50 [(.tmp 80)]),
 mV 6 81,
 oO 7 (.mov (cI 0))]
 .ret)))))))))
def g13 : Fn := ⟨3, 82, [.tmp 6, .tmp 7], b13⟩
def b20 : AC :=
 (aR [oO 2 (.mov (.con (.int .u64 0)))]
 (.seq (aR [mV 3 0,
 oO 4 (.call 24 [(.tmp 3)]),
 oO 5 (.bin .neq (.tmp 4) (cI 0))]
 (.cond (.tmp 5)
 (aR [oO 2 (.mov (.con (.int .u64 0)))]
 .ret)
 .skip))
 (aR [mV 6 0,
 oO 7 (.call 46 [(.tmp 6)]),
 mV 2 7]
 .ret)))
def g20 : Fn := ⟨1, 8, [.tmp 2], b20⟩
def b21 : AC :=
 (aR [oO 4 (.box (.tmp 1)),
 oO 6 (.mov (.con (.bool false))),
 oO 7 (.mov (cI 0))]
 (.seq (aR [mV 12 0,
 oO 13 (.call 24 [(.tmp 12)]),
 mV 14 2,
 oO 15 (.call 45 [(.tmp 14)]),
 oO 16 (.lit 1 [(.tmp 13), (.tmp 15)]),
 oO 17 (.call 44 [(.tmp 16)]),
 mV 8 17]
 (aR [mV 18 8,
 oO 19 (.bin .neq (.tmp 18) (cI 0))]
 (.cond (.tmp 19)
 (aR [mV 20 8,
 oO 6 (.mov (.con (.bool false))),
 mV 7 20]
 .ret)
 .skip)))
 (aR [oO 21 (.mkmap),
 oO 9 (.alloc .nilM),
 oN (.store 1 (.tmp 9) (.tmp 21))]
 (.seq (aR [mV 22 2,
 oO 23 (.len (.tmp 22)),
 oO 24 (.mov (cI 0))]
 (.block 0 (.loop (aR [oO 25 (.bin .lss (.tmp 24) (.tmp 23))]
 (.seq (.cond (.tmp 25)
 .skip
 (.exit 0))
 (.seq (.block 1 (aR [oO 26 (.iaddr 4 (.tmp 22) (.tmp 24)),
 oO 27 (.load true 4 (.tmp 26)),
 oO 11 (.alloc (.agg [(.int .i64 0), (.int .u64 0), (.bool false), .nilS])),
 oN (.store 4 (.tmp 11) (.tmp 27))]
 (.regd [⟨[qQ (lD 28 9),
 qQ (oO 29 (.load true 4 (.tmp 11))),
 qQ (oO 30 (.call 47 [(.tmp 29)]))], 0, [oN (.mupd (.agg [.int, .int]) (.tmp 28) (.tmp 30) (.con (.bool true)))]⟩])))
 (.reg [oO 31 (.bin .add (.tmp 24) (cI 1)),
 mV 24 31])))))))
 (aR [mV 32 0,
 oO 33 (.mkfn 58 [(.tmp 4), (.tmp 9)]),
 oO 34 (.call 57 [(.tmp 32), (.tmp 33)]),
 mV 6 34,
 oO 7 (.mov (cI 0))]
 .ret)))))
def g21 : Fn := ⟨3, 35, [.tmp 6, .tmp 7], b21⟩
def b22 : AC :=
 (aR [oO 6 (.mov (.con .nilS)),
 oO 7 (.mov (cI 0))]
 (.seq (aR [mV 9 0,
 oO 10 (.call 24 [(.tmp 9)]),
 mV 11 1,
 oO 12 (.call 59 [(.tmp 11)]),
 oO 13 (.lit 1 [(.tmp 10), (.tmp 12)]),
 oO 14 (.call 44 [(.tmp 13)]),
 mV 8 14]
 (aR [mV 15 8,
 oO 16 (.bin .neq (.tmp 15) (cI 0))]
 (.cond (.tmp 16)
 (aR [mV 17 8,
 oO 6 (.mov (.con .nilS)),
 mV 7 17]
 .ret)
 .skip)))
 (aR [mV 18 0,
 mV 19 1,
 mV 20 2,
 oO 21 (.call 60 [(.tmp 18), (.tmp 19), (.tmp 20)]),
 mV 6 21,
 oO 7 (.mov (cI 0))]
 .ret)))
def g22 : Fn := ⟨3, 22, [.tmp 6, .tmp 7], b22⟩
def b24 : AC :=
 (aR [oO 2 (.mov (cI 0))]
 (aR [mV 8 0,
 oO 9 (.len (.tmp 8)),
 oO 10 (.bin .leq (.tmp 9) (cI 2000)),
 mV 3 10]
 (aR [oO 11 (.mkmap),
 mV 4 11]
 (.seq (aR [mV 12 0,
 oO 13 (.len (.tmp 12)),
 oO 14 (.mov (cI 0))]
 (.block 0 (.loop (aR [oO 15 (.bin .lss (.tmp 14) (.tmp 13))]
 (.seq (.cond (.tmp 15)
 .skip
 (.exit 0))
 (.seq (.block 1 (aR [mV 16 14,
 oO 17 (.iaddr 5 (.tmp 12) (.tmp 14)),
 oO 18 (.load true 5 (.tmp 17)),
 oO 6 (.alloc (.agg [(.int .u64 0), (.int .i64 0), (.int .u64 0), (.bool false), .nilS])),
 mV 5 16,
 oN (.store 5 (.tmp 6) (.tmp 18))]
 (aR [mV 19 3,
 mV 20 19,
 gO 21 20 true (.faddr (.tmp 6) 0),
 gO 22 20 true (.load false 1 (.tmp 21)),
 gO 23 20 true (.bin .geq (.tmp 22) (.con (.int .u64 1))),
 oO 24 (.pick (.tmp 20) (.tmp 23) (.con (.bool false))),
 mV 25 24,
 gO 26 25 true (.faddr (.tmp 6) 0),
 gO 27 25 true (.load false 1 (.tmp 26)),
 gO 28 25 true (.bin .leq (.tmp 27) (.con (.int .u64 1099511627776))),
 oO 29 (.pick (.tmp 25) (.tmp 28) (.con (.bool false))),
 mV 30 29,
 gO 31 30 true (.faddr (.tmp 6) 1),
 gO 32 30 true (.load true 4 (.tmp 31)),
 gO 33 30 true (.lit 4 [(.tmp 32)]),
 gO 34 30 true (.call 62 [(.tmp 33)]),
 oO 35 (.pick (.tmp 30) (.tmp 34) (.con (.bool false))),
 mV 3 35]
 (.seq (aR [mV 36 3,
 mV 37 36,
 gO 38 37 true (.mov (.tmp 5)),
 gO 39 37 true (.bin .gtr (.tmp 38) (cI 0)),
 oO 40 (.pick (.tmp 37) (.tmp 39) (.con (.bool false)))]
 (.cond (.tmp 40)
 (aR [mV 41 0,
 mV 42 5,
 oO 43 (.bin .sub (.tmp 42) (cI 1)),
 oO 44 (.iaddr 5 (.tmp 41) (.tmp 43)),
 oO 45 (.load true 5 (.tmp 44)),
 oO 7 (.alloc (.agg [(.int .u64 0), (.int .i64 0), (.int .u64 0), (.bool false), .nilS])),
 oN (.store 5 (.tmp 7) (.tmp 45))]
 (.reg [oO 46 (.faddr (.tmp 7) 0),
 lD 47 46,
 oO 48 (.faddr (.tmp 6) 0),
 lD 49 48,
 oO 50 (.bin .lss (.tmp 47) (.tmp 49)),
 mV 51 50,
 gO 52 51 false (.faddr (.tmp 7) 0),
 gO 53 51 false (.load false 1 (.tmp 52)),
 gO 54 51 false (.faddr (.tmp 6) 0),
 gO 55 51 false (.load false 1 (.tmp 54)),
 gO 56 51 false (.bin .eql (.tmp 53) (.tmp 55)),
 gO 57 51 false (.mov (.tmp 56)),
 gO 58 57 true (.faddr (.tmp 7) 1),
 gO 59 57 true (.load true 4 (.tmp 58)),
 gO 60 57 true (.faddr (.tmp 6) 1),
 gO 61 57 true (.load true 4 (.tmp 60)),
 gO 62 57 true (.lit 4 [(.tmp 59), (.tmp 61)]),
 gO 63 57 true (.call 62 [(.tmp 62)]),
 gO 64 51 false (.pick (.tmp 57) (.tmp 63) (.con (.bool false))),
 oO 65 (.pick (.tmp 51) (.con (.bool true)) (.tmp 64)),
 mV 3 65]))
 .skip))
 (.seq (aR [mV 66 3,
 mV 67 66,
 gO 68 67 true (.faddr (.tmp 6) 1),
 gO 69 67 true (.faddr (.tmp 68) 2),
 gO 70 67 true (.load false 1 (.tmp 69)),
 gO 71 67 true (.un .not (.tmp 70)),
 gO 72 67 true (.mov (.tmp 71)),
 gO 73 72 false (.mov (.tmp 4)),
 gO 74 72 false (.faddr (.tmp 6) 1),
 gO 75 72 false (.load true 4 (.tmp 74)),
 gO 76 72 false (.call 47 [(.tmp 75)]),
 gO 77 72 false (.mget false (.agg [.int, .int]) (.bool false) (.tmp 73) (.tmp 76)),
 gO 78 67 true (.pick (.tmp 72) (.con (.bool true)) (.tmp 77)),
 oO 79 (.pick (.tmp 67) (.tmp 78) (.con (.bool false))),
 mV 3 79]
 (aR [mV 80 3,
 oO 81 (.un .not (.tmp 80))]
 (.cond (.tmp 81)
 (aR [oO 2 (.mov (cI 280))]
 .ret)
 .skip)))
 (.regd [⟨[pP (mV 82 4),
 pP (oO 83 (.faddr (.tmp 6) 1)),
 qQ (oO 84 (.load true 4 (.tmp 83))),
 qQ (oO 85 (.call 47 [(.tmp 84)])),
 pP (oO 86 (.faddr (.tmp 6) 1)),
 pP (oO 87 (.faddr (.tmp 86) 2)),
 qQ (lD 88 87),
 pP (oO 89 (.un .not (.tmp 88)))], 0, [oN (.mupd (.agg [.int, .int]) (.tmp 82) (.tmp 85) (.tmp 89))]⟩]))))))
 (.reg [oO 90 (.bin .add (.tmp 14) (cI 1)),
 mV 14 90])))))))
 (.seq (aR [mV 91 3,
 oO 92 (.un .not (.tmp 91)),
 mV 93 92,
 gO 94 93 false (.mov (.tmp 0)),
 gO 95 93 false (.call 49 [(.tmp 94)]),
 gO 96 93 false (.un .not (.tmp 95)),
 oO 97 (.pick (.tmp 93) (.con (.bool true)) (.tmp 96))]
 (.cond (.tmp 97)
 (aR [oO 2 (.mov (cI 280))]
 .ret)
 .skip))
 (aR [oO 2 (.mov (cI 0))]
 .ret))))))
def g24 : Fn := ⟨1, 98, [.tmp 2], b24⟩
def b30 : AC :=
 (aR [oO 4 (.box (.tmp 1)),
 oO 5 (.box (.tmp 2)),
 oO 6 (.mov (cI 0)),
 oO 7 (.mov (cI 0))]
 (.seq (.seq (.regd [⟨[pP (mV 15 0),
 qQ (oO 16 (.call 24 [(.tmp 15)])),
 qQ (lD 17 4)], 0, [oO 18 (.call 59 [(.tmp 17)]),
 oO 19 (.lit 1 [(.tmp 16), (.tmp 18)]),
 oO 20 (.call 44 [(.tmp 19)]),
 mV 8 20]⟩])
 (aR [mV 21 8,
 oO 22 (.bin .neq (.tmp 21) (cI 0))]
 (.cond (.tmp 22)
 (aR [mV 23 8,
 oO 6 (.mov (cI 0)),
 mV 7 23]
 .ret)
 .skip)))
 (aR [oO 24 (.mkmap),
 oO 9 (.alloc .nilM),
 oN (.store 1 (.tmp 9) (.tmp 24))]
 (aR [oO 10 (.alloc (.int .i64 0)),
 oN (.store 1 (.tmp 10) (cI 0))]
 (.seq (aR [mV 25 0,
 oO 26 (.call 67 [(.tmp 25)])]
 (.block 0 (.rangeF (.tmp 26) [27, 28]
 (.reg [oO 12 (.alloc (.agg [(.int .u64 0), (.int .i64 0), (.int .u64 0), (.bool false), .nilS])),
 oN (.store 5 (.tmp 12) (.tmp 28))])
 (.block 1 (.seq (aR [oO 29 (.faddr (.tmp 12) 1),
 oO 30 (.faddr (.tmp 29) 0),
 lD 31 30,
 lD 32 4,
 oO 33 (.bin .neq (.tmp 31) (.tmp 32))]
 (.cond (.tmp 33)
 (.exit 1)
 .skip))
 (.seq (aR [lD 35 9,
 oO 36 (.faddr (.tmp 12) 1),
 oO 37 (.faddr (.tmp 36) 1),
 lD 38 37,
 oO 39 (.mget true (.one .int) (.int .u64 0) (.tmp 35) (.tmp 38)),
 mV 34 39,
 oO 40 (.ext (.tmp 34) 0),
 oO 41 (.ext (.tmp 34) 1),
 mV 13 40,
 mV 14 41]
 (aR [oO 42 (.faddr (.tmp 12) 1),
 oO 43 (.faddr (.tmp 42) 2),
 lD 44 43,
 oO 45 (.un .not (.tmp 44)),
 mV 46 45,
 gO 47 46 true (.mov (.tmp 14)),
 gO 48 46 true (.un .not (.tmp 47)),
 gO 49 46 true (.mov (.tmp 48)),
 gO 50 49 false (.mov (.tmp 13)),
 gO 51 49 false (.load false 1 (.tmp 5)),
 gO 52 49 false (.bin .gtr (.tmp 50) (.tmp 51)),
 gO 53 46 true (.pick (.tmp 49) (.con (.bool true)) (.tmp 52)),
 oO 54 (.pick (.tmp 46) (.tmp 53) (.con (.bool false)))]
 (.cond (.tmp 54)
 (.reg [lD 55 10,
 oO 56 (.bin .add (.tmp 55) (cI 1)),
 oN (.store 1 (.tmp 10) (.tmp 56))])
 .skip)))
 (.reg [lD 57 9,
 oO 58 (.faddr (.tmp 12) 1),
 oO 59 (.faddr (.tmp 58) 1),
 lD 60 59,
 oO 61 (.faddr (.tmp 12) 0),
 lD 62 61,
 oN (.mupd (.one .int) (.tmp 57) (.tmp 60) (.tmp 62))])))))))
 (aR [lD 63 10,
 mV 6 63,
 oO 7 (.mov (cI 0))]
 .ret))))))
def g30 : Fn := ⟨3, 64, [.tmp 6, .tmp 7], b30⟩
def b38 : AC :=
 (aR [oO 4 (.box (.tmp 1)),
 oO 5 (.box (.tmp 2)),
 oO 6 (.mov (.con .nilS)),
 oO 7 (.mov (cI 0))]
 (aR [mV 8 0,
 lD 9 4,
 oO 10 (.mkfn 79 [(.tmp 5), (.tmp 4)]),
 oO 11 (.call 78 [(.tmp 8), (.tmp 9), (.tmp 10)]),
 oO 12 (.ext (.tmp 11) 0),
 oO 13 (.ext (.tmp 11) 1),
 mV 6 12,
 mV 7 13]
 .ret))
def g38 : Fn := ⟨3, 14, [.tmp 6, .tmp 7], b38⟩
def b39 : AC :=
 (aR [oO 3 (.box (.tmp 1)),
 oO 4 (.mov (.con .nilS)),
 oO 5 (.mov (cI 0))]
 (aR [mV 6 0,
 lD 7 3,
 oO 8 (.mkfn 82 [(.tmp 3)]),
 oO 9 (.call 78 [(.tmp 6), (.tmp 7), (.tmp 8)]),
 oO 10 (.ext (.tmp 9) 0),
 oO 11 (.ext (.tmp 9) 1),
 mV 4 10,
 mV 5 11]
 .ret))
def g39 : Fn := ⟨2, 12, [.tmp 4, .tmp 5], b39⟩
def b40 : AC :=
 (aR [oO 3 (.box (.tmp 1)),
 oO 4 (.mov (.con .nilS)),
 oO 5 (.mov (.con .nilS)),
 oO 6 (.mov (cI 0))]
 (.seq (aR [mV 13 0,
 oO 14 (.call 83 [(.tmp 13)]),
 mV 7 14]
 (aR [mV 15 7,
 oO 16 (.bin .neq (.tmp 15) (cI 0))]
 (.cond (.tmp 16)
 (aR [mV 17 7,
 oO 4 (.mov (.con .nilS)),
 oO 5 (.mov (.con .nilS)),
 mV 6 17]
 .ret)
 .skip)))
 (aR [oO 18 (.mkfn 84 [(.tmp 3)]),
 oO 8 (.alloc .nilF),
 oN (.store 1 (.tmp 8) (.tmp 18))]
 (aR [oO 9 (.alloc .nilS),
 oO 10 (.alloc .nilS)]
 (.seq (.seq (.regd [⟨[pP (mV 19 0),
 ⟨oO 20 (.call 86 [(.tmp 19)]), false, false, true, 0, [], none⟩,
 ⟨lD 21 8, false, false, false, 1, [0], none⟩], 1, [oO 22 (.call 85 [(.tmp 20), (.tmp 21)])]⟩])
 (.block 0 (.rangeF (.tmp 22) [23]
 (.reg [oO 11 (.alloc (.agg [(.int .u64 0), (.int .u64 0), .nilS])),
 oN (.store 3 (.tmp 11) (.tmp 23))])
 (.block 1 (.reg [lD 24 10,
 oO 25 (.load true 3 (.tmp 11)),
 oO 26 (.lit 3 [(.tmp 25)]),
 oO 27 (.append 3 40 (.tmp 24) (.tmp 26)),
 oN (.store 1 (.tmp 10) (.tmp 27))])))))
 (.seq (aR [mV 28 0,
 oO 29 (.call 86 [(.tmp 28)]),
 oO 30 (.mkfn 87 [(.tmp 8)]),
 oO 31 (.call 85 [(.tmp 29), (.tmp 30)])]
 (.block 2 (.rangeF (.tmp 31) [32]
 (.reg [oO 12 (.alloc (.agg [(.int .u64 0), (.int .u64 0), .nilS])),
 oN (.store 3 (.tmp 12) (.tmp 32))])
 (.block 3 (.reg [lD 33 9,
 oO 34 (.load true 3 (.tmp 12)),
 oO 35 (.lit 3 [(.tmp 34)]),
 oO 36 (.append 3 40 (.tmp 33) (.tmp 35)),
 oN (.store 1 (.tmp 9) (.tmp 36))])))))
 (.seq (.regd [⟨[qQ (lD 37 9),
 qQ (lD 38 10),
 pP (mV 4 37)], 0, [mV 5 38,
 oO 6 (.mov (cI 0))]⟩])
 .ret)))))))
def g40 : Fn := ⟨2, 39, [.tmp 4, .tmp 5, .tmp 6], b40⟩
def b41 : AC :=
 (aR [oO 3 (.box (.tmp 1)),
 oO 4 (.mov (cI 0)),
 oO 5 (.mov (.con (.bool false)))]
 (aR [mV 7 0,
 oO 8 (.mkfn 89 [(.tmp 3)]),
 oO 9 (.call 88 [(.tmp 7), (.tmp 8)]),
 mV 6 9]
 (.seq (aR [mV 10 6,
 oO 11 (.bin .lss (.tmp 10) (cI 0)),
 mV 12 11,
 gO 13 12 false (.mov (.tmp 0)),
 gO 14 12 false (.call 83 [(.tmp 13)]),
 gO 15 12 false (.bin .neq (.tmp 14) (cI 0)),
 oO 16 (.pick (.tmp 12) (.con (.bool true)) (.tmp 15))]
 (.cond (.tmp 16)
 (aR [oO 4 (.mov (cI 0)),
 oO 5 (.mov (.con (.bool false)))]
 .ret)
 .skip))
 (aR [mV 17 6,
 mV 4 17,
 oO 5 (.mov (.con (.bool true)))]
 .ret))))
def g41 : Fn := ⟨2, 18, [.tmp 4, .tmp 5], b41⟩
def b42 : AC :=
 (aR [oO 4 (.mov (.con (.bool false)))]
 (aR [mV 5 0,
 mV 6 1,
 oO 7 (.call 91 [(.tmp 5), (.tmp 6)]),
 mV 4 7]
 .ret))
def g42 : Fn := ⟨2, 8, [.tmp 4], b42⟩
def b43 : AC :=
 (aR [oO 2 (.mov (.con .nilS))]
 (aR [oO 3 (.lit 1 []),
 mV 4 0,
 mV 5 0,
 oO 6 (.len (.tmp 5)),
 oO 7 (.min [(.tmp 6), (cI 5)]),
 oO 8 (.slice 1 (.tmp 4) none (some (.tmp 7))),
 oO 9 (.append 1 4 (.tmp 3) (.tmp 8)),
 mV 2 9]
 .ret))
def g43 : Fn := ⟨1, 10, [.tmp 2], b43⟩
def b44 : AC :=
 (aR [oO 2 (.mov (cI 0))]
 (aR [oO 3 (.mov (cI 0))]
 (.seq (aR [mV 6 0,
 oO 7 (.len (.tmp 6)),
 oO 8 (.mov (cI 0))]
 (.block 0 (.loop (aR [oO 9 (.bin .lss (.tmp 8) (.tmp 7))]
 (.seq (.cond (.tmp 9)
 .skip
 (.exit 0))
 (.seq (.block 1 (aR [oO 10 (.iaddr 1 (.tmp 6) (.tmp 8)),
 lD 11 10,
 mV 5 11]
 (aR [mV 12 5,
 mV 13 3,
 oO 14 (.bin .neq (.tmp 12) (.tmp 13))]
 (.cond (.tmp 14)
 (aR [mV 15 5,
 mV 2 15]
 .ret)
 .skip))))
 (.reg [oO 16 (.bin .add (.tmp 8) (cI 1)),
 mV 8 16])))))))
 (aR [mV 17 3,
 mV 2 17]
 .ret))))
def g44 : Fn := ⟨1, 18, [.tmp 2], b44⟩
def b45 : AC :=
 (aR [oO 2 (.mov (cI 0))]
 (aR [mV 6 0,
 oO 7 (.len (.tmp 6)),
 oO 8 (.bin .leq (.tmp 7) (cI 12)),
 mV 3 8]
 (.seq (aR [mV 9 0,
 oO 10 (.len (.tmp 9)),
 oO 11 (.mov (cI 0))]
 (.block 0 (.loop (aR [oO 12 (.bin .lss (.tmp 11) (.tmp 10))]
 (.seq (.cond (.tmp 12)
 .skip
 (.exit 0))
 (.seq (.block 1 (aR [mV 13 11,
 oO 14 (.iaddr 4 (.tmp 9) (.tmp 11)),
 oO 15 (.load true 4 (.tmp 14)),
 oO 5 (.alloc (.agg [(.int .i64 0), (.int .u64 0), (.bool false), .nilS])),
 mV 4 13,
 oN (.store 4 (.tmp 5) (.tmp 15))]
 (.regd [⟨[], 0, [mV 16 3,
 mV 17 16,
 gO 18 17 true (.load true 4 (.tmp 5)),
 gO 19 17 true (.call 92 [(.tmp 18)]),
 oO 20 (.pick (.tmp 17) (.tmp 19) (.con (.bool false))),
 mV 21 20,
 gO 22 21 true (.mov (.tmp 4)),
 gO 23 21 true (.bin .eql (.tmp 22) (cI 0)),
 gO 24 21 true (.mov (.tmp 23))]⟩,
 ⟨[pP (gO 25 24 false (.mov (.tmp 0))),
 pP (gO 26 24 false (.mov (.tmp 4))),
 pP (gO 27 24 false (.bin .sub (.tmp 26) (cI 1))),
 pP (gO 28 24 false (.iaddr 4 (.tmp 25) (.tmp 27))),
 qQ (gO 29 24 false (.load true 4 (.tmp 28))),
 qQ (gO 30 24 false (.load true 4 (.tmp 5)))], 0, [gO 31 24 false (.call 93 [(.tmp 29), (.tmp 30)]),
 gO 32 24 false (.bin .lss (.tmp 31) (cI 0)),
 gO 33 21 true (.pick (.tmp 24) (.con (.bool true)) (.tmp 32)),
 oO 34 (.pick (.tmp 21) (.tmp 33) (.con (.bool false))),
 mV 3 34]⟩])))
 (.reg [oO 35 (.bin .add (.tmp 11) (cI 1)),
 mV 11 35])))))))
 (.seq (aR [mV 36 3,
 oO 37 (.un .not (.tmp 36))]
 (.cond (.tmp 37)
 (aR [oO 2 (.mov (cI 260))]
 .ret)
 .skip))
 (aR [oO 2 (.mov (cI 0))]
 .ret)))))
def g45 : Fn := ⟨1, 38, [.tmp 2], b45⟩
def b46 : AC :=
 (aR [oO 2 (.mov (.con (.int .u64 0)))]
 (.seq (aR [mV 3 0,
 oO 4 (.len (.tmp 3)),
 oO 5 (.bin .eql (.tmp 4) (cI 0))]
 (.cond (.tmp 5)
 (aR [oO 2 (.mov (.con (.int .u64 0)))]
 .ret)
 .skip))
 (aR [mV 6 0,
 mV 7 0,
 oO 8 (.len (.tmp 7)),
 oO 9 (.bin .sub (.tmp 8) (cI 1)),
 oO 10 (.iaddr 5 (.tmp 6) (.tmp 9)),
 oO 11 (.faddr (.tmp 10) 0),
 lD 12 11,
 mV 2 12]
 .ret)))
def g46 : Fn := ⟨1, 13, [.tmp 2], b46⟩
def b47 : AC :=
 (aR [oO 1 (.box (.tmp 0)),
 oO 2 (.alloc (.agg [(.int .i64 0), (.int .u64 0)]))]
 (aR [oO 3 (.faddr (.tmp 1) 0),
 lD 4 3,
 oO 5 (.faddr (.tmp 1) 1),
 lD 6 5,
 oO 7 (.build [(.int .i64 0), (.int .u64 0)] [(0, 1, (.tmp 4)), (1, 1, (.tmp 6))]),
 oN (.store 2 (.tmp 2) (.tmp 7))]
 .ret))
def g47 : Fn := ⟨1, 8, [.cell 2 true 2], b47⟩
def b48 : AC :=
 (aR [oO 2 (.mov (.con .nilS))]
 (.seq (aR [mV 3 0,
 oO 4 (.eqN false (.tmp 3))]
 (.cond (.tmp 4)
 (aR [oO 2 (.mov (.con .nilS))]
 .ret)
 .skip))
 (aR [oO 5 (.lit 5 []),
 mV 6 0,
 oO 7 (.append 5 56 (.tmp 5) (.tmp 6)),
 mV 2 7]
 .ret)))
def g48 : Fn := ⟨1, 8, [.tmp 2], b48⟩
def b49 : AC :=
 (aR [oO 2 (.mov (.con (.bool false)))]
 (aR [oO 9 (.mkmap),
 mV 3 9]
 (.seq (aR [mV 10 0,
 oO 11 (.len (.tmp 10)),
 oO 12 (.mov (cI 0))]
 (.block 0 (.loop (aR [oO 13 (.bin .lss (.tmp 12) (.tmp 11))]
 (.seq (.cond (.tmp 13)
 .skip
 (.exit 0))
 (.seq (.block 1 (aR [oO 14 (.iaddr 5 (.tmp 10) (.tmp 12)),
 oO 15 (.load true 5 (.tmp 14)),
 oO 5 (.alloc (.agg [(.int .u64 0), (.int .i64 0), (.int .u64 0), (.bool false), .nilS])),
 oN (.store 5 (.tmp 5) (.tmp 15))]
 (aR [oO 16 (.faddr (.tmp 5) 1),
 oO 17 (.load true 4 (.tmp 16)),
 oO 6 (.alloc (.agg [(.int .i64 0), (.int .u64 0), (.bool false), .nilS])),
 oN (.store 4 (.tmp 6) (.tmp 17))]
 (.seq (aR [oO 18 (.faddr (.tmp 6) 2),
 lD 19 18]
 (.cond (.tmp 19)
 (.exit 1)
 .skip))
 (.seq (aR [mV 21 3,
 oO 22 (.faddr (.tmp 6) 0),
 lD 23 22,
 oO 24 (.mget true (.one .int) (.int .i64 0) (.tmp 21) (.tmp 23)),
 mV 20 24,
 oO 25 (.ext (.tmp 20) 0),
 oO 26 (.ext (.tmp 20) 1),
 mV 7 25,
 mV 8 26]
 (aR [mV 27 8,
 mV 28 27,
 gO 29 28 true (.mov (.tmp 7)),
 gO 30 28 true (.faddr (.tmp 6) 3),
 gO 31 28 true (.load false 1 (.tmp 30)),
 gO 32 28 true (.len (.tmp 31)),
 gO 33 28 true (.bin .neq (.tmp 29) (.tmp 32)),
 oO 34 (.pick (.tmp 28) (.tmp 33) (.con (.bool false)))]
 (.cond (.tmp 34)
 (aR [oO 2 (.mov (.con (.bool false)))]
 .ret)
 .skip)))
 (.reg [mV 35 3,
 oO 36 (.faddr (.tmp 6) 0),
 lD 37 36,
 oO 38 (.faddr (.tmp 6) 3),
 lD 39 38,
 oO 40 (.len (.tmp 39)),
 oN (.mupd (.one .int) (.tmp 35) (.tmp 37) (.tmp 40))]))))))
 (.reg [oO 41 (.bin .add (.tmp 12) (cI 1)),
 mV 12 41])))))))
 (aR [oO 2 (.mov (.con (.bool true)))]
 .ret))))
def g49 : Fn := ⟨1, 42, [.tmp 2], b49⟩
def b50 : AC :=
 (aR [oO 2 (.mov (.con .nilS))]
 (aR [mV 5 0,
 oO 6 (.call 48 [(.tmp 5)]),
 mV 3 6]
 (.seq (aR [mV 7 3,
 oO 8 (.len (.tmp 7)),
 oO 9 (.mov (cI 0))]
 (.block 0 (.loop (aR [oO 10 (.bin .lss (.tmp 9) (.tmp 8))]
 (.seq (.cond (.tmp 10)
 .skip
 (.exit 0))
 (.seq (.block 1 (aR [mV 11 9,
 mV 4 11]
 (.reg [mV 12 3,
 mV 13 4,
 mV 14 3,
 mV 15 4,
 oO 16 (.iaddr 5 (.tmp 14) (.tmp 15)),
 oO 17 (.faddr (.tmp 16) 1),
 oO 18 (.faddr (.tmp 17) 3),
 lD 19 18,
 oO 20 (.call 74 [(.tmp 19)]),
 oO 21 (.iaddr 5 (.tmp 12) (.tmp 13)),
 oO 22 (.faddr (.tmp 21) 1),
 oO 23 (.faddr (.tmp 22) 3),
 oN (.store 1 (.tmp 23) (.tmp 20))])))
 (.reg [oO 24 (.bin .add (.tmp 9) (cI 1)),
 mV 9 24])))))))
 (aR [mV 25 3,
 mV 2 25]
 .ret))))
def g50 : Fn := ⟨1, 26, [.tmp 2], b50⟩
def b57 : AC :=
 (aR [oO 4 (.mov (.con (.bool false)))]
 (aR [mV 5 0,
 mV 6 1,
 oO 7 (.call 94 [(.tmp 5), (.tmp 6)]),
 oO 8 (.bin .geq (.tmp 7) (cI 0)),
 mV 4 8]
 .ret))
def g57 : Fn := ⟨2, 9, [.tmp 4], b57⟩
def b58 : AC :=
 (aR [oO 3 (.box (.tmp 0)),
 oO 4 (.mov (.con (.bool false)))]
 (.seq (.regd [⟨[pP (oO 5 (.faddr (.tmp 3) 0)),
 qQ (lD 6 5),
 qQ (lD 7 1)], 0, [oO 8 (.bin .gtr (.tmp 6) (.tmp 7)),
 mV 9 8]⟩,
 ⟨[qQ (gO 10 9 true (.load false 1 (.tmp 2))),
 pP (gO 11 9 true (.faddr (.tmp 3) 1)),
 qQ (gO 12 9 true (.load true 4 (.tmp 11))),
 qQ (gO 13 9 true (.call 47 [(.tmp 12)]))], 0, [gO 14 9 true (.mget false (.agg [.int, .int]) (.bool false) (.tmp 10) (.tmp 13)),
 oO 15 (.pick (.tmp 9) (.tmp 14) (.con (.bool false))),
 mV 4 15]⟩])
 .ret))
def g58 : Fn := ⟨3, 16, [.tmp 4], b58⟩
def b59 : AC :=
 (aR [oO 2 (.mov (cI 0))]
 (.seq (aR [mV 3 0,
 oO 4 (.bin .lss (.tmp 3) (cI 0)),
 mV 5 4,
 gO 6 5 false (.mov (.tmp 0)),
 gO 7 5 false (.bin .geq (.tmp 6) (cI 3)),
 oO 8 (.pick (.tmp 5) (.con (.bool true)) (.tmp 7))]
 (.cond (.tmp 8)
 (aR [oO 2 (.mov (cI 2))]
 .ret)
 .skip))
 (aR [oO 2 (.mov (cI 0))]
 .ret)))
def g59 : Fn := ⟨1, 9, [.tmp 2], b59⟩
def b60 : AC :=
 (aR [oO 4 (.box (.tmp 1)),
 oO 5 (.box (.tmp 2)),
 oO 6 (.mov (.con .nilS))]
 (aR [oO 12 (.mkmap),
 oO 7 (.alloc .nilM),
 oN (.store 1 (.tmp 7) (.tmp 12))]
 (.seq (aR [mV 13 0,
 oO 14 (.mkfn 95 [(.tmp 4), (.tmp 5)]),
 oO 15 (.call 65 [(.tmp 13), (.tmp 14)])]
 (.block 0 (.rangeF (.tmp 15) [16]
 (.reg [oO 8 (.alloc (.agg [(.int .u64 0), (.int .i64 0), (.int .u64 0), (.bool false), .nilS])),
 oN (.store 5 (.tmp 8) (.tmp 16))])
 (.block 1 (aR [oO 17 (.faddr (.tmp 8) 1),
 oO 18 (.faddr (.tmp 17) 2),
 lD 19 18]
 (.cond (.tmp 19)
 (.reg [lD 20 7,
 oO 21 (.faddr (.tmp 8) 1),
 oO 22 (.faddr (.tmp 21) 1),
 lD 23 22,
 oN (.mdel (.one .int) (.tmp 20) (.tmp 23))])
 (.reg [lD 24 7,
 oO 25 (.faddr (.tmp 8) 1),
 oO 26 (.faddr (.tmp 25) 1),
 lD 27 26,
 oO 28 (.faddr (.tmp 8) 1),
 oO 29 (.faddr (.tmp 28) 3),
 lD 30 29,
 oN (.mupd (.one .int) (.tmp 24) (.tmp 27) (.tmp 30))])))))))
 (aR [oO 9 (.mov (.con .nilS))]
 (.seq (aR [lD 31 7,
 oO 32 (.range (.tmp 31))]
 (.block 2 (.loop (aR [oO 33 (.next (.tmp 32)),
 oO 34 (.ext (.tmp 33) 0)]
 (.seq (.cond (.tmp 34)
 .skip
 (.exit 2))
 (.block 3 (aR [oO 35 (.entry (.tmp 32)),
 oO 36 (.ext (.tmp 35) 0),
 oO 37 (.ext (.tmp 35) 1),
 mV 10 36,
 mV 11 37]
 (.reg [mV 38 9,
 mV 39 10,
 mV 40 11,
 oO 41 (.call 74 [(.tmp 40)]),
 oO 42 (.build [(.int .u64 0), .nilS] [(0, 1, (.tmp 39)), (1, 1, (.tmp 41))]),
 oO 43 (.lit 2 [(.tmp 42)]),
 oO 44 (.append 2 32 (.tmp 38) (.tmp 43)),
 mV 9 44]))))))))
 (aR [mV 45 9,
 oO 46 (.call 75 [(.tmp 45), (.con (.fn 96 []))])]
 (aR [mV 47 9,
 mV 6 47]
 .ret)))))))
def g60 : Fn := ⟨3, 48, [.tmp 6], b60⟩
def b62 : AC :=
 (aR [oO 2 (.mov (.con (.bool false)))]
 (aR [mV 3 0,
 oO 4 (.call 45 [(.tmp 3)]),
 oO 5 (.bin .eql (.tmp 4) (cI 0)),
 mV 2 5]
 .ret))
def g62 : Fn := ⟨1, 6, [.tmp 2], b62⟩
def b65 : AC :=
 (aR [oO 2 (.box (.tmp 0)),
 oO 3 (.box (.tmp 1)),
 oO 4 (.mov (.con .nilF))]
 (aR [oO 5 (.mkfn 97 [(.tmp 2), (.tmp 3)]),
 mV 4 5]
 .ret))
def g65 : Fn := ⟨2, 6, [.tmp 4], b65⟩
def b67 : AC :=
 (aR [oO 1 (.box (.tmp 0)),
 oO 2 (.mov (.con .nilF))]
 (aR [oO 3 (.mkfn 98 [(.tmp 1)]),
 mV 2 3]
 .ret))
def g67 : Fn := ⟨1, 4, [.tmp 2], b67⟩
def b70 : AC :=
 (aR [oO 2 (.mov (.con (.bool false)))]
 (aR [mV 3 0,
 oO 4 (.bin .geq (.tmp 3) (cI 0)),
 mV 5 4,
 gO 6 5 true (.mov (.tmp 0)),
 gO 7 5 true (.bin .lss (.tmp 6) (cI 3)),
 oO 8 (.pick (.tmp 5) (.tmp 7) (.con (.bool false))),
 mV 2 8]
 .ret))
def g70 : Fn := ⟨1, 9, [.tmp 2], b70⟩
def b71 : AC :=
 (aR [oO 2 (.mov (cI 0))]
 (aR [oO 3 (.mov (.con (.fn 100 [])))]
 (.seq (aR [mV 4 0,
 oO 5 (.len (.tmp 4)),
 oO 6 (.bin .lss (.tmp 5) (cI 1)),
 mV 7 6,
 gO 8 7 false (.mov (.tmp 0)),
 gO 9 7 false (.len (.tmp 8)),
 gO 10 7 false (.bin .gtr (.tmp 9) (cI 4)),
 oO 11 (.pick (.tmp 7) (.con (.bool true)) (.tmp 10)),
 mV 12 11,
 gO 13 12 false (.mov (.tmp 0)),
 gO 14 12 false (.mov (.tmp 3)),
 gO 15 12 false (.call 101 [(.tmp 13), (.tmp 14)]),
 oO 16 (.pick (.tmp 12) (.con (.bool true)) (.tmp 15))]
 (.cond (.tmp 16)
 (aR [oO 2 (.mov (cI 150))]
 .ret)
 .skip))
 (aR [oO 2 (.mov (cI 0))]
 .ret))))
def g71 : Fn := ⟨1, 17, [.tmp 2], b71⟩
def b74 : AC :=
 (aR [oO 2 (.mov (.con .nilS))]
 (.seq (aR [mV 3 0,
 oO 4 (.eqN false (.tmp 3))]
 (.cond (.tmp 4)
 (aR [oO 2 (.mov (.con .nilS))]
 .ret)
 .skip))
 (aR [oO 5 (.lit 1 []),
 mV 6 0,
 oO 7 (.append 1 4 (.tmp 5) (.tmp 6)),
 mV 2 7]
 .ret)))
def g74 : Fn := ⟨1, 8, [.tmp 2], b74⟩
def b75 : AC :=
 (aR [mV 5 0,
 oO 6 (.len (.tmp 5)),
 mV 4 6]
 (.reg [mV 7 0,
 mV 8 4,
 mV 9 4,
 oO 10 (.conv .u64 (.tmp 9)),
 oO 11 (.call 104 [(.tmp 10)]),
 mV 12 1,
 oO 13 (.call 103 [(.tmp 7), (cI 0), (.tmp 8), (.tmp 11), (.tmp 12)])]))
def g75 : Fn := ⟨2, 14, [], b75⟩
def b77 : AC :=
 (aR [oO 4 (.mov (cI 0))]
 (aR [mV 7 0,
 oO 8 (.call 105 [(.tmp 7)]),
 mV 5 8]
 (aR [mV 9 1,
 oO 10 (.call 105 [(.tmp 9)]),
 mV 6 10]
 (.seq (aR [mV 11 5]
 (.cond (.tmp 11)
 (.seq (aR [mV 12 6]
 (.cond (.tmp 12)
 (aR [oO 4 (.mov (cI 0))]
 .ret)
 .skip))
 (aR [oO 4 (.mov (cI (-1)))]
 .ret))
 .skip))
 (.seq (aR [mV 13 6]
 (.cond (.tmp 13)
 (aR [oO 4 (.mov (cI 1))]
 .ret)
 .skip))
 (.seq (aR [mV 14 0,
 mV 15 1,
 oO 16 (.bin .lss (.tmp 14) (.tmp 15))]
 (.cond (.tmp 16)
 (aR [oO 4 (.mov (cI (-1)))]
 .ret)
 .skip))
 (.seq (aR [mV 17 0,
 mV 18 1,
 oO 19 (.bin .gtr (.tmp 17) (.tmp 18))]
 (.cond (.tmp 19)
 (aR [oO 4 (.mov (cI 1))]
 .ret)
 .skip))
 (aR [oO 4 (.mov (cI 0))]
 .ret))))))))
def g77 : Fn := ⟨2, 20, [.tmp 4], b77⟩
def b78 : AC :=
 (aR [oO 6 (.mov (.con .nilS)),
 oO 7 (.mov (cI 0))]
 (.seq (aR [mV 11 0,
 oO 12 (.call 83 [(.tmp 11)]),
 mV 8 12]
 (aR [mV 13 8,
 oO 14 (.bin .neq (.tmp 13) (cI 0))]
 (.cond (.tmp 14)
 (aR [mV 15 8,
 oO 6 (.mov (.con .nilS)),
 mV 7 15]
 .ret)
 .skip)))
 (.seq (aR [mV 16 1,
 mV 17 0,
 oO 18 (.call 106 [(.tmp 17)]),
 oO 19 (.bin .leq (.tmp 16) (.tmp 18)),
 mV 20 19,
 gO 21 20 false (.mov (.tmp 1)),
 gO 22 20 false (.bin .gtr (.tmp 21) (.con (.int .u64 1099511627776))),
 oO 23 (.pick (.tmp 20) (.con (.bool true)) (.tmp 22))]
 (.cond (.tmp 23)
 (aR [oO 6 (.mov (.con .nilS)),
 oO 7 (.mov (cI 181))]
 .ret)
 .skip))
 (aR [mV 24 0,
 oO 25 (.call 86 [(.tmp 24)]),
 oO 9 (.alloc .nilS),
 oN (.store 1 (.tmp 9) (.tmp 25))]
 (.seq (aR [mV 26 2,
 oO 27 (.callv (.tmp 26) [(.tmp 9)]),
 mV 10 27]
 (aR [mV 28 10,
 oO 29 (.bin .neq (.tmp 28) (cI 0))]
 (.cond (.tmp 29)
 (aR [mV 30 10,
 oO 6 (.mov (.con .nilS)),
 mV 7 30]
 .ret)
 .skip)))
 (aR [lD 31 9,
 mV 6 31,
 oO 7 (.mov (cI 0))]
 .ret))))))
def g78 : Fn := ⟨3, 32, [.tmp 6, .tmp 7], b78⟩
def b79 : AC :=
 (aR [oO 4 (.mov (cI 0))]
 (aR [lD 7 1,
 oO 8 (.len (.tmp 7)),
 mV 5 8]
 (.seq (aR [mV 9 0,
 oO 10 (.nilck (.tmp 9)),
 lD 11 10,
 oO 12 (.len (.tmp 11)),
 oO 13 (.bin .gtr (.tmp 12) (cI 0))]
 (.cond (.tmp 13)
 (.reg [mV 14 0,
 oO 15 (.nilck (.tmp 14)),
 lD 16 15,
 oO 17 (.iaddr 3 (.tmp 16) (cI 0)),
 oO 18 (.faddr (.tmp 17) 2),
 lD 19 18,
 oO 20 (.len (.tmp 19)),
 mV 5 20])
 .skip))
 (.seq (aR [lD 21 1,
 mV 22 5,
 oO 23 (.call 80 [(.tmp 21), (.tmp 22)]),
 mV 6 23]
 (aR [mV 24 6,
 oO 25 (.bin .neq (.tmp 24) (cI 0))]
 (.cond (.tmp 25)
 (aR [mV 26 6,
 mV 4 26]
 .ret)
 .skip)))
 (.seq (aR [mV 27 0,
 oO 28 (.nilck (.tmp 27)),
 lD 29 28,
 oO 30 (.len (.tmp 29)),
 oO 31 (.bin .eql (.tmp 30) (cI 96))]
 (.cond (.tmp 31)
 (aR [oO 4 (.mov (cI 6))]
 .ret)
 .skip))
 (.seq (.regd [⟨[pP (mV 32 0),
 pP (oO 33 (.nilck (.tmp 32))),
 qQ (lD 34 33),
 qQ (lD 35 2)], 0, [oO 36 (.call 81 [(.tmp 34), (.tmp 35)])]⟩])
 (.seq (.regd [⟨[pP (mV 37 0),
 pP (mV 38 0),
 pP (oO 39 (.nilck (.tmp 38))),
 ⟨lD 40 39, false, false, false, 0, [0], none⟩,
 qQ (lD 41 2),
 qQ (lD 42 1),
 qQ (oO 43 (.call 74 [(.tmp 42)])),
 pP (oO 44 (.build [(.int .u64 0), (.int .u64 0), .nilS] [(0, 1, (.tmp 41)), (2, 1, (.tmp 43))])),
 ⟨oO 45 (.lit 3 [(.tmp 44)]), false, false, true, 0, [], none⟩,
 ⟨oO 46 (.append 3 40 (.tmp 40) (.tmp 45)), false, true, true, 1, [], none⟩], 2, [oO 47 (.nilck (.tmp 37)),
 oN (.store 1 (.tmp 47) (.tmp 46))]⟩])
 (aR [oO 4 (.mov (cI 0))]
 .ret))))))))
def g79 : Fn := ⟨3, 48, [.tmp 4], b79⟩
def b80 : AC :=
 (aR [oO 4 (.mov (cI 0))]
 (.seq (aR [mV 6 0,
 oO 7 (.call 71 [(.tmp 6)]),
 mV 5 7]
 (aR [mV 8 5,
 oO 9 (.bin .neq (.tmp 8) (cI 0))]
 (.cond (.tmp 9)
 (aR [mV 10 5,
 mV 4 10]
 .ret)
 .skip)))
 (.seq (aR [mV 11 0,
 oO 12 (.len (.tmp 11)),
 mV 13 1,
 oO 14 (.bin .neq (.tmp 12) (.tmp 13))]
 (.cond (.tmp 14)
 (aR [oO 4 (.mov (cI 151))]
 .ret)
 .skip))
 (aR [oO 4 (.mov (cI 0))]
 .ret))))
def g80 : Fn := ⟨2, 15, [.tmp 4], b80⟩
def b81 : AC :=
 (aR [oO 4 (.mov (.con (.bool false)))]
 (aR [mV 6 0,
 oO 7 (.len (.tmp 6)),
 mV 5 7]
 (.seq (aR [mV 8 5,
 oO 9 (.bin .eql (.tmp 8) (cI 0)),
 mV 10 9,
 gO 11 10 false (.mov (.tmp 0)),
 gO 12 10 false (.mov (.tmp 5)),
 gO 13 10 false (.bin .sub (.tmp 12) (cI 1)),
 gO 14 10 false (.iaddr 3 (.tmp 11) (.tmp 13)),
 gO 15 10 false (.faddr (.tmp 14) 1),
 gO 16 10 false (.load false 1 (.tmp 15)),
 gO 17 10 false (.bin .neq (.tmp 16) (.con (.int .u64 0))),
 oO 18 (.pick (.tmp 10) (.con (.bool true)) (.tmp 17))]
 (.cond (.tmp 18)
 (aR [oO 4 (.mov (.con (.bool false)))]
 .ret)
 .skip))
 (aR [mV 19 0,
 mV 20 5,
 oO 21 (.bin .sub (.tmp 20) (cI 1)),
 mV 22 1,
 oO 23 (.iaddr 3 (.tmp 19) (.tmp 21)),
 oO 24 (.faddr (.tmp 23) 1),
 oN (.store 1 (.tmp 24) (.tmp 22))]
 (aR [oO 4 (.mov (.con (.bool true)))]
 .ret)))))
def g81 : Fn := ⟨2, 25, [.tmp 4], b81⟩
def b82 : AC :=
 (aR [oO 3 (.mov (cI 0))]
 (.seq (.seq (.regd [⟨[pP (mV 4 0),
 pP (oO 5 (.nilck (.tmp 4))),
 qQ (lD 6 5),
 qQ (lD 7 1)], 0, [oO 8 (.call 81 [(.tmp 6), (.tmp 7)]),
 oO 9 (.un .not (.tmp 8))]⟩])
 (.cond (.tmp 9)
 (aR [oO 3 (.mov (cI 4))]
 .ret)
 .skip))
 (aR [oO 3 (.mov (cI 0))]
 .ret)))
def g82 : Fn := ⟨2, 10, [.tmp 3], b82⟩
def b83 : AC :=
 (aR [oO 2 (.mov (cI 0))]
 (aR [mV 8 0,
 oO 9 (.len (.tmp 8)),
 oO 10 (.bin .leq (.tmp 9) (cI 96)),
 mV 3 10]
 (aR [oO 4 (.mov (.con (.int .u64 0)))]
 (.seq .skip
 (.seq (aR [mV 11 0,
 oO 12 (.len (.tmp 11)),
 oO 13 (.mov (cI 0))]
 (.block 0 (.loop (aR [oO 14 (.bin .lss (.tmp 13) (.tmp 12))]
 (.seq (.cond (.tmp 14)
 .skip
 (.exit 0))
 (.seq (.block 1 (aR [mV 15 13,
 oO 16 (.iaddr 3 (.tmp 11) (.tmp 13)),
 oO 17 (.load true 3 (.tmp 16)),
 oO 6 (.alloc (.agg [(.int .u64 0), (.int .u64 0), .nilS])),
 mV 5 15,
 oN (.store 3 (.tmp 6) (.tmp 17))]
 (aR [oO 18 (.faddr (.tmp 6) 1),
 lD 19 18,
 oO 20 (.bin .eql (.tmp 19) (.con (.int .u64 0))),
 mV 7 20]
 (aR [mV 21 3,
 mV 22 21,
 gO 23 22 true (.faddr (.tmp 6) 0),
 gO 24 22 true (.load false 1 (.tmp 23)),
 gO 25 22 true (.bin .gtr (.tmp 24) (.con (.int .u64 0))),
 oO 26 (.pick (.tmp 22) (.tmp 25) (.con (.bool false))),
 mV 27 26,
 gO 28 27 true (.faddr (.tmp 6) 0),
 gO 29 27 true (.load false 1 (.tmp 28)),
 gO 30 27 true (.mov (.tmp 4)),
 gO 31 27 true (.bin .geq (.tmp 29) (.tmp 30)),
 oO 32 (.pick (.tmp 27) (.tmp 31) (.con (.bool false))),
 mV 33 32,
 gO 34 33 true (.faddr (.tmp 6) 0),
 gO 35 33 true (.load false 1 (.tmp 34)),
 gO 36 33 true (.bin .leq (.tmp 35) (.con (.int .u64 1099511627776))),
 oO 37 (.pick (.tmp 33) (.tmp 36) (.con (.bool false))),
 mV 38 37,
 gO 39 38 true (.faddr (.tmp 6) 1),
 gO 40 38 true (.load false 1 (.tmp 39)),
 gO 41 38 true (.bin .leq (.tmp 40) (.con (.int .u64 1099511627776))),
 oO 42 (.pick (.tmp 38) (.tmp 41) (.con (.bool false))),
 mV 43 42,
 gO 44 43 true (.mov (.tmp 7)),
 gO 45 43 true (.mov (.tmp 44)),
 gO 46 45 false (.faddr (.tmp 6) 1),
 gO 47 45 false (.load false 1 (.tmp 46)),
 gO 48 45 false (.faddr (.tmp 6) 0),
 gO 49 45 false (.load false 1 (.tmp 48)),
 gO 50 45 false (.bin .gtr (.tmp 47) (.tmp 49)),
 gO 51 43 true (.pick (.tmp 45) (.con (.bool true)) (.tmp 50)),
 oO 52 (.pick (.tmp 43) (.tmp 51) (.con (.bool false))),
 mV 3 52]
 (.seq (.regd [⟨[], 0, [mV 53 3,
 mV 54 53]⟩,
 ⟨[pP (gO 55 54 true (.faddr (.tmp 6) 2)),
 qQ (gO 56 54 true (.load false 1 (.tmp 55))),
 pP (gO 57 54 true (.mov (.tmp 0))),
 pP (gO 58 54 true (.iaddr 3 (.tmp 57) (cI 0))),
 pP (gO 59 54 true (.faddr (.tmp 58) 2)),
 qQ (gO 60 54 true (.load false 1 (.tmp 59))),
 pP (gO 61 54 true (.len (.tmp 60)))], 0, [gO 62 54 true (.call 80 [(.tmp 56), (.tmp 61)]),
 gO 63 54 true (.bin .eql (.tmp 62) (cI 0)),
 oO 64 (.pick (.tmp 54) (.tmp 63) (.con (.bool false))),
 mV 65 64,
 gO 66 65 true (.mov (.tmp 7)),
 gO 67 65 true (.un .not (.tmp 66)),
 gO 68 65 true (.mov (.tmp 67))]⟩,
 ⟨[pP (gO 69 68 false (.mov (.tmp 5))),
 pP (gO 70 68 false (.mov (.tmp 0))),
 pP (gO 71 68 false (.len (.tmp 70))),
 pP (gO 72 68 false (.bin .sub (.tmp 71) (cI 1)))], 0, [gO 73 68 false (.bin .eql (.tmp 69) (.tmp 72)),
 gO 74 65 true (.pick (.tmp 68) (.con (.bool true)) (.tmp 73)),
 oO 75 (.pick (.tmp 65) (.tmp 74) (.con (.bool false))),
 mV 3 75]⟩])
 (.seq (aR [mV 76 3,
 oO 77 (.un .not (.tmp 76))]
 (.cond (.tmp 77)
 (.exit 0)
 .skip))
 (.reg [oO 78 (.faddr (.tmp 6) 1),
 lD 79 78,
 mV 4 79])))))))
 (.reg [oO 80 (.bin .add (.tmp 13) (cI 1)),
 mV 13 80])))))))
 (.seq (aR [mV 81 3,
 oO 82 (.un .not (.tmp 81))]
 (.cond (.tmp 82)
 (aR [oO 2 (.mov (cI 180))]
 .ret)
 .skip))
 (aR [oO 2 (.mov (cI 0))]
 .ret)))))))
def g83 : Fn := ⟨1, 83, [.tmp 2], b83⟩
def b84 : AC :=
 (aR [oO 2 (.box (.tmp 0)),
 oO 3 (.mov (.con (.bool false)))]
 (aR [oO 4 (.faddr (.tmp 2) 1),
 lD 5 4,
 oO 6 (.bin .neq (.tmp 5) (.con (.int .u64 0))),
 mV 7 6,
 gO 8 7 true (.faddr (.tmp 2) 1),
 gO 9 7 true (.load false 1 (.tmp 8)),
 gO 10 7 true (.load false 1 (.tmp 1)),
 gO 11 7 true (.bin .leq (.tmp 9) (.tmp 10)),
 oO 12 (.pick (.tmp 7) (.tmp 11) (.con (.bool false))),
 mV 3 12]
 .ret))
def g84 : Fn := ⟨2, 13, [.tmp 3], b84⟩
def b85 : AC :=
 (aR [oO 2 (.box (.tmp 0)),
 oO 3 (.box (.tmp 1)),
 oO 4 (.mov (.con .nilF))]
 (aR [oO 5 (.mkfn 107 [(.tmp 2), (.tmp 3)]),
 mV 4 5]
 .ret))
def g85 : Fn := ⟨2, 6, [.tmp 4], b85⟩
def b86 : AC :=
 (aR [oO 2 (.mov (.con .nilS))]
 (aR [mV 5 0,
 oO 6 (.call 108 [(.tmp 5)]),
 mV 3 6]
 (.seq (aR [mV 7 3,
 oO 8 (.len (.tmp 7)),
 oO 9 (.mov (cI 0))]
 (.block 0 (.loop (aR [oO 10 (.bin .lss (.tmp 9) (.tmp 8))]
 (.seq (.cond (.tmp 10)
 .skip
 (.exit 0))
 (.seq (.block 1 (aR [mV 11 9,
 mV 4 11]
 (.reg [mV 12 3,
 mV 13 4,
 mV 14 3,
 mV 15 4,
 oO 16 (.iaddr 3 (.tmp 14) (.tmp 15)),
 oO 17 (.faddr (.tmp 16) 2),
 lD 18 17,
 oO 19 (.call 74 [(.tmp 18)]),
 oO 20 (.iaddr 3 (.tmp 12) (.tmp 13)),
 oO 21 (.faddr (.tmp 20) 2),
 oN (.store 1 (.tmp 21) (.tmp 19))])))
 (.reg [oO 22 (.bin .add (.tmp 9) (cI 1)),
 mV 9 22])))))))
 (aR [mV 23 3,
 mV 2 23]
 .ret))))
def g86 : Fn := ⟨1, 24, [.tmp 2], b86⟩
def b87 : AC :=
 (aR [oO 2 (.box (.tmp 0)),
 oO 3 (.mov (.con (.bool false)))]
 (aR [lD 4 1,
 oO 5 (.load true 3 (.tmp 2)),
 oO 6 (.callv (.tmp 4) [(.tmp 5)]),
 oO 7 (.un .not (.tmp 6)),
 mV 3 7]
 .ret))
def g87 : Fn := ⟨2, 8, [.tmp 3], b87⟩
def b88 : AC :=
 (aR [oO 4 (.mov (cI 0))]
 (.seq (aR [mV 6 0,
 oO 7 (.len (.tmp 6)),
 oO 8 (.mov (cI 0))]
 (.block 0 (.loop (aR [oO 9 (.bin .lss (.tmp 8) (.tmp 7))]
 (.seq (.cond (.tmp 9)
 .skip
 (.exit 0))
 (.seq (.block 1 (aR [mV 10 8,
 mV 5 10]
 (aR [mV 11 1,
 mV 12 0,
 mV 13 5,
 oO 14 (.iaddr 3 (.tmp 12) (.tmp 13)),
 oO 15 (.load true 3 (.tmp 14)),
 oO 16 (.callv (.tmp 11) [(.tmp 15)])]
 (.cond (.tmp 16)
 (aR [mV 17 5,
 mV 4 17]
 .ret)
 .skip))))
 (.reg [oO 18 (.bin .add (.tmp 8) (cI 1)),
 mV 8 18])))))))
 (aR [oO 4 (.mov (cI (-1)))]
 .ret)))
def g88 : Fn := ⟨2, 19, [.tmp 4], b88⟩
def b89 : AC :=
 (aR [oO 2 (.box (.tmp 0)),
 oO 3 (.mov (.con (.bool false)))]
 (aR [oO 4 (.load true 3 (.tmp 2)),
 lD 5 1,
 oO 6 (.call 90 [(.tmp 4), (.tmp 5)]),
 mV 3 6]
 .ret))
def g89 : Fn := ⟨2, 7, [.tmp 3], b89⟩
def b90 : AC :=
 (aR [oO 2 (.box (.tmp 0)),
 oO 4 (.mov (.con (.bool false)))]
 (aR [oO 5 (.faddr (.tmp 2) 0),
 lD 6 5,
 mV 7 1,
 oO 8 (.bin .leq (.tmp 6) (.tmp 7)),
 mV 9 8,
 gO 10 9 true (.faddr (.tmp 2) 1),
 gO 11 9 true (.load false 1 (.tmp 10)),
 gO 12 9 true (.bin .eql (.tmp 11) (.con (.int .u64 0))),
 gO 13 9 true (.mov (.tmp 12)),
 gO 14 13 false (.mov (.tmp 1)),
 gO 15 13 false (.faddr (.tmp 2) 1),
 gO 16 13 false (.load false 1 (.tmp 15)),
 gO 17 13 false (.bin .lss (.tmp 14) (.tmp 16)),
 gO 18 9 true (.pick (.tmp 13) (.con (.bool true)) (.tmp 17)),
 oO 19 (.pick (.tmp 9) (.tmp 18) (.con (.bool false))),
 mV 4 19]
 .ret))
def g90 : Fn := ⟨2, 20, [.tmp 4], b90⟩
def b91 : AC :=
 (aR [oO 4 (.mov (.con (.bool false)))]
 (.seq (aR [mV 6 0,
 oO 7 (.len (.tmp 6)),
 mV 8 1,
 oO 9 (.len (.tmp 8)),
 oO 10 (.bin .neq (.tmp 7) (.tmp 9))]
 (.cond (.tmp 10)
 (aR [oO 4 (.mov (.con (.bool false)))]
 .ret)
 .skip))
 (.seq (aR [mV 11 0,
 oO 12 (.len (.tmp 11)),
 oO 13 (.mov (cI 0))]
 (.block 0 (.loop (aR [oO 14 (.bin .lss (.tmp 13) (.tmp 12))]
 (.seq (.cond (.tmp 14)
 .skip
 (.exit 0))
 (.seq (.block 1 (aR [mV 15 13,
 mV 5 15]
 (.seq (.regd [⟨[pP (mV 16 0),
 pP (mV 17 5),
 pP (oO 18 (.iaddr 1 (.tmp 16) (.tmp 17))),
 qQ (lD 19 18),
 pP (mV 20 1),
 pP (mV 21 5),
 pP (oO 22 (.iaddr 1 (.tmp 20) (.tmp 21))),
 qQ (lD 23 22)], 0, [oO 24 (.bin .neq (.tmp 19) (.tmp 23))]⟩])
 (.cond (.tmp 24)
 (aR [oO 4 (.mov (.con (.bool false)))]
 .ret)
 .skip))))
 (.reg [oO 25 (.bin .add (.tmp 13) (cI 1)),
 mV 13 25])))))))
 (aR [oO 4 (.mov (.con (.bool true)))]
 .ret))))
def g91 : Fn := ⟨2, 26, [.tmp 4], b91⟩
def b92 : AC :=
 (aR [oO 1 (.box (.tmp 0)),
 oO 2 (.mov (.con (.bool false)))]
 (aR [oO 3 (.faddr (.tmp 1) 0),
 lD 4 3,
 oO 5 (.call 70 [(.tmp 4)]),
 mV 6 5,
 gO 7 6 true (.faddr (.tmp 1) 2),
 gO 8 6 true (.load false 1 (.tmp 7)),
 gO 9 6 true (.mov (.tmp 8)),
 gO 10 9 true (.faddr (.tmp 1) 3),
 gO 11 9 true (.load false 1 (.tmp 10)),
 gO 12 9 true (.len (.tmp 11)),
 gO 13 9 true (.bin .eql (.tmp 12) (cI 0)),
 gO 14 6 true (.pick (.tmp 9) (.tmp 13) (.con (.bool false))),
 gO 15 6 true (.mov (.tmp 14)),
 gO 16 15 false (.faddr (.tmp 1) 2),
 gO 17 15 false (.load false 1 (.tmp 16)),
 gO 18 15 false (.un .not (.tmp 17)),
 gO 19 15 false (.mov (.tmp 18)),
 gO 20 19 true (.faddr (.tmp 1) 3),
 gO 21 19 true (.load false 1 (.tmp 20)),
 gO 22 19 true (.call 71 [(.tmp 21)]),
 gO 23 19 true (.bin .eql (.tmp 22) (cI 0)),
 gO 24 15 false (.pick (.tmp 19) (.tmp 23) (.con (.bool false))),
 gO 25 6 true (.pick (.tmp 15) (.con (.bool true)) (.tmp 24)),
 oO 26 (.pick (.tmp 6) (.tmp 25) (.con (.bool false))),
 mV 2 26]
 .ret))
def g92 : Fn := ⟨1, 27, [.tmp 2], b92⟩
def b93 : AC :=
 (aR [oO 2 (.box (.tmp 0)),
 oO 3 (.box (.tmp 1)),
 oO 4 (.mov (cI 0))]
 (.seq (.regd [⟨[pP (oO 5 (.faddr (.tmp 2) 0)),
 qQ (lD 6 5),
 pP (oO 7 (.faddr (.tmp 3) 0)),
 qQ (lD 8 7),
 qQ (oO 9 (.call 110 [(.tmp 6), (.tmp 8)])),
 pP (oO 10 (.faddr (.tmp 2) 1)),
 qQ (lD 11 10),
 pP (oO 12 (.faddr (.tmp 3) 1)),
 qQ (lD 13 12)], 0, [oO 14 (.call 77 [(.tmp 11), (.tmp 13)]),
 oO 15 (.lit 1 [(.tmp 9), (.tmp 14)]),
 oO 16 (.call 109 [(.tmp 15)]),
 mV 4 16]⟩])
 .ret))
def g93 : Fn := ⟨2, 17, [.tmp 4], b93⟩
def b94 : AC :=
 (aR [oO 4 (.mov (cI 0))]
 (.seq (aR [mV 6 0,
 oO 7 (.len (.tmp 6)),
 oO 8 (.mov (cI 0))]
 (.block 0 (.loop (aR [oO 9 (.bin .lss (.tmp 8) (.tmp 7))]
 (.seq (.cond (.tmp 9)
 .skip
 (.exit 0))
 (.seq (.block 1 (aR [mV 10 8,
 mV 5 10]
 (aR [mV 11 1,
 mV 12 0,
 mV 13 5,
 oO 14 (.iaddr 5 (.tmp 12) (.tmp 13)),
 oO 15 (.load true 5 (.tmp 14)),
 oO 16 (.callv (.tmp 11) [(.tmp 15)])]
 (.cond (.tmp 16)
 (aR [mV 17 5,
 mV 4 17]
 .ret)
 .skip))))
 (.reg [oO 18 (.bin .add (.tmp 8) (cI 1)),
 mV 8 18])))))))
 (aR [oO 4 (.mov (cI (-1)))]
 .ret)))
def g94 : Fn := ⟨2, 19, [.tmp 4], b94⟩
def b95 : AC :=
 (aR [oO 3 (.box (.tmp 0)),
 oO 4 (.mov (.con (.bool false)))]
 (aR [oO 5 (.faddr (.tmp 3) 1),
 oO 6 (.faddr (.tmp 5) 0),
 lD 7 6,
 lD 8 1,
 oO 9 (.bin .eql (.tmp 7) (.tmp 8)),
 mV 10 9,
 gO 11 10 true (.faddr (.tmp 3) 0),
 gO 12 10 true (.load false 1 (.tmp 11)),
 gO 13 10 true (.load false 1 (.tmp 2)),
 gO 14 10 true (.bin .leq (.tmp 12) (.tmp 13)),
 oO 15 (.pick (.tmp 10) (.tmp 14) (.con (.bool false))),
 mV 4 15]
 .ret))
def g95 : Fn := ⟨3, 16, [.tmp 4], b95⟩
def b96 : AC :=
 (aR [oO 2 (.box (.tmp 0)),
 oO 3 (.box (.tmp 1)),
 oO 4 (.mov (cI 0))]
 (aR [oO 5 (.faddr (.tmp 2) 0),
 lD 6 5,
 oO 7 (.faddr (.tmp 3) 0),
 lD 8 7,
 oO 9 (.call 77 [(.tmp 6), (.tmp 8)]),
 mV 4 9]
 .ret))
def g96 : Fn := ⟨2, 10, [.tmp 4], b96⟩
def b97 : AC :=
 (aR [lD 6 1,
 oO 7 (.len (.tmp 6)),
 oO 8 (.mov (cI 0))]
 (.block 0 (.loop (aR [oO 9 (.bin .lss (.tmp 8) (.tmp 7))]
 (.seq (.cond (.tmp 9)
 .skip
 (.exit 0))
 (.seq (.block 1 (aR [oO 10 (.iaddr 5 (.tmp 6) (.tmp 8)),
 oO 11 (.load true 5 (.tmp 10)),
 oO 5 (.alloc (.agg [(.int .u64 0), (.int .i64 0), (.int .u64 0), (.bool false), .nilS])),
 oN (.store 5 (.tmp 5) (.tmp 11))]
 (aR [lD 12 2,
 oO 13 (.load true 5 (.tmp 5)),
 oO 14 (.callv (.tmp 12) [(.tmp 13)]),
 mV 15 14,
 gO 16 15 true (.mov (.tmp 0)),
 gO 17 15 true (.load true 5 (.tmp 5)),
 gO 18 15 true (.callv (.tmp 16) [(.tmp 17)]),
 gO 19 15 true (.un .not (.tmp 18)),
 oO 20 (.pick (.tmp 15) (.tmp 19) (.con (.bool false)))]
 (.cond (.tmp 20)
 .ret
 .skip))))
 (.reg [oO 21 (.bin .add (.tmp 8) (cI 1)),
 mV 8 21])))))))
def g97 : Fn := ⟨3, 22, [], b97⟩
def b98 : AC :=
 (aR [lD 4 1,
 oO 5 (.len (.tmp 4)),
 oO 6 (.bin .sub (.tmp 5) (cI 1)),
 mV 3 6]
 (.block 0 (.loop (.seq (aR [mV 7 3,
 oO 8 (.bin .geq (.tmp 7) (cI 0))]
 (.cond (.tmp 8)
 .skip
 (.exit 0)))
 (.seq (.block 1 (aR [mV 11 0,
 mV 12 3,
 lD 13 1,
 mV 14 3,
 oO 15 (.iaddr 5 (.tmp 13) (.tmp 14)),
 oO 16 (.load true 5 (.tmp 15)),
 oO 17 (.callv (.tmp 11) [(.tmp 12), (.tmp 16)]),
 oO 18 (.un .not (.tmp 17))]
 (.cond (.tmp 18)
 .ret
 .skip)))
 (.reg [mV 9 3,
 oO 10 (.bin .sub (.tmp 9) (cI 1)),
 mV 3 10]))))))
def g98 : Fn := ⟨2, 19, [], b98⟩
def b100 : AC :=
 (aR [oO 2 (.mov (.con (.bool false)))]
 (aR [mV 3 0,
 oO 4 (.bin .lss (.tmp 3) (.con (.int .i32 (-1073741823)))),
 mV 5 4,
 gO 6 5 false (.mov (.tmp 0)),
 gO 7 5 false (.bin .gtr (.tmp 6) (.con (.int .i32 1073741823))),
 oO 8 (.pick (.tmp 5) (.con (.bool true)) (.tmp 7)),
 mV 2 8]
 .ret))
def g100 : Fn := ⟨1, 9, [.tmp 2], b100⟩
def b101 : AC :=
 (aR [oO 4 (.mov (.con (.bool false)))]
 (aR [mV 5 0,
 mV 6 1,
 oO 7 (.call 111 [(.tmp 5), (.tmp 6)]),
 oO 8 (.bin .geq (.tmp 7) (cI 0)),
 mV 4 8]
 .ret))
def g101 : Fn := ⟨2, 9, [.tmp 4], b101⟩
def b103 : AC :=
 (aR [oO 10 (.mov (.con (.bool true)))]
 (aR [oO 11 (.mov (.con (.bool true)))]
 (.block 0 (.loop (.block 1 (aR [mV 21 2,
 mV 22 1,
 oO 23 (.bin .sub (.tmp 21) (.tmp 22)),
 mV 12 23]
 (.seq (aR [mV 24 12,
 oO 25 (.bin .leq (.tmp 24) (cI 12))]
 (.cond (.tmp 25)
 (aR [mV 26 0,
 mV 27 1,
 mV 28 2,
 mV 29 4,
 oO 30 (.call 112 [(.tmp 26), (.tmp 27), (.tmp 28), (.tmp 29)])]
 .ret)
 .skip))
 (.seq (aR [mV 31 3,
 oO 32 (.bin .eql (.tmp 31) (cI 0))]
 (.cond (.tmp 32)
 (aR [mV 33 0,
 mV 34 1,
 mV 35 2,
 mV 36 4,
 oO 37 (.call 113 [(.tmp 33), (.tmp 34), (.tmp 35), (.tmp 36)])]
 .ret)
 .skip))
 (.seq (aR [mV 38 10,
 oO 39 (.un .not (.tmp 38))]
 (.cond (.tmp 39)
 (aR [mV 40 0,
 mV 41 1,
 mV 42 2,
 mV 43 4,
 oO 44 (.call 114 [(.tmp 40), (.tmp 41), (.tmp 42), (.tmp 43)])]
 (.reg [mV 45 3,
 oO 46 (.bin .sub (.tmp 45) (cI 1)),
 mV 3 46]))
 .skip))
 (aR [mV 48 0,
 mV 49 1,
 mV 50 2,
 mV 51 4,
 oO 52 (.call 115 [(.tmp 48), (.tmp 49), (.tmp 50), (.tmp 51)]),
 mV 47 52,
 oO 53 (.ext (.tmp 47) 0),
 oO 54 (.ext (.tmp 47) 1),
 mV 13 53,
 mV 14 54]
 (.seq (aR [mV 55 14,
 oO 56 (.bin .eql (.tmp 55) (cI 2))]
 (.cond (.tmp 56)
 (aR [mV 57 0,
 mV 58 1,
 mV 59 2,
 mV 60 4,
 oO 61 (.call 116 [(.tmp 57), (.tmp 58), (.tmp 59), (.tmp 60)])]
 (aR [mV 62 2,
 oO 63 (.bin .sub (.tmp 62) (cI 1)),
 mV 64 13,
 mV 65 1,
 oO 66 (.bin .sub (.tmp 64) (.tmp 65)),
 oO 67 (.bin .sub (.tmp 63) (.tmp 66)),
 mV 13 67]
 (.reg [oO 14 (.mov (cI 1))])))
 .skip))
 (.seq (aR [mV 68 10,
 mV 69 68,
 gO 70 69 true (.mov (.tmp 11)),
 oO 71 (.pick (.tmp 69) (.tmp 70) (.con (.bool false))),
 mV 72 71,
 gO 73 72 true (.mov (.tmp 14)),
 gO 74 72 true (.bin .eql (.tmp 73) (cI 1)),
 oO 75 (.pick (.tmp 72) (.tmp 74) (.con (.bool false)))]
 (.cond (.tmp 75)
 (aR [mV 76 0,
 mV 77 1,
 mV 78 2,
 mV 79 4,
 oO 80 (.call 117 [(.tmp 76), (.tmp 77), (.tmp 78), (.tmp 79)])]
 (.cond (.tmp 80)
 .ret
 .skip))
 .skip))
 (.seq (.seq (.regd [⟨[], 0, [mV 81 1,
 oO 82 (.bin .gtr (.tmp 81) (cI 0)),
 mV 83 82]⟩,
 ⟨[pP (gO 84 83 true (.mov (.tmp 4))),
 pP (gO 85 83 true (.mov (.tmp 0))),
 pP (gO 86 83 true (.mov (.tmp 1))),
 pP (gO 87 83 true (.bin .sub (.tmp 86) (cI 1))),
 pP (gO 88 83 true (.iaddr 2 (.tmp 85) (.tmp 87))),
 qQ (gO 89 83 true (.load true 2 (.tmp 88))),
 pP (gO 90 83 true (.mov (.tmp 0))),
 pP (gO 91 83 true (.mov (.tmp 13))),
 pP (gO 92 83 true (.iaddr 2 (.tmp 90) (.tmp 91))),
 qQ (gO 93 83 true (.load true 2 (.tmp 92)))], 0, [gO 94 83 true (.callv (.tmp 84) [(.tmp 89), (.tmp 93)]),
 gO 95 83 true (.bin .lss (.tmp 94) (cI 0)),
 gO 96 83 true (.un .not (.tmp 95)),
 oO 97 (.pick (.tmp 83) (.tmp 96) (.con (.bool false)))]⟩])
 (.cond (.tmp 97)
 (aR [mV 98 0,
 mV 99 1,
 mV 100 2,
 mV 101 13,
 mV 102 4,
 oO 103 (.call 118 [(.tmp 98), (.tmp 99), (.tmp 100), (.tmp 101), (.tmp 102)]),
 mV 15 103]
 (aR [mV 104 15,
 mV 1 104]
 (.exit 1)))
 .skip))
 (aR [mV 106 0,
 mV 107 1,
 mV 108 2,
 mV 109 13,
 mV 110 4,
 oO 111 (.call 119 [(.tmp 106), (.tmp 107), (.tmp 108), (.tmp 109), (.tmp 110)]),
 mV 105 111,
 oO 112 (.ext (.tmp 105) 0),
 oO 113 (.ext (.tmp 105) 1),
 mV 16 112,
 mV 17 113]
 (aR [mV 114 17,
 mV 11 114]
 (aR [mV 115 16,
 mV 116 1,
 oO 117 (.bin .sub (.tmp 115) (.tmp 116)),
 mV 118 2,
 mV 119 16,
 oO 120 (.bin .sub (.tmp 118) (.tmp 119)),
 mV 18 117,
 mV 19 120]
 (aR [mV 121 12,
 oO 122 (.bin .quo (.tmp 121) (cI 8)),
 mV 20 122]
 (aR [mV 123 18,
 mV 124 19,
 oO 125 (.bin .lss (.tmp 123) (.tmp 124))]
 (.cond (.tmp 125)
 (aR [mV 126 18,
 mV 127 20,
 oO 128 (.bin .geq (.tmp 126) (.tmp 127)),
 mV 10 128]
 (aR [mV 129 0,
 mV 130 1,
 mV 131 16,
 mV 132 3,
 mV 133 4,
 oO 134 (.call 103 [(.tmp 129), (.tmp 130), (.tmp 131), (.tmp 132), (.tmp 133)])]
 (.reg [mV 135 16,
 oO 136 (.bin .add (.tmp 135) (cI 1)),
 mV 1 136])))
 (aR [mV 137 19,
 mV 138 20,
 oO 139 (.bin .geq (.tmp 137) (.tmp 138)),
 mV 10 139]
 (aR [mV 140 0,
 mV 141 16,
 oO 142 (.bin .add (.tmp 141) (cI 1)),
 mV 143 2,
 mV 144 3,
 mV 145 4,
 oO 146 (.call 103 [(.tmp 140), (.tmp 142), (.tmp 143), (.tmp 144), (.tmp 145)])]
 (.reg [mV 147 16,
 mV 2 147]))))))))))))))))))))))
def g103 : Fn := ⟨5, 148, [], b103⟩
def b104 : AC :=
 (aR [oO 2 (.mov (cI 0))]
 (.seq (.cond (.con (.bool false))
 (aR [mV 3 0,
 oO 4 (.conv .u32 (.tmp 3)),
 oO 5 (.call 120 [(.tmp 4)]),
 mV 2 5]
 .ret)
 .skip)
 (aR [mV 6 0,
 oO 7 (.call 121 [(.tmp 6)]),
 mV 2 7]
 .ret)))
def g104 : Fn := ⟨1, 8, [.tmp 2], b104⟩
def b105 : AC :=
 (aR [oO 2 (.mov (.con (.bool false)))]
 (aR [mV 3 0,
 mV 4 0,
 oO 5 (.bin .neq (.tmp 3) (.tmp 4)),
 mV 2 5]
 .ret))
def g105 : Fn := ⟨1, 6, [.tmp 2], b105⟩
def b106 : AC :=
 (aR [oO 2 (.mov (.con (.int .u64 0)))]
 (.seq (aR [mV 4 0,
 oO 5 (.len (.tmp 4)),
 oO 6 (.bin .eql (.tmp 5) (cI 0))]
 (.cond (.tmp 6)
 (aR [oO 2 (.mov (.con (.int .u64 0)))]
 .ret)
 .skip))
 (aR [mV 7 0,
 mV 8 0,
 oO 9 (.len (.tmp 8)),
 oO 10 (.bin .sub (.tmp 9) (cI 1)),
 oO 11 (.iaddr 3 (.tmp 7) (.tmp 10)),
 oO 12 (.load true 3 (.tmp 11)),
 oO 3 (.alloc (.agg [(.int .u64 0), (.int .u64 0), .nilS])),
 oN (.store 3 (.tmp 3) (.tmp 12))]
 (aR [oO 13 (.faddr (.tmp 3) 0),
 lD 14 13,
 oO 15 (.faddr (.tmp 3) 1),
 lD 16 15,
 oO 17 (.max [(.tmp 14), (.tmp 16)]),
 mV 2 17]
 .ret))))
def g106 : Fn := ⟨1, 18, [.tmp 2], b106⟩
def b107 : AC :=
 (aR [lD 6 1,
 oO 7 (.len (.tmp 6)),
 oO 8 (.mov (cI 0))]
 (.block 0 (.loop (aR [oO 9 (.bin .lss (.tmp 8) (.tmp 7))]
 (.seq (.cond (.tmp 9)
 .skip
 (.exit 0))
 (.seq (.block 1 (aR [oO 10 (.iaddr 3 (.tmp 6) (.tmp 8)),
 oO 11 (.load true 3 (.tmp 10)),
 oO 5 (.alloc (.agg [(.int .u64 0), (.int .u64 0), .nilS])),
 oN (.store 3 (.tmp 5) (.tmp 11))]
 (aR [lD 12 2,
 oO 13 (.load true 3 (.tmp 5)),
 oO 14 (.callv (.tmp 12) [(.tmp 13)]),
 mV 15 14,
 gO 16 15 true (.mov (.tmp 0)),
 gO 17 15 true (.load true 3 (.tmp 5)),
 gO 18 15 true (.callv (.tmp 16) [(.tmp 17)]),
 gO 19 15 true (.un .not (.tmp 18)),
 oO 20 (.pick (.tmp 15) (.tmp 19) (.con (.bool false)))]
 (.cond (.tmp 20)
 .ret
 .skip))))
 (.reg [oO 21 (.bin .add (.tmp 8) (cI 1)),
 mV 8 21])))))))
def g107 : Fn := ⟨3, 22, [], b107⟩
def b108 : AC :=
 (aR [oO 2 (.mov (.con .nilS))]
 (.seq (aR [mV 3 0,
 oO 4 (.eqN false (.tmp 3))]
 (.cond (.tmp 4)
 (aR [oO 2 (.mov (.con .nilS))]
 .ret)
 .skip))
 (aR [oO 5 (.lit 3 []),
 mV 6 0,
 oO 7 (.append 3 40 (.tmp 5) (.tmp 6)),
 mV 2 7]
 .ret)))
def g108 : Fn := ⟨1, 8, [.tmp 2], b108⟩
def b109 : AC :=
 (aR [oO 2 (.mov (cI 0))]
 (aR [oO 3 (.mov (cI 0))]
 (.seq (aR [mV 6 0,
 oO 7 (.len (.tmp 6)),
 oO 8 (.mov (cI 0))]
 (.block 0 (.loop (aR [oO 9 (.bin .lss (.tmp 8) (.tmp 7))]
 (.seq (.cond (.tmp 9)
 .skip
 (.exit 0))
 (.seq (.block 1 (aR [oO 10 (.iaddr 1 (.tmp 6) (.tmp 8)),
 lD 11 10,
 mV 5 11]
 (aR [mV 12 5,
 mV 13 3,
 oO 14 (.bin .neq (.tmp 12) (.tmp 13))]
 (.cond (.tmp 14)
 (aR [mV 15 5,
 mV 2 15]
 .ret)
 .skip))))
 (.reg [oO 16 (.bin .add (.tmp 8) (cI 1)),
 mV 8 16])))))))
 (aR [mV 17 3,
 mV 2 17]
 .ret))))
def g109 : Fn := ⟨1, 18, [.tmp 2], b109⟩
def b110 : AC :=
 (aR [oO 4 (.mov (cI 0))]
 (aR [mV 7 0,
 oO 8 (.call 122 [(.tmp 7)]),
 mV 5 8]
 (aR [mV 9 1,
 oO 10 (.call 122 [(.tmp 9)]),
 mV 6 10]
 (.seq (aR [mV 11 5]
 (.cond (.tmp 11)
 (.seq (aR [mV 12 6]
 (.cond (.tmp 12)
 (aR [oO 4 (.mov (cI 0))]
 .ret)
 .skip))
 (aR [oO 4 (.mov (cI (-1)))]
 .ret))
 .skip))
 (.seq (aR [mV 13 6]
 (.cond (.tmp 13)
 (aR [oO 4 (.mov (cI 1))]
 .ret)
 .skip))
 (.seq (aR [mV 14 0,
 mV 15 1,
 oO 16 (.bin .lss (.tmp 14) (.tmp 15))]
 (.cond (.tmp 16)
 (aR [oO 4 (.mov (cI (-1)))]
 .ret)
 .skip))
 (.seq (aR [mV 17 0,
 mV 18 1,
 oO 19 (.bin .gtr (.tmp 17) (.tmp 18))]
 (.cond (.tmp 19)
 (aR [oO 4 (.mov (cI 1))]
 .ret)
 .skip))
 (aR [oO 4 (.mov (cI 0))]
 .ret))))))))
def g110 : Fn := ⟨2, 20, [.tmp 4], b110⟩
def b111 : AC :=
 (aR [oO 4 (.mov (cI 0))]
 (.seq (aR [mV 6 0,
 oO 7 (.len (.tmp 6)),
 oO 8 (.mov (cI 0))]
 (.block 0 (.loop (aR [oO 9 (.bin .lss (.tmp 8) (.tmp 7))]
 (.seq (.cond (.tmp 9)
 .skip
 (.exit 0))
 (.seq (.block 1 (aR [mV 10 8,
 mV 5 10]
 (aR [mV 11 1,
 mV 12 0,
 mV 13 5,
 oO 14 (.iaddr 1 (.tmp 12) (.tmp 13)),
 lD 15 14,
 oO 16 (.callv (.tmp 11) [(.tmp 15)])]
 (.cond (.tmp 16)
 (aR [mV 17 5,
 mV 4 17]
 .ret)
 .skip))))
 (.reg [oO 18 (.bin .add (.tmp 8) (cI 1)),
 mV 8 18])))))))
 (aR [oO 4 (.mov (cI (-1)))]
 .ret)))
def g111 : Fn := ⟨2, 19, [.tmp 4], b111⟩
def b112 : AC :=
 (aR [mV 10 1,
 oO 11 (.bin .add (.tmp 10) (cI 1)),
 mV 8 11]
 (.block 0 (.loop (.seq (aR [mV 12 8,
 mV 13 2,
 oO 14 (.bin .lss (.tmp 12) (.tmp 13))]
 (.cond (.tmp 14)
 .skip
 (.exit 0)))
 (.seq (.block 1 (aR [mV 17 8,
 mV 9 17]
 (.block 2 (.loop (.seq (.seq (.regd [⟨[pP (mV 18 9),
 pP (mV 19 1)], 0, [oO 20 (.bin .gtr (.tmp 18) (.tmp 19)),
 mV 21 20]⟩,
 ⟨[pP (gO 22 21 true (.mov (.tmp 3))),
 pP (gO 23 21 true (.mov (.tmp 0))),
 pP (gO 24 21 true (.mov (.tmp 9))),
 pP (gO 25 21 true (.iaddr 2 (.tmp 23) (.tmp 24))),
 qQ (gO 26 21 true (.load true 2 (.tmp 25))),
 pP (gO 27 21 true (.mov (.tmp 0))),
 pP (gO 28 21 true (.mov (.tmp 9))),
 pP (gO 29 21 true (.bin .sub (.tmp 28) (cI 1))),
 pP (gO 30 21 true (.iaddr 2 (.tmp 27) (.tmp 29))),
 qQ (gO 31 21 true (.load true 2 (.tmp 30)))], 0, [gO 32 21 true (.callv (.tmp 22) [(.tmp 26), (.tmp 31)]),
 gO 33 21 true (.bin .lss (.tmp 32) (cI 0)),
 oO 34 (.pick (.tmp 21) (.tmp 33) (.con (.bool false)))]⟩])
 (.cond (.tmp 34)
 .skip
 (.exit 2)))
 (.seq (.block 3 (.regd [⟨[pP (mV 37 0),
 pP (mV 38 9),
 pP (mV 39 0),
 pP (mV 40 9),
 pP (oO 41 (.bin .sub (.tmp 40) (cI 1))),
 pP (mV 42 0),
 pP (mV 43 9),
 pP (oO 44 (.bin .sub (.tmp 43) (cI 1))),
 pP (oO 45 (.iaddr 2 (.tmp 42) (.tmp 44))),
 qQ (oO 46 (.load true 2 (.tmp 45))),
 pP (mV 47 0),
 pP (mV 48 9),
 pP (oO 49 (.iaddr 2 (.tmp 47) (.tmp 48))),
 qQ (oO 50 (.load true 2 (.tmp 49))),
 pP (oO 51 (.iaddr 2 (.tmp 37) (.tmp 38))),
 ⟨oN (.store 2 (.tmp 51) (.tmp 46)), false, true, false, 0, [], none⟩], 0, [oO 52 (.iaddr 2 (.tmp 39) (.tmp 41)),
 oN (.store 2 (.tmp 52) (.tmp 50))]⟩]))
 (.reg [mV 35 9,
 oO 36 (.bin .sub (.tmp 35) (cI 1)),
 mV 9 36])))))))
 (.reg [mV 15 8,
 oO 16 (.bin .add (.tmp 15) (cI 1)),
 mV 8 16]))))))
def g112 : Fn := ⟨4, 53, [], b112⟩
def b113 : AC :=
 (aR [mV 13 1,
 mV 8 13]
 (aR [oO 9 (.mov (cI 0))]
 (aR [mV 14 2,
 mV 15 1,
 oO 16 (.bin .sub (.tmp 14) (.tmp 15)),
 mV 10 16]
 (.seq (aR [mV 17 10,
 oO 18 (.bin .sub (.tmp 17) (cI 1)),
 oO 19 (.bin .quo (.tmp 18) (cI 2)),
 mV 11 19]
 (.block 0 (.loop (.seq (aR [mV 20 11,
 oO 21 (.bin .geq (.tmp 20) (cI 0))]
 (.cond (.tmp 21)
 .skip
 (.exit 0)))
 (.seq (.block 1 (.reg [mV 24 0,
 mV 25 11,
 mV 26 10,
 mV 27 8,
 mV 28 3,
 oO 29 (.call 123 [(.tmp 24), (.tmp 25), (.tmp 26), (.tmp 27), (.tmp 28)])]))
 (.reg [mV 22 11,
 oO 23 (.bin .sub (.tmp 22) (cI 1)),
 mV 11 23]))))))
 (aR [mV 30 10,
 oO 31 (.bin .sub (.tmp 30) (cI 1)),
 mV 12 31]
 (.block 2 (.loop (.seq (aR [mV 32 12,
 oO 33 (.bin .geq (.tmp 32) (cI 0))]
 (.cond (.tmp 33)
 .skip
 (.exit 2)))
 (.seq (.block 3 (.seq (.regd [⟨[pP (mV 36 0),
 pP (mV 37 8),
 pP (mV 38 0),
 pP (mV 39 8),
 pP (mV 40 12),
 pP (oO 41 (.bin .add (.tmp 39) (.tmp 40))),
 pP (mV 42 0),
 pP (mV 43 8),
 pP (mV 44 12),
 pP (oO 45 (.bin .add (.tmp 43) (.tmp 44))),
 pP (oO 46 (.iaddr 2 (.tmp 42) (.tmp 45))),
 qQ (oO 47 (.load true 2 (.tmp 46))),
 pP (mV 48 0),
 pP (mV 49 8),
 pP (oO 50 (.iaddr 2 (.tmp 48) (.tmp 49))),
 qQ (oO 51 (.load true 2 (.tmp 50))),
 pP (oO 52 (.iaddr 2 (.tmp 36) (.tmp 37))),
 ⟨oN (.store 2 (.tmp 52) (.tmp 47)), false, true, false, 0, [], none⟩], 0, [oO 53 (.iaddr 2 (.tmp 38) (.tmp 41)),
 oN (.store 2 (.tmp 53) (.tmp 51))]⟩])
 (.reg [mV 54 0,
 mV 55 9,
 mV 56 12,
 mV 57 8,
 mV 58 3,
 oO 59 (.call 123 [(.tmp 54), (.tmp 55), (.tmp 56), (.tmp 57), (.tmp 58)])])))
 (.reg [mV 34 12,
 oO 35 (.bin .sub (.tmp 34) (cI 1)),
 mV 12 35]))))))))))
def g113 : Fn := ⟨4, 60, [], b113⟩
def b114 : AC :=
 (aR [mV 13 2,
 mV 14 1,
 oO 15 (.bin .sub (.tmp 13) (.tmp 14)),
 mV 8 15]
 (aR [mV 16 8,
 oO 17 (.bin .geq (.tmp 16) (cI 8))]
 (.cond (.tmp 17)
 (aR [mV 18 8,
 oO 19 (.conv .u64 (.tmp 18)),
 oO 9 (.alloc (.int .u64 0)),
 oN (.store 1 (.tmp 9) (.tmp 19))]
 (aR [mV 20 8,
 oO 21 (.call 124 [(.tmp 20)]),
 mV 10 21]
 (aR [mV 22 1,
 mV 23 8,
 oO 24 (.bin .quo (.tmp 23) (cI 4)),
 oO 25 (.bin .mul (.tmp 24) (cI 2)),
 oO 26 (.bin .add (.tmp 22) (.tmp 25)),
 oO 27 (.bin .sub (.tmp 26) (cI 1)),
 mV 11 27]
 (.block 0 (.loop (.seq (aR [mV 28 11,
 mV 29 1,
 mV 30 8,
 oO 31 (.bin .quo (.tmp 30) (cI 4)),
 oO 32 (.bin .mul (.tmp 31) (cI 2)),
 oO 33 (.bin .add (.tmp 29) (.tmp 32)),
 oO 34 (.bin .add (.tmp 33) (cI 1)),
 oO 35 (.bin .leq (.tmp 28) (.tmp 34))]
 (.cond (.tmp 35)
 .skip
 (.exit 0)))
 (.seq (.block 1 (aR [oO 38 (.call 125 [(.tmp 9)]),
 mV 39 10,
 oO 40 (.bin .sub (.tmp 39) (.con (.int .u64 1))),
 oO 41 (.bin .and (.tmp 38) (.tmp 40)),
 oO 42 (.conv .i64 (.tmp 41)),
 mV 12 42]
 (.seq (aR [mV 43 12,
 mV 44 8,
 oO 45 (.bin .geq (.tmp 43) (.tmp 44))]
 (.cond (.tmp 45)
 (.reg [mV 46 12,
 mV 47 8,
 oO 48 (.bin .sub (.tmp 46) (.tmp 47)),
 mV 12 48])
 .skip))
 (.regd [⟨[pP (mV 49 0),
 pP (mV 50 11),
 pP (mV 51 0),
 pP (mV 52 1),
 pP (mV 53 12),
 pP (oO 54 (.bin .add (.tmp 52) (.tmp 53))),
 pP (mV 55 0),
 pP (mV 56 1),
 pP (mV 57 12),
 pP (oO 58 (.bin .add (.tmp 56) (.tmp 57))),
 pP (oO 59 (.iaddr 2 (.tmp 55) (.tmp 58))),
 qQ (oO 60 (.load true 2 (.tmp 59))),
 pP (mV 61 0),
 pP (mV 62 11),
 pP (oO 63 (.iaddr 2 (.tmp 61) (.tmp 62))),
 qQ (oO 64 (.load true 2 (.tmp 63))),
 pP (oO 65 (.iaddr 2 (.tmp 49) (.tmp 50))),
 ⟨oN (.store 2 (.tmp 65) (.tmp 60)), false, true, false, 0, [], none⟩], 0, [oO 66 (.iaddr 2 (.tmp 51) (.tmp 54)),
 oN (.store 2 (.tmp 66) (.tmp 64))]⟩]))))
 (.reg [mV 36 11,
 oO 37 (.bin .add (.tmp 36) (cI 1)),
 mV 11 37]))))))))
 .skip)))
def g114 : Fn := ⟨4, 67, [], b114⟩
def b115 : AC :=
 (aR [oO 8 (.mov (cI 0)),
 oO 9 (.mov (cI 0))]
 (aR [mV 15 2,
 mV 16 1,
 oO 17 (.bin .sub (.tmp 15) (.tmp 16)),
 mV 10 17]
 (aR [oO 11 (.alloc (.int .i64 0))]
 (aR [mV 18 1,
 mV 19 10,
 oO 20 (.bin .quo (.tmp 19) (cI 4)),
 oO 21 (.bin .mul (.tmp 20) (cI 1)),
 oO 22 (.bin .add (.tmp 18) (.tmp 21)),
 mV 12 22]
 (aR [mV 23 1,
 mV 24 10,
 oO 25 (.bin .quo (.tmp 24) (cI 4)),
 oO 26 (.bin .mul (.tmp 25) (cI 2)),
 oO 27 (.bin .add (.tmp 23) (.tmp 26)),
 mV 13 27]
 (aR [mV 28 1,
 mV 29 10,
 oO 30 (.bin .quo (.tmp 29) (cI 4)),
 oO 31 (.bin .mul (.tmp 30) (cI 3)),
 oO 32 (.bin .add (.tmp 28) (.tmp 31)),
 mV 14 32]
 (.seq (aR [mV 33 10,
 oO 34 (.bin .geq (.tmp 33) (cI 8))]
 (.cond (.tmp 34)
 (.seq (aR [mV 35 10,
 oO 36 (.bin .geq (.tmp 35) (cI 50))]
 (.cond (.tmp 36)
 (aR [mV 37 0,
 mV 38 12,
 mV 39 3,
 oO 40 (.call 126 [(.tmp 37), (.tmp 38), (.tmp 11), (.tmp 39)]),
 mV 12 40]
 (aR [mV 41 0,
 mV 42 13,
 mV 43 3,
 oO 44 (.call 126 [(.tmp 41), (.tmp 42), (.tmp 11), (.tmp 43)]),
 mV 13 44]
 (.reg [mV 45 0,
 mV 46 14,
 mV 47 3,
 oO 48 (.call 126 [(.tmp 45), (.tmp 46), (.tmp 11), (.tmp 47)]),
 mV 14 48])))
 .skip))
 (.reg [mV 49 0,
 mV 50 12,
 mV 51 13,
 mV 52 14,
 mV 53 3,
 oO 54 (.call 127 [(.tmp 49), (.tmp 50), (.tmp 51), (.tmp 52), (.tmp 11), (.tmp 53)]),
 mV 13 54]))
 .skip))
 (aR [lD 55 11]
 (.block 0 (aR [oO 58 (.bin .eql (.tmp 55) (cI 0)),
 mV 57 58]
 (.cond (.tmp 57)
 (aR [mV 59 13,
 mV 8 59,
 oO 9 (.mov (cI 1))]
 .ret)
 (aR [oO 61 (.bin .eql (.tmp 55) (cI 12)),
 mV 60 61]
 (.cond (.tmp 60)
 (aR [mV 62 13,
 mV 8 62,
 oO 9 (.mov (cI 2))]
 .ret)
 (aR [mV 56 13,
 mV 8 56,
 oO 9 (.mov (cI 0))]
 .ret))))))))))))))
def g115 : Fn := ⟨4, 63, [.tmp 8, .tmp 9], b115⟩
def b116 : AC :=
 (aR [mV 10 1,
 mV 8 10]
 (aR [mV 11 2,
 oO 12 (.bin .sub (.tmp 11) (cI 1)),
 mV 9 12]
 (.block 0 (.loop (.seq (aR [mV 13 8,
 mV 14 9,
 oO 15 (.bin .lss (.tmp 13) (.tmp 14))]
 (.cond (.tmp 15)
 .skip
 (.exit 0)))
 (.block 1 (.seq (.regd [⟨[pP (mV 16 0),
 pP (mV 17 8),
 pP (mV 18 0),
 pP (mV 19 9),
 pP (mV 20 0),
 pP (mV 21 9),
 pP (oO 22 (.iaddr 2 (.tmp 20) (.tmp 21))),
 qQ (oO 23 (.load true 2 (.tmp 22))),
 pP (mV 24 0),
 pP (mV 25 8),
 pP (oO 26 (.iaddr 2 (.tmp 24) (.tmp 25))),
 qQ (oO 27 (.load true 2 (.tmp 26))),
 pP (oO 28 (.iaddr 2 (.tmp 16) (.tmp 17))),
 ⟨oN (.store 2 (.tmp 28) (.tmp 23)), false, true, false, 0, [], none⟩], 0, [oO 29 (.iaddr 2 (.tmp 18) (.tmp 19)),
 oN (.store 2 (.tmp 29) (.tmp 27))]⟩])
 (aR [mV 30 8,
 oO 31 (.bin .add (.tmp 30) (cI 1)),
 mV 8 31]
 (.reg [mV 32 9,
 oO 33 (.bin .sub (.tmp 32) (cI 1)),
 mV 9 33])))))))))
def g116 : Fn := ⟨4, 34, [], b116⟩
def b117 : AC :=
 (aR [oO 8 (.mov (.con (.bool false)))]
 (aR [mV 13 1,
 oO 14 (.bin .add (.tmp 13) (cI 1)),
 mV 9 14]
 (.seq (aR [oO 10 (.mov (cI 0))]
 (.block 0 (.loop (.seq (aR [mV 15 10,
 oO 16 (.bin .lss (.tmp 15) (cI 5))]
 (.cond (.tmp 16)
 .skip
 (.exit 0)))
 (.seq (.block 1 (.seq (.block 2 (.loop (.seq (.seq (.regd [⟨[pP (mV 19 9),
 pP (mV 20 2)], 0, [oO 21 (.bin .lss (.tmp 19) (.tmp 20)),
 mV 22 21]⟩,
 ⟨[pP (gO 23 22 true (.mov (.tmp 3))),
 pP (gO 24 22 true (.mov (.tmp 0))),
 pP (gO 25 22 true (.mov (.tmp 9))),
 pP (gO 26 22 true (.iaddr 2 (.tmp 24) (.tmp 25))),
 qQ (gO 27 22 true (.load true 2 (.tmp 26))),
 pP (gO 28 22 true (.mov (.tmp 0))),
 pP (gO 29 22 true (.mov (.tmp 9))),
 pP (gO 30 22 true (.bin .sub (.tmp 29) (cI 1))),
 pP (gO 31 22 true (.iaddr 2 (.tmp 28) (.tmp 30))),
 qQ (gO 32 22 true (.load true 2 (.tmp 31)))], 0, [gO 33 22 true (.callv (.tmp 23) [(.tmp 27), (.tmp 32)]),
 gO 34 22 true (.bin .lss (.tmp 33) (cI 0)),
 gO 35 22 true (.un .not (.tmp 34)),
 oO 36 (.pick (.tmp 22) (.tmp 35) (.con (.bool false)))]⟩])
 (.cond (.tmp 36)
 .skip
 (.exit 2)))
 (.block 3 (.reg [mV 37 9,
 oO 38 (.bin .add (.tmp 37) (cI 1)),
 mV 9 38])))))
 (.seq (aR [mV 39 9,
 mV 40 2,
 oO 41 (.bin .eql (.tmp 39) (.tmp 40))]
 (.cond (.tmp 41)
 (aR [oO 8 (.mov (.con (.bool true)))]
 .ret)
 .skip))
 (.seq (aR [mV 42 2,
 mV 43 1,
 oO 44 (.bin .sub (.tmp 42) (.tmp 43)),
 oO 45 (.bin .lss (.tmp 44) (cI 50))]
 (.cond (.tmp 45)
 (aR [oO 8 (.mov (.con (.bool false)))]
 .ret)
 .skip))
 (.seq (.regd [⟨[pP (mV 46 0),
 pP (mV 47 9),
 pP (mV 48 0),
 pP (mV 49 9),
 pP (oO 50 (.bin .sub (.tmp 49) (cI 1))),
 pP (mV 51 0),
 pP (mV 52 9),
 pP (oO 53 (.bin .sub (.tmp 52) (cI 1))),
 pP (oO 54 (.iaddr 2 (.tmp 51) (.tmp 53))),
 qQ (oO 55 (.load true 2 (.tmp 54))),
 pP (mV 56 0),
 pP (mV 57 9),
 pP (oO 58 (.iaddr 2 (.tmp 56) (.tmp 57))),
 qQ (oO 59 (.load true 2 (.tmp 58))),
 pP (oO 60 (.iaddr 2 (.tmp 46) (.tmp 47))),
 ⟨oN (.store 2 (.tmp 60) (.tmp 55)), false, true, false, 0, [], none⟩], 0, [oO 61 (.iaddr 2 (.tmp 48) (.tmp 50)),
 oN (.store 2 (.tmp 61) (.tmp 59))]⟩])
 (.seq (aR [mV 62 9,
 mV 63 1,
 oO 64 (.bin .sub (.tmp 62) (.tmp 63)),
 oO 65 (.bin .geq (.tmp 64) (cI 2))]
 (.cond (.tmp 65)
 (aR [mV 66 9,
 oO 67 (.bin .sub (.tmp 66) (cI 1)),
 mV 11 67]
 (.block 4 (.loop (.seq (aR [mV 68 11,
 oO 69 (.bin .geq (.tmp 68) (cI 1))]
 (.cond (.tmp 69)
 .skip
 (.exit 4)))
 (.seq (.block 5 (.seq (.seq (.regd [⟨[pP (mV 72 3),
 pP (mV 73 0),
 pP (mV 74 11),
 pP (oO 75 (.iaddr 2 (.tmp 73) (.tmp 74))),
 qQ (oO 76 (.load true 2 (.tmp 75))),
 pP (mV 77 0),
 pP (mV 78 11),
 pP (oO 79 (.bin .sub (.tmp 78) (cI 1))),
 pP (oO 80 (.iaddr 2 (.tmp 77) (.tmp 79))),
 qQ (oO 81 (.load true 2 (.tmp 80)))], 0, [oO 82 (.callv (.tmp 72) [(.tmp 76), (.tmp 81)]),
 oO 83 (.bin .lss (.tmp 82) (cI 0)),
 oO 84 (.un .not (.tmp 83))]⟩])
 (.cond (.tmp 84)
 (.exit 4)
 .skip))
 (.regd [⟨[pP (mV 85 0),
 pP (mV 86 11),
 pP (mV 87 0),
 pP (mV 88 11),
 pP (oO 89 (.bin .sub (.tmp 88) (cI 1))),
 pP (mV 90 0),
 pP (mV 91 11),
 pP (oO 92 (.bin .sub (.tmp 91) (cI 1))),
 pP (oO 93 (.iaddr 2 (.tmp 90) (.tmp 92))),
 qQ (oO 94 (.load true 2 (.tmp 93))),
 pP (mV 95 0),
 pP (mV 96 11),
 pP (oO 97 (.iaddr 2 (.tmp 95) (.tmp 96))),
 qQ (oO 98 (.load true 2 (.tmp 97))),
 pP (oO 99 (.iaddr 2 (.tmp 85) (.tmp 86))),
 ⟨oN (.store 2 (.tmp 99) (.tmp 94)), false, true, false, 0, [], none⟩], 0, [oO 100 (.iaddr 2 (.tmp 87) (.tmp 89)),
 oN (.store 2 (.tmp 100) (.tmp 98))]⟩])))
 (.reg [mV 70 11,
 oO 71 (.bin .sub (.tmp 70) (cI 1)),
 mV 11 71]))))))
 .skip))
 (aR [mV 101 2,
 mV 102 9,
 oO 103 (.bin .sub (.tmp 101) (.tmp 102)),
 oO 104 (.bin .geq (.tmp 103) (cI 2))]
 (.cond (.tmp 104)
 (aR [mV 105 9,
 oO 106 (.bin .add (.tmp 105) (cI 1)),
 mV 12 106]
 (.block 6 (.loop (.seq (aR [mV 107 12,
 mV 108 2,
 oO 109 (.bin .lss (.tmp 107) (.tmp 108))]
 (.cond (.tmp 109)
 .skip
 (.exit 6)))
 (.seq (.block 7 (.seq (.seq (.regd [⟨[pP (mV 112 3),
 pP (mV 113 0),
 pP (mV 114 12),
 pP (oO 115 (.iaddr 2 (.tmp 113) (.tmp 114))),
 qQ (oO 116 (.load true 2 (.tmp 115))),
 pP (mV 117 0),
 pP (mV 118 12),
 pP (oO 119 (.bin .sub (.tmp 118) (cI 1))),
 pP (oO 120 (.iaddr 2 (.tmp 117) (.tmp 119))),
 qQ (oO 121 (.load true 2 (.tmp 120)))], 0, [oO 122 (.callv (.tmp 112) [(.tmp 116), (.tmp 121)]),
 oO 123 (.bin .lss (.tmp 122) (cI 0)),
 oO 124 (.un .not (.tmp 123))]⟩])
 (.cond (.tmp 124)
 (.exit 6)
 .skip))
 (.regd [⟨[pP (mV 125 0),
 pP (mV 126 12),
 pP (mV 127 0),
 pP (mV 128 12),
 pP (oO 129 (.bin .sub (.tmp 128) (cI 1))),
 pP (mV 130 0),
 pP (mV 131 12),
 pP (oO 132 (.bin .sub (.tmp 131) (cI 1))),
 pP (oO 133 (.iaddr 2 (.tmp 130) (.tmp 132))),
 qQ (oO 134 (.load true 2 (.tmp 133))),
 pP (mV 135 0),
 pP (mV 136 12),
 pP (oO 137 (.iaddr 2 (.tmp 135) (.tmp 136))),
 qQ (oO 138 (.load true 2 (.tmp 137))),
 pP (oO 139 (.iaddr 2 (.tmp 125) (.tmp 126))),
 ⟨oN (.store 2 (.tmp 139) (.tmp 134)), false, true, false, 0, [], none⟩], 0, [oO 140 (.iaddr 2 (.tmp 127) (.tmp 129)),
 oN (.store 2 (.tmp 140) (.tmp 138))]⟩])))
 (.reg [mV 110 12,
 oO 111 (.bin .add (.tmp 110) (cI 1)),
 mV 12 111]))))))
 .skip))))))))
 (.reg [mV 17 10,
 oO 18 (.bin .add (.tmp 17) (cI 1)),
 mV 10 18]))))))
 (aR [oO 8 (.mov (.con (.bool false)))]
 .ret))))
def g117 : Fn := ⟨4, 141, [.tmp 8], b117⟩
def b118 : AC :=
 (aR [oO 10 (.mov (cI 0))]
 (.seq (.regd [⟨[pP (mV 13 0),
 pP (mV 14 1),
 pP (mV 15 0),
 pP (mV 16 3),
 pP (mV 17 0),
 pP (mV 18 3),
 pP (oO 19 (.iaddr 2 (.tmp 17) (.tmp 18))),
 qQ (oO 20 (.load true 2 (.tmp 19))),
 pP (mV 21 0),
 pP (mV 22 1),
 pP (oO 23 (.iaddr 2 (.tmp 21) (.tmp 22))),
 qQ (oO 24 (.load true 2 (.tmp 23))),
 pP (oO 25 (.iaddr 2 (.tmp 13) (.tmp 14))),
 ⟨oN (.store 2 (.tmp 25) (.tmp 20)), false, true, false, 0, [], none⟩], 0, [oO 26 (.iaddr 2 (.tmp 15) (.tmp 16)),
 oN (.store 2 (.tmp 26) (.tmp 24))]⟩])
 (aR [mV 27 1,
 oO 28 (.bin .add (.tmp 27) (cI 1)),
 mV 29 2,
 oO 30 (.bin .sub (.tmp 29) (cI 1)),
 mV 11 28,
 mV 12 30]
 (.seq (.block 0 (.loop (.block 1 (.seq (.block 2 (.loop (.seq (.seq (.regd [⟨[pP (mV 31 11),
 pP (mV 32 12)], 0, [oO 33 (.bin .leq (.tmp 31) (.tmp 32)),
 mV 34 33]⟩,
 ⟨[pP (gO 35 34 true (.mov (.tmp 4))),
 pP (gO 36 34 true (.mov (.tmp 0))),
 pP (gO 37 34 true (.mov (.tmp 1))),
 pP (gO 38 34 true (.iaddr 2 (.tmp 36) (.tmp 37))),
 qQ (gO 39 34 true (.load true 2 (.tmp 38))),
 pP (gO 40 34 true (.mov (.tmp 0))),
 pP (gO 41 34 true (.mov (.tmp 11))),
 pP (gO 42 34 true (.iaddr 2 (.tmp 40) (.tmp 41))),
 qQ (gO 43 34 true (.load true 2 (.tmp 42)))], 0, [gO 44 34 true (.callv (.tmp 35) [(.tmp 39), (.tmp 43)]),
 gO 45 34 true (.bin .lss (.tmp 44) (cI 0)),
 gO 46 34 true (.un .not (.tmp 45)),
 oO 47 (.pick (.tmp 34) (.tmp 46) (.con (.bool false)))]⟩])
 (.cond (.tmp 47)
 .skip
 (.exit 2)))
 (.block 3 (.reg [mV 48 11,
 oO 49 (.bin .add (.tmp 48) (cI 1)),
 mV 11 49])))))
 (.seq (.block 4 (.loop (.seq (.seq (.regd [⟨[pP (mV 50 11),
 pP (mV 51 12)], 0, [oO 52 (.bin .leq (.tmp 50) (.tmp 51)),
 mV 53 52]⟩,
 ⟨[pP (gO 54 53 true (.mov (.tmp 4))),
 pP (gO 55 53 true (.mov (.tmp 0))),
 pP (gO 56 53 true (.mov (.tmp 1))),
 pP (gO 57 53 true (.iaddr 2 (.tmp 55) (.tmp 56))),
 qQ (gO 58 53 true (.load true 2 (.tmp 57))),
 pP (gO 59 53 true (.mov (.tmp 0))),
 pP (gO 60 53 true (.mov (.tmp 12))),
 pP (gO 61 53 true (.iaddr 2 (.tmp 59) (.tmp 60))),
 qQ (gO 62 53 true (.load true 2 (.tmp 61)))], 0, [gO 63 53 true (.callv (.tmp 54) [(.tmp 58), (.tmp 62)]),
 gO 64 53 true (.bin .lss (.tmp 63) (cI 0)),
 oO 65 (.pick (.tmp 53) (.tmp 64) (.con (.bool false)))]⟩])
 (.cond (.tmp 65)
 .skip
 (.exit 4)))
 (.block 5 (.reg [mV 66 12,
 oO 67 (.bin .sub (.tmp 66) (cI 1)),
 mV 12 67])))))
 (.seq (aR [mV 68 11,
 mV 69 12,
 oO 70 (.bin .gtr (.tmp 68) (.tmp 69))]
 (.cond (.tmp 70)
 (.exit 0)
 .skip))
 (.seq (.regd [⟨[pP (mV 71 0),
 pP (mV 72 11),
 pP (mV 73 0),
 pP (mV 74 12),
 pP (mV 75 0),
 pP (mV 76 12),
 pP (oO 77 (.iaddr 2 (.tmp 75) (.tmp 76))),
 qQ (oO 78 (.load true 2 (.tmp 77))),
 pP (mV 79 0),
 pP (mV 80 11),
 pP (oO 81 (.iaddr 2 (.tmp 79) (.tmp 80))),
 qQ (oO 82 (.load true 2 (.tmp 81))),
 pP (oO 83 (.iaddr 2 (.tmp 71) (.tmp 72))),
 ⟨oN (.store 2 (.tmp 83) (.tmp 78)), false, true, false, 0, [], none⟩], 0, [oO 84 (.iaddr 2 (.tmp 73) (.tmp 74)),
 oN (.store 2 (.tmp 84) (.tmp 82))]⟩])
 (aR [mV 85 11,
 oO 86 (.bin .add (.tmp 85) (cI 1)),
 mV 11 86]
 (.reg [mV 87 12,
 oO 88 (.bin .sub (.tmp 87) (cI 1)),
 mV 12 88])))))))))
 (aR [mV 89 11,
 mV 10 89]
 .ret)))))
def g118 : Fn := ⟨5, 90, [.tmp 10], b118⟩
def b119 : AC :=
 (aR [oO 10 (.mov (cI 0)),
 oO 11 (.mov (.con (.bool false)))]
 (.seq (.regd [⟨[pP (mV 14 0),
 pP (mV 15 1),
 pP (mV 16 0),
 pP (mV 17 3),
 pP (mV 18 0),
 pP (mV 19 3),
 pP (oO 20 (.iaddr 2 (.tmp 18) (.tmp 19))),
 qQ (oO 21 (.load true 2 (.tmp 20))),
 pP (mV 22 0),
 pP (mV 23 1),
 pP (oO 24 (.iaddr 2 (.tmp 22) (.tmp 23))),
 qQ (oO 25 (.load true 2 (.tmp 24))),
 pP (oO 26 (.iaddr 2 (.tmp 14) (.tmp 15))),
 ⟨oN (.store 2 (.tmp 26) (.tmp 21)), false, true, false, 0, [], none⟩], 0, [oO 27 (.iaddr 2 (.tmp 16) (.tmp 17)),
 oN (.store 2 (.tmp 27) (.tmp 25))]⟩])
 (aR [mV 28 1,
 oO 29 (.bin .add (.tmp 28) (cI 1)),
 mV 30 2,
 oO 31 (.bin .sub (.tmp 30) (cI 1)),
 mV 12 29,
 mV 13 31]
 (.seq (.block 0 (.loop (.seq (.seq (.regd [⟨[pP (mV 32 12),
 pP (mV 33 13)], 0, [oO 34 (.bin .leq (.tmp 32) (.tmp 33)),
 mV 35 34]⟩,
 ⟨[pP (gO 36 35 true (.mov (.tmp 4))),
 pP (gO 37 35 true (.mov (.tmp 0))),
 pP (gO 38 35 true (.mov (.tmp 12))),
 pP (gO 39 35 true (.iaddr 2 (.tmp 37) (.tmp 38))),
 qQ (gO 40 35 true (.load true 2 (.tmp 39))),
 pP (gO 41 35 true (.mov (.tmp 0))),
 pP (gO 42 35 true (.mov (.tmp 1))),
 pP (gO 43 35 true (.iaddr 2 (.tmp 41) (.tmp 42))),
 qQ (gO 44 35 true (.load true 2 (.tmp 43)))], 0, [gO 45 35 true (.callv (.tmp 36) [(.tmp 40), (.tmp 44)]),
 gO 46 35 true (.bin .lss (.tmp 45) (cI 0)),
 oO 47 (.pick (.tmp 35) (.tmp 46) (.con (.bool false)))]⟩])
 (.cond (.tmp 47)
 .skip
 (.exit 0)))
 (.block 1 (.reg [mV 48 12,
 oO 49 (.bin .add (.tmp 48) (cI 1)),
 mV 12 49])))))
 (.seq (.block 2 (.loop (.seq (.seq (.regd [⟨[pP (mV 50 12),
 pP (mV 51 13)], 0, [oO 52 (.bin .leq (.tmp 50) (.tmp 51)),
 mV 53 52]⟩,
 ⟨[pP (gO 54 53 true (.mov (.tmp 4))),
 pP (gO 55 53 true (.mov (.tmp 0))),
 pP (gO 56 53 true (.mov (.tmp 13))),
 pP (gO 57 53 true (.iaddr 2 (.tmp 55) (.tmp 56))),
 qQ (gO 58 53 true (.load true 2 (.tmp 57))),
 pP (gO 59 53 true (.mov (.tmp 0))),
 pP (gO 60 53 true (.mov (.tmp 1))),
 pP (gO 61 53 true (.iaddr 2 (.tmp 59) (.tmp 60))),
 qQ (gO 62 53 true (.load true 2 (.tmp 61)))], 0, [gO 63 53 true (.callv (.tmp 54) [(.tmp 58), (.tmp 62)]),
 gO 64 53 true (.bin .lss (.tmp 63) (cI 0)),
 gO 65 53 true (.un .not (.tmp 64)),
 oO 66 (.pick (.tmp 53) (.tmp 65) (.con (.bool false)))]⟩])
 (.cond (.tmp 66)
 .skip
 (.exit 2)))
 (.block 3 (.reg [mV 67 13,
 oO 68 (.bin .sub (.tmp 67) (cI 1)),
 mV 13 68])))))
 (.seq (aR [mV 69 12,
 mV 70 13,
 oO 71 (.bin .gtr (.tmp 69) (.tmp 70))]
 (.cond (.tmp 71)
 (.seq (.regd [⟨[pP (mV 72 0),
 pP (mV 73 13),
 pP (mV 74 0),
 pP (mV 75 1),
 pP (mV 76 0),
 pP (mV 77 1),
 pP (oO 78 (.iaddr 2 (.tmp 76) (.tmp 77))),
 qQ (oO 79 (.load true 2 (.tmp 78))),
 pP (mV 80 0),
 pP (mV 81 13),
 pP (oO 82 (.iaddr 2 (.tmp 80) (.tmp 81))),
 qQ (oO 83 (.load true 2 (.tmp 82))),
 pP (oO 84 (.iaddr 2 (.tmp 72) (.tmp 73))),
 ⟨oN (.store 2 (.tmp 84) (.tmp 79)), false, true, false, 0, [], none⟩], 0, [oO 85 (.iaddr 2 (.tmp 74) (.tmp 75)),
 oN (.store 2 (.tmp 85) (.tmp 83))]⟩])
 (aR [mV 86 13,
 mV 10 86,
 oO 11 (.mov (.con (.bool true)))]
 .ret))
 .skip))
 (.seq (.regd [⟨[pP (mV 87 0),
 pP (mV 88 12),
 pP (mV 89 0),
 pP (mV 90 13),
 pP (mV 91 0),
 pP (mV 92 13),
 pP (oO 93 (.iaddr 2 (.tmp 91) (.tmp 92))),
 qQ (oO 94 (.load true 2 (.tmp 93))),
 pP (mV 95 0),
 pP (mV 96 12),
 pP (oO 97 (.iaddr 2 (.tmp 95) (.tmp 96))),
 qQ (oO 98 (.load true 2 (.tmp 97))),
 pP (oO 99 (.iaddr 2 (.tmp 87) (.tmp 88))),
 ⟨oN (.store 2 (.tmp 99) (.tmp 94)), false, true, false, 0, [], none⟩], 0, [oO 100 (.iaddr 2 (.tmp 89) (.tmp 90)),
 oN (.store 2 (.tmp 100) (.tmp 98))]⟩])
 (aR [mV 101 12,
 oO 102 (.bin .add (.tmp 101) (cI 1)),
 mV 12 102]
 (aR [mV 103 13,
 oO 104 (.bin .sub (.tmp 103) (cI 1)),
 mV 13 104]
 (.seq (.block 4 (.loop (.block 5 (.seq (.block 6 (.loop (.seq (.seq (.regd [⟨[pP (mV 105 12),
 pP (mV 106 13)], 0, [oO 107 (.bin .leq (.tmp 105) (.tmp 106)),
 mV 108 107]⟩,
 ⟨[pP (gO 109 108 true (.mov (.tmp 4))),
 pP (gO 110 108 true (.mov (.tmp 0))),
 pP (gO 111 108 true (.mov (.tmp 12))),
 pP (gO 112 108 true (.iaddr 2 (.tmp 110) (.tmp 111))),
 qQ (gO 113 108 true (.load true 2 (.tmp 112))),
 pP (gO 114 108 true (.mov (.tmp 0))),
 pP (gO 115 108 true (.mov (.tmp 1))),
 pP (gO 116 108 true (.iaddr 2 (.tmp 114) (.tmp 115))),
 qQ (gO 117 108 true (.load true 2 (.tmp 116)))], 0, [gO 118 108 true (.callv (.tmp 109) [(.tmp 113), (.tmp 117)]),
 gO 119 108 true (.bin .lss (.tmp 118) (cI 0)),
 oO 120 (.pick (.tmp 108) (.tmp 119) (.con (.bool false)))]⟩])
 (.cond (.tmp 120)
 .skip
 (.exit 6)))
 (.block 7 (.reg [mV 121 12,
 oO 122 (.bin .add (.tmp 121) (cI 1)),
 mV 12 122])))))
 (.seq (.block 8 (.loop (.seq (.seq (.regd [⟨[pP (mV 123 12),
 pP (mV 124 13)], 0, [oO 125 (.bin .leq (.tmp 123) (.tmp 124)),
 mV 126 125]⟩,
 ⟨[pP (gO 127 126 true (.mov (.tmp 4))),
 pP (gO 128 126 true (.mov (.tmp 0))),
 pP (gO 129 126 true (.mov (.tmp 13))),
 pP (gO 130 126 true (.iaddr 2 (.tmp 128) (.tmp 129))),
 qQ (gO 131 126 true (.load true 2 (.tmp 130))),
 pP (gO 132 126 true (.mov (.tmp 0))),
 pP (gO 133 126 true (.mov (.tmp 1))),
 pP (gO 134 126 true (.iaddr 2 (.tmp 132) (.tmp 133))),
 qQ (gO 135 126 true (.load true 2 (.tmp 134)))], 0, [gO 136 126 true (.callv (.tmp 127) [(.tmp 131), (.tmp 135)]),
 gO 137 126 true (.bin .lss (.tmp 136) (cI 0)),
 gO 138 126 true (.un .not (.tmp 137)),
 oO 139 (.pick (.tmp 126) (.tmp 138) (.con (.bool false)))]⟩])
 (.cond (.tmp 139)
 .skip
 (.exit 8)))
 (.block 9 (.reg [mV 140 13,
 oO 141 (.bin .sub (.tmp 140) (cI 1)),
 mV 13 141])))))
 (.seq (aR [mV 142 12,
 mV 143 13,
 oO 144 (.bin .gtr (.tmp 142) (.tmp 143))]
 (.cond (.tmp 144)
 (.exit 4)
 .skip))
 (.seq (.regd [⟨[pP (mV 145 0),
 pP (mV 146 12),
 pP (mV 147 0),
 pP (mV 148 13),
 pP (mV 149 0),
 pP (mV 150 13),
 pP (oO 151 (.iaddr 2 (.tmp 149) (.tmp 150))),
 qQ (oO 152 (.load true 2 (.tmp 151))),
 pP (mV 153 0),
 pP (mV 154 12),
 pP (oO 155 (.iaddr 2 (.tmp 153) (.tmp 154))),
 qQ (oO 156 (.load true 2 (.tmp 155))),
 pP (oO 157 (.iaddr 2 (.tmp 145) (.tmp 146))),
 ⟨oN (.store 2 (.tmp 157) (.tmp 152)), false, true, false, 0, [], none⟩], 0, [oO 158 (.iaddr 2 (.tmp 147) (.tmp 148)),
 oN (.store 2 (.tmp 158) (.tmp 156))]⟩])
 (aR [mV 159 12,
 oO 160 (.bin .add (.tmp 159) (cI 1)),
 mV 12 160]
 (.reg [mV 161 13,
 oO 162 (.bin .sub (.tmp 161) (cI 1)),
 mV 13 162])))))))))
 (.seq (.regd [⟨[pP (mV 163 0),
 pP (mV 164 13),
 pP (mV 165 0),
 pP (mV 166 1),
 pP (mV 167 0),
 pP (mV 168 1),
 pP (oO 169 (.iaddr 2 (.tmp 167) (.tmp 168))),
 qQ (oO 170 (.load true 2 (.tmp 169))),
 pP (mV 171 0),
 pP (mV 172 13),
 pP (oO 173 (.iaddr 2 (.tmp 171) (.tmp 172))),
 qQ (oO 174 (.load true 2 (.tmp 173))),
 pP (oO 175 (.iaddr 2 (.tmp 163) (.tmp 164))),
 ⟨oN (.store 2 (.tmp 175) (.tmp 170)), false, true, false, 0, [], none⟩], 0, [oO 176 (.iaddr 2 (.tmp 165) (.tmp 166)),
 oN (.store 2 (.tmp 176) (.tmp 174))]⟩])
 (aR [mV 177 13,
 mV 10 177,
 oO 11 (.mov (.con (.bool false)))]
 .ret))))))))))))
def g119 : Fn := ⟨5, 178, [.tmp 10, .tmp 11], b119⟩
def b120 : AC :=
 (aR [oO 2 (.mov (cI 0))]
 (.seq (aR [mV 3 0,
 oO 4 (.bin .geq (.tmp 3) (.con (.int .u32 65536)))]
 (.cond (.tmp 4)
 (aR [mV 5 0,
 oO 6 (.bin .shr (.tmp 5) (.con (.int .u64 16))),
 mV 0 6]
 (.reg [oO 2 (.mov (cI 16))]))
 .skip))
 (.seq (aR [mV 7 0,
 oO 8 (.bin .geq (.tmp 7) (.con (.int .u32 256)))]
 (.cond (.tmp 8)
 (aR [mV 9 0,
 oO 10 (.bin .shr (.tmp 9) (.con (.int .u64 8))),
 mV 0 10]
 (.reg [mV 11 2,
 oO 12 (.bin .add (.tmp 11) (cI 8)),
 mV 2 12]))
 .skip))
 (aR [mV 13 2,
 mV 14 0,
 oO 15 (.conv .u8 (.tmp 14)),
 ⟨(some 16), none, .idxS (.con (.str ⟨#[0, 1, 2, 2, 3, 3, 3, 3, 4, 4, 4, 4, 4, 4, 4, 4, 5, 5, 5, 5, 5, 5, 5, 5, 5, 5, 5, 5, 5, 5, 5, 5, 6, 6, 6, 6, 6, 6, 6, 6, 6, 6, 6, 6, 6, 6, 6, 6, 6, 6, 6, 6, 6, 6, 6, 6, 6, 6, 6, 6, 6, 6, 6, 6, 7, 7, 7, 7, 7, 7, 7, 7, 7, 7, 7, 7, 7, 7, 7, 7, 7, 7, 7, 7, 7, 7, 7, 7, 7, 7, 7, 7, 7, 7, 7, 7, 7, 7, 7, 7, 7, 7, 7, 7, 7, 7, 7, 7, 7, 7, 7, 7, 7, 7, 7, 7, 7, 7, 7, 7, 7, 7, 7, 7, 7, 7, 7, 7, 8, 8, 8, 8, 8, 8, 8, 8, 8, 8, 8, 8, 8, 8, 8, 8, 8, 8, 8, 8, 8, 8, 8, 8, 8, 8, 8, 8, 8, 8, 8, 8, 8, 8, 8, 8, 8, 8, 8, 8, 8, 8, 8, 8, 8, 8, 8, 8, 8, 8, 8, 8, 8, 8, 8, 8, 8, 8, 8, 8, 8, 8, 8, 8, 8, 8, 8, 8, 8, 8, 8, 8, 8, 8, 8, 8, 8, 8, 8, 8, 8, 8, 8, 8, 8, 8, 8, 8, 8, 8, 8, 8, 8, 8, 8, 8, 8, 8, 8, 8, 8, 8, 8, 8, 8, 8, 8, 8, 8, 8, 8, 8, 8, 8, 8, 8, 8, 8, 8, 8, 8, 8, 8, 8, 8, 8, 8, 8]⟩)) (.tmp 15)⟩,
 oO 17 (.conv .i64 (.tmp 16)),
 oO 18 (.bin .add (.tmp 13) (.tmp 17)),
 mV 2 18]
 .ret))))
def g120 : Fn := ⟨1, 19, [.tmp 2], b120⟩
def b121 : AC :=
 (aR [oO 2 (.mov (cI 0))]
 (.seq (aR [mV 3 0,
 oO 4 (.bin .geq (.tmp 3) (.con (.int .u64 4294967296)))]
 (.cond (.tmp 4)
 (aR [mV 5 0,
 oO 6 (.bin .shr (.tmp 5) (.con (.int .u64 32))),
 mV 0 6]
 (.reg [oO 2 (.mov (cI 32))]))
 .skip))
 (.seq (aR [mV 7 0,
 oO 8 (.bin .geq (.tmp 7) (.con (.int .u64 65536)))]
 (.cond (.tmp 8)
 (aR [mV 9 0,
 oO 10 (.bin .shr (.tmp 9) (.con (.int .u64 16))),
 mV 0 10]
 (.reg [mV 11 2,
 oO 12 (.bin .add (.tmp 11) (cI 16)),
 mV 2 12]))
 .skip))
 (.seq (aR [mV 13 0,
 oO 14 (.bin .geq (.tmp 13) (.con (.int .u64 256)))]
 (.cond (.tmp 14)
 (aR [mV 15 0,
 oO 16 (.bin .shr (.tmp 15) (.con (.int .u64 8))),
 mV 0 16]
 (.reg [mV 17 2,
 oO 18 (.bin .add (.tmp 17) (cI 8)),
 mV 2 18]))
 .skip))
 (aR [mV 19 2,
 mV 20 0,
 oO 21 (.conv .u8 (.tmp 20)),
 ⟨(some 22), none, .idxS (.con (.str ⟨#[0, 1, 2, 2, 3, 3, 3, 3, 4, 4, 4, 4, 4, 4, 4, 4, 5, 5, 5, 5, 5, 5, 5, 5, 5, 5, 5, 5, 5, 5, 5, 5, 6, 6, 6, 6, 6, 6, 6, 6, 6, 6, 6, 6, 6, 6, 6, 6, 6, 6, 6, 6, 6, 6, 6, 6, 6, 6, 6, 6, 6, 6, 6, 6, 7, 7, 7, 7, 7, 7, 7, 7, 7, 7, 7, 7, 7, 7, 7, 7, 7, 7, 7, 7, 7, 7, 7, 7, 7, 7, 7, 7, 7, 7, 7, 7, 7, 7, 7, 7, 7, 7, 7, 7, 7, 7, 7, 7, 7, 7, 7, 7, 7, 7, 7, 7, 7, 7, 7, 7, 7, 7, 7, 7, 7, 7, 7, 7, 8, 8, 8, 8, 8, 8, 8, 8, 8, 8, 8, 8, 8, 8, 8, 8, 8, 8, 8, 8, 8, 8, 8, 8, 8, 8, 8, 8, 8, 8, 8, 8, 8, 8, 8, 8, 8, 8, 8, 8, 8, 8, 8, 8, 8, 8, 8, 8, 8, 8, 8, 8, 8, 8, 8, 8, 8, 8, 8, 8, 8, 8, 8, 8, 8, 8, 8, 8, 8, 8, 8, 8, 8, 8, 8, 8, 8, 8, 8, 8, 8, 8, 8, 8, 8, 8, 8, 8, 8, 8, 8, 8, 8, 8, 8, 8, 8, 8, 8, 8, 8, 8, 8, 8, 8, 8, 8, 8, 8, 8, 8, 8, 8, 8, 8, 8, 8, 8, 8, 8, 8, 8, 8, 8, 8, 8, 8, 8]⟩)) (.tmp 21)⟩,
 oO 23 (.conv .i64 (.tmp 22)),
 oO 24 (.bin .add (.tmp 19) (.tmp 23)),
 mV 2 24]
 .ret)))))
def g121 : Fn := ⟨1, 25, [.tmp 2], b121⟩
def b122 : AC :=
 (aR [oO 2 (.mov (.con (.bool false)))]
 (aR [mV 3 0,
 mV 4 0,
 oO 5 (.bin .neq (.tmp 3) (.tmp 4)),
 mV 2 5]
 .ret))
def g122 : Fn := ⟨1, 6, [.tmp 2], b122⟩
def b123 : AC :=
 (aR [mV 12 1,
 mV 10 12]
 (.block 0 (.loop (.block 1 (aR [mV 13 10,
 oO 14 (.bin .mul (cI 2) (.tmp 13)),
 oO 15 (.bin .add (.tmp 14) (cI 1)),
 mV 11 15]
 (.seq (aR [mV 16 11,
 mV 17 2,
 oO 18 (.bin .geq (.tmp 16) (.tmp 17))]
 (.cond (.tmp 18)
 (.exit 0)
 .skip))
 (.seq (.seq (.regd [⟨[pP (mV 19 11),
 pP (oO 20 (.bin .add (.tmp 19) (cI 1))),
 pP (mV 21 2)], 0, [oO 22 (.bin .lss (.tmp 20) (.tmp 21)),
 mV 23 22]⟩,
 ⟨[pP (gO 24 23 true (.mov (.tmp 4))),
 pP (gO 25 23 true (.mov (.tmp 0))),
 pP (gO 26 23 true (.mov (.tmp 3))),
 pP (gO 27 23 true (.mov (.tmp 11))),
 pP (gO 28 23 true (.bin .add (.tmp 26) (.tmp 27))),
 pP (gO 29 23 true (.iaddr 2 (.tmp 25) (.tmp 28))),
 qQ (gO 30 23 true (.load true 2 (.tmp 29))),
 pP (gO 31 23 true (.mov (.tmp 0))),
 pP (gO 32 23 true (.mov (.tmp 3))),
 pP (gO 33 23 true (.mov (.tmp 11))),
 pP (gO 34 23 true (.bin .add (.tmp 32) (.tmp 33))),
 pP (gO 35 23 true (.bin .add (.tmp 34) (cI 1))),
 pP (gO 36 23 true (.iaddr 2 (.tmp 31) (.tmp 35))),
 qQ (gO 37 23 true (.load true 2 (.tmp 36)))], 0, [gO 38 23 true (.callv (.tmp 24) [(.tmp 30), (.tmp 37)]),
 gO 39 23 true (.bin .lss (.tmp 38) (cI 0)),
 oO 40 (.pick (.tmp 23) (.tmp 39) (.con (.bool false)))]⟩])
 (.cond (.tmp 40)
 (.reg [mV 41 11,
 oO 42 (.bin .add (.tmp 41) (cI 1)),
 mV 11 42])
 .skip))
 (.seq (.seq (.regd [⟨[pP (mV 43 4),
 pP (mV 44 0),
 pP (mV 45 3),
 pP (mV 46 10),
 pP (oO 47 (.bin .add (.tmp 45) (.tmp 46))),
 pP (oO 48 (.iaddr 2 (.tmp 44) (.tmp 47))),
 qQ (oO 49 (.load true 2 (.tmp 48))),
 pP (mV 50 0),
 pP (mV 51 3),
 pP (mV 52 11),
 pP (oO 53 (.bin .add (.tmp 51) (.tmp 52))),
 pP (oO 54 (.iaddr 2 (.tmp 50) (.tmp 53))),
 qQ (oO 55 (.load true 2 (.tmp 54)))], 0, [oO 56 (.callv (.tmp 43) [(.tmp 49), (.tmp 55)]),
 oO 57 (.bin .lss (.tmp 56) (cI 0)),
 oO 58 (.un .not (.tmp 57))]⟩])
 (.cond (.tmp 58)
 .ret
 .skip))
 (.seq (.regd [⟨[pP (mV 59 0),
 pP (mV 60 3),
 pP (mV 61 10),
 pP (oO 62 (.bin .add (.tmp 60) (.tmp 61))),
 pP (mV 63 0),
 pP (mV 64 3),
 pP (mV 65 11),
 pP (oO 66 (.bin .add (.tmp 64) (.tmp 65))),
 pP (mV 67 0),
 pP (mV 68 3),
 pP (mV 69 11),
 pP (oO 70 (.bin .add (.tmp 68) (.tmp 69))),
 pP (oO 71 (.iaddr 2 (.tmp 67) (.tmp 70))),
 qQ (oO 72 (.load true 2 (.tmp 71))),
 pP (mV 73 0),
 pP (mV 74 3),
 pP (mV 75 10),
 pP (oO 76 (.bin .add (.tmp 74) (.tmp 75))),
 pP (oO 77 (.iaddr 2 (.tmp 73) (.tmp 76))),
 qQ (oO 78 (.load true 2 (.tmp 77))),
 pP (oO 79 (.iaddr 2 (.tmp 59) (.tmp 62))),
 ⟨oN (.store 2 (.tmp 79) (.tmp 72)), false, true, false, 0, [], none⟩], 0, [oO 80 (.iaddr 2 (.tmp 63) (.tmp 66)),
 oN (.store 2 (.tmp 80) (.tmp 78))]⟩])
 (.reg [mV 81 11,
 mV 10 81]))))))))))
def g123 : Fn := ⟨5, 82, [], b123⟩
def b124 : AC :=
 (aR [oO 2 (.mov (.con (.int .u64 0)))]
 (aR [mV 3 0,
 oO 4 (.conv .u64 (.tmp 3)),
 oO 5 (.call 104 [(.tmp 4)]),
 oO 6 (.bin .shl (.con (.int .u64 1)) (.tmp 5)),
 mV 2 6]
 .ret))
def g124 : Fn := ⟨1, 7, [.tmp 2], b124⟩
def b125 : AC :=
 (aR [oO 2 (.mov (.con (.int .u64 0)))]
 (.seq (.regd [⟨[pP (mV 3 0),
 pP (oO 4 (.nilck (.tmp 3))),
 qQ (lD 5 4),
 pP (mV 6 0),
 pP (oO 7 (.nilck (.tmp 6))),
 qQ (lD 8 7),
 pP (oO 9 (.bin .shl (.tmp 8) (.con (.int .u64 13))))], 0, [oO 10 (.bin .xor (.tmp 5) (.tmp 9)),
 oO 11 (.nilck (.tmp 3)),
 oN (.store 1 (.tmp 11) (.tmp 10))]⟩])
 (.seq (.regd [⟨[pP (mV 12 0),
 pP (oO 13 (.nilck (.tmp 12))),
 qQ (lD 14 13),
 pP (mV 15 0),
 pP (oO 16 (.nilck (.tmp 15))),
 qQ (lD 17 16),
 pP (oO 18 (.bin .shr (.tmp 17) (.con (.int .u64 7))))], 0, [oO 19 (.bin .xor (.tmp 14) (.tmp 18)),
 oO 20 (.nilck (.tmp 12)),
 oN (.store 1 (.tmp 20) (.tmp 19))]⟩])
 (.seq (.regd [⟨[pP (mV 21 0),
 pP (oO 22 (.nilck (.tmp 21))),
 qQ (lD 23 22),
 pP (mV 24 0),
 pP (oO 25 (.nilck (.tmp 24))),
 qQ (lD 26 25),
 pP (oO 27 (.bin .shl (.tmp 26) (.con (.int .u64 17))))], 0, [oO 28 (.bin .xor (.tmp 23) (.tmp 27)),
 oO 29 (.nilck (.tmp 21)),
 oN (.store 1 (.tmp 29) (.tmp 28))]⟩])
 (aR [mV 30 0,
 oO 31 (.nilck (.tmp 30)),
 lD 32 31,
 mV 2 32]
 .ret)))))
def g125 : Fn := ⟨1, 33, [.tmp 2], b125⟩
def b126 : AC :=
 (aR [oO 8 (.mov (cI 0))]
 (aR [mV 9 0,
 mV 10 1,
 oO 11 (.bin .sub (.tmp 10) (cI 1)),
 mV 12 1,
 mV 13 1,
 oO 14 (.bin .add (.tmp 13) (cI 1)),
 mV 15 2,
 mV 16 3,
 oO 17 (.call 127 [(.tmp 9), (.tmp 11), (.tmp 12), (.tmp 14), (.tmp 15), (.tmp 16)]),
 mV 8 17]
 .ret))
def g126 : Fn := ⟨4, 18, [.tmp 8], b126⟩
def b127 : AC :=
 (aR [oO 12 (.mov (cI 0))]
 (aR [mV 14 0,
 mV 15 1,
 mV 16 2,
 mV 17 4,
 mV 18 5,
 oO 19 (.call 128 [(.tmp 14), (.tmp 15), (.tmp 16), (.tmp 17), (.tmp 18)]),
 mV 13 19,
 oO 20 (.ext (.tmp 13) 0),
 oO 21 (.ext (.tmp 13) 1),
 mV 1 20,
 mV 2 21]
 (aR [mV 23 0,
 mV 24 2,
 mV 25 3,
 mV 26 4,
 mV 27 5,
 oO 28 (.call 128 [(.tmp 23), (.tmp 24), (.tmp 25), (.tmp 26), (.tmp 27)]),
 mV 22 28,
 oO 29 (.ext (.tmp 22) 0),
 oO 30 (.ext (.tmp 22) 1),
 mV 2 29,
 mV 3 30]
 (aR [mV 32 0,
 mV 33 1,
 mV 34 2,
 mV 35 4,
 mV 36 5,
 oO 37 (.call 128 [(.tmp 32), (.tmp 33), (.tmp 34), (.tmp 35), (.tmp 36)]),
 mV 31 37,
 oO 38 (.ext (.tmp 31) 0),
 oO 39 (.ext (.tmp 31) 1),
 mV 1 38,
 mV 2 39]
 (aR [mV 40 2,
 mV 12 40]
 .ret)))))
def g127 : Fn := ⟨6, 41, [.tmp 12], b127⟩
def b128 : AC :=
 (aR [oO 10 (.mov (cI 0)),
 oO 11 (.mov (cI 0))]
 (.seq (.seq (.regd [⟨[pP (mV 12 4),
 pP (mV 13 0),
 pP (mV 14 2),
 pP (oO 15 (.iaddr 2 (.tmp 13) (.tmp 14))),
 qQ (oO 16 (.load true 2 (.tmp 15))),
 pP (mV 17 0),
 pP (mV 18 1),
 pP (oO 19 (.iaddr 2 (.tmp 17) (.tmp 18))),
 qQ (oO 20 (.load true 2 (.tmp 19)))], 0, [oO 21 (.callv (.tmp 12) [(.tmp 16), (.tmp 20)]),
 oO 22 (.bin .lss (.tmp 21) (cI 0))]⟩])
 (.cond (.tmp 22)
 (aR [mV 23 3,
 oO 24 (.nilck (.tmp 23)),
 lD 25 24,
 oO 26 (.bin .add (.tmp 25) (cI 1)),
 oO 27 (.nilck (.tmp 23)),
 oN (.store 1 (.tmp 27) (.tmp 26))]
 (aR [mV 28 2,
 mV 29 1,
 mV 10 28,
 mV 11 29]
 .ret))
 .skip))
 (aR [mV 30 1,
 mV 31 2,
 mV 10 30,
 mV 11 31]
 .ret)))
def g128 : Fn := ⟨5, 32, [.tmp 10, .tmp 11], b128⟩
def fnOf : Nat → Option Fn
 | 8 => some g8
 | 9 => some g9
 | 10 => some g10
 | 13 => some g13
 | 20 => some g20
 | 21 => some g21
 | 22 => some g22
 | 24 => some g24
 | 30 => some g30
 | 38 => some g38
 | 39 => some g39
 | 40 => some g40
 | 41 => some g41
 | 42 => some g42
 | 43 => some g43
 | 44 => some g44
 | 45 => some g45
 | 46 => some g46
 | 47 => some g47
 | 48 => some g48
 | 49 => some g49
 | 50 => some g50
 | 57 => some g57
 | 58 => some g58
 | 59 => some g59
 | 60 => some g60
 | 62 => some g62
 | 65 => some g65
 | 67 => some g67
 | 70 => some g70
 | 71 => some g71
 | 74 => some g74
 | 75 => some g75
 | 77 => some g77
 | 78 => some g78
 | 79 => some g79
 | 80 => some g80
 | 81 => some g81
 | 82 => some g82
 | 83 => some g83
 | 84 => some g84
 | 85 => some g85
 | 86 => some g86
 | 87 => some g87
 | 88 => some g88
 | 89 => some g89
 | 90 => some g90
 | 91 => some g91
 | 92 => some g92
 | 93 => some g93
 | 94 => some g94
 | 95 => some g95
 | 96 => some g96
 | 97 => some g97
 | 98 => some g98
 | 100 => some g100
 | 101 => some g101
 | 103 => some g103
 | 104 => some g104
 | 105 => some g105
 | 106 => some g106
 | 107 => some g107
 | 108 => some g108
 | 109 => some g109
 | 110 => some g110
 | 111 => some g111
 | 112 => some g112
 | 113 => some g113
 | 114 => some g114
 | 115 => some g115
 | 116 => some g116
 | 117 => some g117
 | 118 => some g118
 | 119 => some g119
 | 120 => some g120
 | 121 => some g121
 | 122 => some g122
 | 123 => some g123
 | 124 => some g124
 | 125 => some g125
 | 126 => some g126
 | 127 => some g127
 | 128 => some g128
 | _ => none
def modeOf (f : Nat) : Mode := if f ∈ [48, 86, 108] then .own else if f ∈ [72, 75, 103, 112, 113, 114, 116, 117, 118, 119, 123, 125, 126, 127, 128, 57, 94, 58, 79, 81, 82, 85] then .raw else .pure
def T : Tab := ⟨fnOf, modeOf⟩
end Go.Q.SB
end

section
/- Small functions of seat 08. -/
set_option linter.unusedSimpArgs false
set_option linter.unusedVariables false
namespace Go.Q.SB
open Go.Q
open Nat renaming reduceEqDiff → n1w, reduceAdd → n2w, reduceSub → n3w, reduceLeDiff → n4w, reduceLT → n5w, reduceMul → n6w
open Int renaming reduceBNe → i1w, reduceBEq → i2w, reduceLT → i3w, reduceLE → i4w, reduceGT → i5w
structure Ver where
  b : Int
  e : Int
  v : Option (List Int)
def i32V (x : Int) : V := .int .i32 x
def okI (x : Int) : Bool := decide (-1073741823 ≤ x) && decide (x ≤ 1073741823)
theorem r100 (x : Int) : res T 100 [.int .i32 x] = some (.bool (!okI x)) := by
  refine run_res (run_pure (fn := g100) rfl rfl (by decide) ?_)
  simp only [g100, b100, oO, oN, mV, lD, gO, pP, qQ, cI, aR]
  simp +contextual -implicitDefEqProofs (maxSteps := 2000000) only [↓wP, wQ, wQ1, wQ2, wQ3, wR, boxE, partsOf, ↓reduceIte, n1w, n2w, n3w, n4w, n5w, n6w, reduceCtorEq, i1w, i2w, i3w, i4w, i5w]
  simp only [okI, Option.some.injEq, V.bool.injEq, Bool.not_and]
  congr 1 <;> simp only [← decide_not, Int.not_le]
theorem f100 (x : Int) (fs : Bool) (σ : Sto) (n lk : Nat) : callE T fs 100 [.int .i32 x] σ n lk = some (.bool (!okI x), σ, n) :=
  callE_tr (by decide) (r100 x) (by simp [Tr, Tr_slV]) rfl fs σ n lk
def idxF {α : Type} (p : α → Bool) (l : List α) : Int := match l.findIdx? p with
  | some i => i
  | none => -1
theorem r111 (o : Option (List Int)) (F : Nat) (caps : List V) (p : Int → Bool) (hl : (lst o).length < 9223372036854775808)     (hp : ∀ x fs σ n lk, callE T fs F (i32V x :: caps) σ n lk = some (.bool (p x), σ, n)) : res T 111 [slV 1 i32V o, .fn F caps] = some (.int .i64 (idxF p (lst o))) := by
  refine run_res (run_pure (fn := g111) rfl rfl (by decide) ?_)
  simp only [g111, b111, oO, oN, mV, lD, gO, pP, qQ, cI, aR]
  simp +contextual -implicitDefEqProofs (maxSteps := 2000000) only [↓wP, wQ, wQ1, wQ2, wQ3, wR, boxE, partsOf, ↓reduceIte, n1w, n2w, n3w, n4w, n5w, n6w, reduceCtorEq, i1w, i2w, i3w, i4w, i5w]
  refine WC_for (lst o).length 0 (fun (j : Nat) env _ _ => env 0 = slV 1 i32V o ∧ env 1 = .fn F caps ∧ (lst o).findIdx? p = (((lst o).drop j).findIdx? p).map (· + j)) (by omega) (by decide) (by decide) (fun _ _ => rfl) (fun _ _ _ => rfl) ?_ ?_ _ _ _ rfl rfl ?_
  · intro j env σ n hj h1 h2 ⟨h3, h4, h5⟩
    simp only [vl_tmp] at h2
    have hx : (lst o)[j]? = some (lst o)[j] := List.getElem?_eq_getElem hj
    have hp' := hp (lst o)[j]
    simp only [i32V] at hp'
    simp +contextual -implicitDefEqProofs (maxSteps := 2000000) only [↓wP, wQ, wQ1, wQ2, wQ3, wR, boxE, partsOf, ↓reduceIte, n1w, n2w, n3w, n4w, n5w, n6w, reduceCtorEq, i1w, i2w, i3w, i4w, i5w, h1, h2, h3, h4, hx, i32V, hp']
    rw [List.drop_eq_getElem_cons hj, List.findIdx?_cons] at h5
    refine condC_split (fun hb => ?_) (fun hb => ?_)
    · simp +contextual -implicitDefEqProofs (maxSteps := 2000000) only [↓wP, wQ, wQ1, wQ2, wQ3, wR, boxE, partsOf, ↓reduceIte, n1w, n2w, n3w, n4w, n5w, n6w, reduceCtorEq, i1w, i2w, i3w, i4w, i5w]
      simp [idxF, h5, hb]
    · simp +contextual -implicitDefEqProofs (maxSteps := 2000000) only [↓wP, wQ, wQ1, wQ2, wQ3, wR, boxE, partsOf, ↓reduceIte, n1w, n2w, n3w, n4w, n5w, n6w, reduceCtorEq, i1w, i2w, i3w, i4w, i5w, h1, h2, h3, h4]
      rw [h5, hb]
      simp only [Bool.false_eq_true, if_false, Option.map_map, Function.comp_def]
      congr 1; funext i; omega
  · intro env σ n ⟨h3, h4, h5⟩ h1 h2
    simp +contextual -implicitDefEqProofs (maxSteps := 2000000) only [↓wP, wQ, wQ1, wQ2, wQ3, wR, boxE, partsOf, ↓reduceIte, n1w, n2w, n3w, n4w, n5w, n6w, reduceCtorEq, i1w, i2w, i3w, i4w, i5w]
    simp [idxF, h5]
  · exact ⟨rfl, rfl, by simp⟩
theorem idxF_any {α : Type} (p : α → Bool) (l : List α) : decide (0 ≤ idxF p l) = l.any p := by
  unfold idxF
  cases h : l.findIdx? p with
  | none =>
    simp only [List.findIdx?_eq_none_iff] at h
    simp only [Int.reduceNeg, Int.reduceLE, decide_false]
    exact (List.any_eq_false.2 fun x hx => by simp [h x hx]).symm
  | some i =>
    simp only [List.findIdx?_eq_some_iff_getElem] at h
    obtain ⟨h, h1, -⟩ := h
    simp only [Int.natCast_nonneg, decide_true]
    exact (List.any_eq_true.2 ⟨_, List.getElem_mem h, h1⟩).symm
theorem r101 (o : Option (List Int)) (hl : (lst o).length < 9223372036854775808) : res T 101 [slV 1 i32V o, .fn 100 []] = some (.bool ((lst o).any fun x => !okI x)) := by
  refine run_res (run_pure (fn := g101) rfl rfl (by decide) ?_)
  simp only [g101, b101, oO, oN, mV, lD, gO, pP, qQ, cI, aR]
  have h := r111 o 100 [] (fun x => !okI x) hl (fun x fs σ n lk => f100 x fs σ n lk)
  have hm : T.mode 111 ≠ .raw := by decide
  simp +contextual -implicitDefEqProofs (maxSteps := 2000000) only [↓wP, wQ, wQ1, wQ2, wQ3, wR, boxE, partsOf, ↓reduceIte, n1w, n2w, n3w, n4w, n5w, n6w, reduceCtorEq, i1w, i2w, i3w, i4w, i5w, h, callE_eq hm, idxF_any]
theorem f101 (o : Option (List Int)) (hl : (lst o).length < 9223372036854775808) (fs : Bool) (σ : Sto) (n lk : Nat) : callE T fs 101 [slV 1 i32V o, .fn 100 []] σ n lk = some (.bool ((lst o).any fun x => !okI x), σ, n) :=
  callE_tr (by decide) (r101 o hl) (by simp [Tr, Tr_slV]) rfl fs σ n lk
def okV (o : Option (List Int)) : Bool := decide (0 < (lst o).length) && decide ((lst o).length ≤ 4) && (lst o).all okI
theorem r71 (o : Option (List Int)) (hl : (lst o).length < 9223372036854775808) : res T 71 [slV 1 i32V o] = some (.int .i64 (if okV o then 0 else 150)) := by
  refine run_res (run_pure (fn := g71) rfl rfl (by decide) ?_)
  simp only [g71, b71, oO, oN, mV, lD, gO, pP, qQ, cI, aR]
  have h := f101 o hl
  simp +contextual -implicitDefEqProofs (maxSteps := 2000000) only [↓wP, wQ, wQ1, wQ2, wQ3, wR, boxE, partsOf, ↓reduceIte, n1w, n2w, n3w, n4w, n5w, n6w, reduceCtorEq, i1w, i2w, i3w, i4w, i5w, h]
  have hk : (decide (((lst o).length : Int) < 1) || decide (4 < ((lst o).length : Int)) || (lst o).any fun x => !okI x) = !okV o := by
    unfold okV
    rw [Bool.not_and, Bool.not_and, List.not_all_eq_any_not, ← decide_not, ← decide_not]
    congr 2 <;> exact decide_eq_decide.2 (by omega)
  rw [hk]
  cases hb : okV o <;> simp +contextual -implicitDefEqProofs (maxSteps := 2000000) only [↓wP, wQ, wQ1, wQ2, wQ3, wR, boxE, partsOf, ↓reduceIte, n1w, n2w, n3w, n4w, n5w, n6w, reduceCtorEq, i1w, i2w, i3w, i4w, i5w]
theorem f71 (o : Option (List Int)) (hl : (lst o).length < 9223372036854775808) (fs : Bool) (σ : Sto) (n lk : Nat) : callE T fs 71 [slV 1 i32V o] σ n lk = some (.int .i64 (if okV o then 0 else 150), σ, n) :=
  callE_tr (by decide) (r71 o hl) (by simp [Tr, Tr_slV]) rfl fs σ n lk
end Go.Q.SB
end

section
/- More functions of seat 08: equality, what may be, last traces. -/
set_option linter.unusedSimpArgs false
set_option linter.unusedVariables false
namespace Go.Q.SB
open Go.Q
open Nat renaming reduceEqDiff → n1w, reduceAdd → n2w, reduceSub → n3w, reduceLeDiff → n4w, reduceLT → n5w, reduceMul → n6w
open Int renaming reduceBNe → i1w, reduceBEq → i2w, reduceLT → i3w, reduceLE → i4w, reduceGT → i5w
theorem eq_drop {α : Type} [BEq α] {a b : List α} {j : Nat} (ha : j < a.length) (hb : j < b.length) : (a.drop j == b.drop j) = (a[j] == b[j] && a.drop (j + 1) == b.drop (j + 1)) := by
  rw [List.drop_eq_getElem_cons ha, List.drop_eq_getElem_cons hb]
  rfl
theorem eq_len {α : Type} [BEq α] : ∀ {a b : List α}, a.length ≠ b.length → (a == b) = false
  | [], [], h => absurd rfl h
  | [], _ :: _, _ => rfl
  | _ :: _, [], _ => rfl
  | x :: a, y :: b, h => by
    show (x == y && a == b) = false
    rw [eq_len (a := a) (b := b) (by simpa using h)]
    simp
theorem r91 (a b : Option (List Int)) (ha : (lst a).length < 9223372036854775808) : res T 91 [slV 1 i32V a, slV 1 i32V b] = some (.bool (lst a == lst b)) := by
  refine run_res (run_pure (fn := g91) rfl rfl (by decide) ?_)
  simp only [g91, b91, oO, oN, mV, lD, gO, pP, qQ, cI, aR]
  simp +contextual -implicitDefEqProofs (maxSteps := 2000000) only [↓wP, wQ, wQ1, wQ2, wQ3, wR, boxE, partsOf, ↓reduceIte, n1w, n2w, n3w, n4w, n5w, n6w, reduceCtorEq, i1w, i2w, i3w, i4w, i5w]
  by_cases hl : (lst a).length = (lst b).length
  · have hd : (((lst a).length : Int) != ((lst b).length : Int)) = false := by simp [hl]
    simp +contextual -implicitDefEqProofs (maxSteps := 2000000) only [↓wP, wQ, wQ1, wQ2, wQ3, wR, boxE, partsOf, ↓reduceIte, n1w, n2w, n3w, n4w, n5w, n6w, reduceCtorEq, i1w, i2w, i3w, i4w, i5w, hd]
    refine WC_for (lst a).length 0 (fun (j : Nat) env _ _ => env 0 = slV 1 i32V a ∧ env 1 = slV 1 i32V b ∧ (lst a == lst b) = ((lst a).drop j == (lst b).drop j)) (by omega) (by decide) (by decide) (fun _ _ => rfl) (fun _ _ _ => rfl) ?_ ?_ _ _ _ rfl rfl ?_
    · intro j env σ n hj h1 h2 ⟨h3, h4, h5⟩
      simp only [vl_tmp] at h2
      have hjb : j < (lst b).length := by omega
      have hx : (lst a)[j]? = some (lst a)[j] := List.getElem?_eq_getElem hj
      have hy : (lst b)[j]? = some (lst b)[j] := List.getElem?_eq_getElem hjb
      rw [eq_drop hj hjb] at h5
      simp +contextual -implicitDefEqProofs (maxSteps := 2000000) only [↓wP, wQ, wQ1, wQ2, wQ3, wR, boxE, partsOf, ↓reduceIte, n1w, n2w, n3w, n4w, n5w, n6w, reduceCtorEq, i1w, i2w, i3w, i4w, i5w, h1, h2, h3, h4, hx, hy, i32V]
      refine condC_split (fun hb => ?_) (fun hb => ?_)
      · have e1 : ((lst a)[j] == (lst b)[j]) = false := by simpa using hb
        rw [e1, Bool.false_and] at h5
        simp +contextual -implicitDefEqProofs (maxSteps := 2000000) only [↓wP, wQ, wQ1, wQ2, wQ3, wR, boxE, partsOf, ↓reduceIte, n1w, n2w, n3w, n4w, n5w, n6w, reduceCtorEq, i1w, i2w, i3w, i4w, i5w, h5]
      · have e1 : ((lst a)[j] == (lst b)[j]) = true := by simpa using hb
        rw [e1, Bool.true_and] at h5
        simp +contextual -implicitDefEqProofs (maxSteps := 2000000) only [↓wP, wQ, wQ1, wQ2, wQ3, wR, boxE, partsOf, ↓reduceIte, n1w, n2w, n3w, n4w, n5w, n6w, reduceCtorEq, i1w, i2w, i3w, i4w, i5w, h1, h2, h3, h4, h5]
    · intro env σ n ⟨h3, h4, h5⟩ h1 h2
      have e : (lst b).drop (lst a).length = [] := by rw [hl, List.drop_length]
      rw [List.drop_length, e] at h5
      simp +contextual -implicitDefEqProofs (maxSteps := 2000000) only [↓wP, wQ, wQ1, wQ2, wQ3, wR, boxE, partsOf, ↓reduceIte, n1w, n2w, n3w, n4w, n5w, n6w, reduceCtorEq, i1w, i2w, i3w, i4w, i5w, h5]
    · exact ⟨rfl, rfl, by simp⟩
  · have hd : (((lst a).length : Int) != ((lst b).length : Int)) = true := by simp; omega
    have h5 := eq_len (a := lst a) (b := lst b) hl
    simp +contextual -implicitDefEqProofs (maxSteps := 2000000) only [↓wP, wQ, wQ1, wQ2, wQ3, wR, boxE, partsOf, ↓reduceIte, n1w, n2w, n3w, n4w, n5w, n6w, reduceCtorEq, i1w, i2w, i3w, i4w, i5w, hd, h5]
theorem f91 (a b : Option (List Int)) (ha : (lst a).length < 9223372036854775808) (fs : Bool) (σ : Sto) (n lk : Nat) : callE T fs 91 [slV 1 i32V a, slV 1 i32V b] σ n lk = some (.bool (lst a == lst b), σ, n) :=
  callE_tr (by decide) (r91 a b ha) (by simp [Tr, Tr_slV]) rfl fs σ n lk
theorem r42 (a b : Option (List Int)) (ha : (lst a).length < 9223372036854775808) : res T 42 [slV 1 i32V a, slV 1 i32V b] = some (.bool (lst a == lst b)) := by
  refine run_res (run_pure (fn := g42) rfl rfl (by decide) ?_)
  simp only [g42, b42, oO, oN, mV, lD, gO, pP, qQ, cI, aR]
  have h := f91 a b ha
  simp +contextual -implicitDefEqProofs (maxSteps := 2000000) only [↓wP, wQ, wQ1, wQ2, wQ3, wR, boxE, partsOf, ↓reduceIte, n1w, n2w, n3w, n4w, n5w, n6w, reduceCtorEq, i1w, i2w, i3w, i4w, i5w, h]
theorem f42 (a b : Option (List Int)) (ha : (lst a).length < 9223372036854775808) (fs : Bool) (σ : Sto) (n lk : Nat) : callE T fs 42 [slV 1 i32V a, slV 1 i32V b] σ n lk = some (.bool (lst a == lst b), σ, n) :=
  callE_tr (by decide) (r42 a b ha) (by simp [Tr, Tr_slV]) rfl fs σ n lk
end Go.Q.SB
end

section
/- Vectors: which are the same; the law's own copies. -/
set_option linter.unusedSimpArgs false
set_option linter.unusedVariables false
namespace Go.Q.SB
open Go.Q
abbrev Vc := Option (List Int)
def Sm (v : Vc) : Prop := (lst v).length < 4611686018427387904
theorem r43 (v : Vc) (hv : Sm v) : res T 43 [slV 1 i32V v] = some (slV 1 i32V (some ((lst v).take 5))) := by
  refine run_res (run_pure (fn := g43) rfl rfl (by decide) ?_)
  simp only [g43, b43, oO, oN, mV, lD, gO, pP, qQ, cI, aR]
  obtain ⟨N, hN⟩ : ∃ N, N = min (lst v).length 5 := ⟨_, rfl⟩
  have hmin : (if (5 : Int) < ((lst v).length : Int) then (5 : Int) else ((lst v).length : Int)) = (N : Int) := by split <;> omega
  unfold Sm at hv
  have hNl : N ≤ (lst v).length := by omega
  have hs : lst (sub v 0 N) = (lst v).take 5 := by
    rw [show (lst v).take 5 = (lst v).take N by rw [hN]; exact (List.take_eq_take_min).trans (by rw [Nat.min_comm])]
    cases v <;> simp [sub, lst]
  have hl5 : ((lst v).take 5).length ≤ 5 := by rw [List.length_take]; omega
  have hL : (((lst v).take 5).map i32V).length * 4 ≤ LIM := by rw [List.length_map]; unfold LIM; omega
  generalize (lst v).take 5 = L at *
  simp +contextual -implicitDefEqProofs (maxSteps := 2000000) only [↓wP, wQ, wQ1, wQ2, wQ3, wR, boxE, partsOf, ↓reduceIte, Nat.reduceEqDiff, Nat.reduceAdd, Nat.reduceSub, Nat.reduceLeDiff, Nat.reduceLT, Nat.reduceMul, reduceCtorEq, Int.reduceBNe, Int.reduceBEq, Int.reduceLT, Int.reduceLE, Int.reduceGT, hmin, hNl, hs, hL, true_or]
  have e1 : elems (upd (upd (upd Sto.empty 0 (some (Ob.row 1 []))) 0 none) 1 (some (Ob.row 1 (L.map i32V)))) 1 (.ref 1 0 (L.map i32V).length 1) = some (L.map i32V) := by simp [elems, upd]; exact List.take_of_length_le (by simp)
  show (elems _ _ _).bind _ = _
  rw [e1, Option.bind_some, mapM_id (fun x hx => by obtain ⟨y, -, rfl⟩ := List.mem_map.1 hx; rfl)]
  rfl
def cut (v : Vc) : Vc := some ((lst v).take 5)
theorem f43 (v : Vc) (hv : Sm v) (fs : Bool) (σ : Sto) (n lk : Nat) : callE T fs 43 [slV 1 i32V v] σ n lk = some (slV 1 i32V (cut v), σ, n) :=
  callE_tr (by decide) (r43 v hv) (by simp [Tr, Tr_slV]) (Nw_slV _ _ _ _) fs σ n lk
theorem spl {σ : Sto} {m n sz : Nat} {v : V} {o : Option (List V)} (h : Pl σ m n sz v o) (c : V) : spliceC v 0 [c] = c := by
  cases o with
  | none => simp only [Pl] at h; subst h; rfl
  | some xs => obtain ⟨j, rfl, -⟩ := h; rfl
end Go.Q.SB
end

section
/- Facts: plain laws. -/
set_option linter.unusedSimpArgs false
set_option linter.unusedVariables false
namespace Go.Q.SB
open Go.Q
structure Wr where
  c : Int
  id : Int
  g : Bool
  v : Option (List Int)
structure Fa where
  ts : Int
  w : Wr
def wrV (w : Wr) : V := .agg [.int .i64 w.c, .int .u64 w.id, .bool w.g, slV 1 i32V w.v]
def faV (f : Fa) : V := .agg [.int .u64 f.ts, .int .i64 f.w.c, .int .u64 f.w.id, .bool f.w.g, slV 1 i32V f.w.v]
theorem wrV_eq (w : Wr) : wrV w = .agg [.int .i64 w.c, .int .u64 w.id, .bool w.g, slV 1 i32V w.v] := rfl
theorem faV_eq (f : Fa) : faV f = .agg [.int .u64 f.ts, .int .i64 f.w.c, .int .u64 f.w.id, .bool f.w.g, slV 1 i32V f.w.v] := rfl
def okW (w : Wr) : Bool := decide (0 ≤ w.c ∧ w.c < 3) && (if w.g then decide ((lst w.v).length = 0) else okV w.v)
def bef (a b : Wr) : Bool := decide (a.c < b.c) || (a.c == b.c && decide (a.id < b.id))
def okN (l : List Wr) (n : Nat) (w : Wr) : Bool := okW w && (match n with | 0 => true | j + 1 => match l[j]? with | some p => bef p w | none => true)
def wU (l : List Wr) : Nat → Bool
  | 0 => true
  | n + 1 => wU l n && (match l[n]? with | some w => okN l n w | none => true)
def rightW (l : List Wr) : Bool := decide (l.length ≤ 12) && wU l l.length
theorem right1 (w : Wr) : rightW [w] = okW w := by simp [rightW, wU, okN]
theorem right2 (p w : Wr) : rightW [p, w] = (okW p && (okW w && bef p w)) := by simp [rightW, wU, okN]
theorem wU_step {l : List Wr} {n : Nat} (hn : n < l.length) : wU l (n + 1) = (wU l n && okN l n l[n]) := by
  show (wU l n && _) = _
  rw [List.getElem?_eq_getElem hn]
abbrev Ky := Int × Int
def key (w : Wr) : Ky := (w.c, w.id)
theorem bef_key {a b : Wr} (h : bef a b = true) : key a ≠ key b := by
  unfold bef at h
  intro e
  unfold key at e
  simp only [Prod.mk.injEq] at e
  simp [e.1, e.2] at h
theorem bef_trans {a b c : Wr} (h : bef a b = true) (h' : bef b c = true) : bef a c = true := by
  unfold bef at *
  simp only [Bool.or_eq_true, Bool.and_eq_true, decide_eq_true_eq, beq_iff_eq] at *
  omega
def isB (l : List Fa) (k : Ky) : Bool := l.foldl (fun b f => if key f.w = k then !f.w.g else b) false
theorem isB_snoc (l : List Fa) (f : Fa) (k : Ky) : isB (l ++ [f]) k = if key f.w = k then !f.w.g else isB l k := by
  unfold isB; rw [List.foldl_append]; rfl
def aft (p f : Fa) : Bool := decide (p.ts < f.ts) || (p.ts == f.ts && (okW p.w && okW f.w && bef p.w f.w))
def one1 (l : List Fa) (i : Nat) (f : Fa) : Bool := decide (1 ≤ f.ts) && decide (f.ts ≤ 1099511627776) && okW f.w && (match i with | 0 => true | j + 1 => match l[j]? with | some p => aft p f | none => true)
def oneF (l : List Fa) (i : Nat) (f : Fa) : Bool := one1 l i f && (!f.w.g || isB (l.take i) (key f.w))
def okU (l : List Fa) : Nat → Bool
  | 0 => true
  | n + 1 => okU l n && (match l[n]? with | some f => oneF l n f | none => true)
def lt3 (a b : Fa) : Prop := a.ts < b.ts ∨ (a.ts = b.ts ∧ bef a.w b.w = true)
theorem lt3_trans {a b c : Fa} (h : lt3 a b) (h' : lt3 b c) : lt3 a c := by
  unfold lt3 at *
  rcases h with h | ⟨h, h2⟩ <;> rcases h' with h' | ⟨h', h3⟩
  · exact .inl (by omega)
  · exact .inl (by omega)
  · exact .inl (by omega)
  · exact .inr ⟨by omega, bef_trans h2 h3⟩
theorem aft_lt3 {p f : Fa} (h : aft p f = true) : lt3 p f := by
  unfold aft at h
  simp only [Bool.or_eq_true, Bool.and_eq_true, decide_eq_true_eq, beq_iff_eq] at h
  rcases h with h | ⟨h, -, h2⟩
  · exact .inl h
  · exact .inr ⟨h, h2⟩
theorem okU_step {l : List Fa} {n : Nat} (hn : n < l.length) (h : okU l (n + 1) = true) : okU l n = true ∧ oneF l n l[n] = true := by
  unfold okU at h
  rw [List.getElem?_eq_getElem hn, Bool.and_eq_true] at h
  exact h
theorem lt3_all {l : List Fa} : ∀ (n : Nat) (hn : n < l.length), okU l n = true → one1 l n l[n] = true → ∀ j (hj : j < n), lt3 l[j] l[n]
  | 0, _, _, _, j, hj => by omega
  | n + 1, hn, h, h1, j, hj => by
    obtain ⟨h2, h3⟩ := okU_step (by omega) h
    unfold oneF at h3
    rw [Bool.and_eq_true] at h3
    have e : aft l[n] l[n + 1] = true := by
      unfold one1 at h1
      rw [Bool.and_eq_true] at h1
      have := h1.2
      simp only [List.getElem?_eq_getElem (show n < l.length by omega)] at this
      exact this
    have e' := aft_lt3 e
    by_cases hjn : j = n
    · subst hjn; exact e'
    · exact lt3_trans (lt3_all n (by omega) h2 h3.1 j (by omega)) e'
theorem okU_le {l : List Fa} : ∀ {n m : Nat}, m ≤ n → okU l n = true → okU l m = true
  | 0, m, h, _ => by have : m = 0 := by omega
                     subst this; rfl
  | n + 1, m, h, hk => by
    by_cases e : m = n + 1
    · subst e; exact hk
    · unfold okU at hk
      rw [Bool.and_eq_true] at hk
      exact okU_le (by omega) hk.1
def dmp (l : List Fa) (c : Int) : Option Int := l.foldl (fun b f => if f.w.g then b else if f.w.c = c then some ((lst f.w.v).length : Int) else b) none
theorem dmp_snoc (l : List Fa) (f : Fa) (c : Int) : dmp (l ++ [f]) c = if f.w.g then dmp l c else if f.w.c = c then some ((lst f.w.v).length : Int) else dmp l c := by
  unfold dmp; rw [List.foldl_append]; rfl
def dim1 (l : List Fa) (i : Nat) (f : Fa) : Bool := f.w.g || (match dmp (l.take i) f.w.c with | some n => n == ((lst f.w.v).length : Int) | none => true)
def dimU (l : List Fa) : Nat → Bool
  | 0 => true
  | n + 1 => dimU l n && (match l[n]? with | some f => dim1 l n f | none => true)
def dimB (l : List Fa) : Bool := dimU l l.length
def rightF (l : List Fa) : Bool := decide (l.length ≤ 2000) && okU l l.length && dimB l
structure Rw where
  id : Int
  v : Option (List Int)
def rwV (r : Rw) : V := .agg [.int .u64 r.id, slV 1 i32V r.v]
theorem rwV_eq (r : Rw) : rwV r = .agg [.int .u64 r.id, slV 1 i32V r.v] := rfl
def Asc (R : List Rw) : Prop := R.Pairwise fun a b => a.id < b.id
def insR (r : Rw) : List Rw → List Rw
  | [] => [r]
  | x :: s => if r.id < x.id then r :: x :: s else x :: insR r s
def delR (R : List Rw) (id : Int) : List Rw := R.filter fun r => decide (r.id ≠ id)
def putR (R : List Rw) (r : Rw) : List Rw := insR r (delR R r.id)
theorem mem_insR (r x : Rw) : ∀ s, x ∈ insR r s ↔ x = r ∨ x ∈ s
  | [] => by simp [insR]
  | y :: s => by
    unfold insR
    split
    · simp
    · simp only [List.mem_cons, mem_insR r x s]
      constructor
      · rintro (h | h | h) <;> simp [h]
      · rintro (h | h | h) <;> simp [h]
theorem asc_insR (r : Rw) : ∀ {s : List Rw}, Asc s → (∀ x ∈ s, x.id ≠ r.id) → Asc (insR r s)
  | [], _, _ => List.pairwise_singleton _ _
  | y :: s, h, hn => by
    obtain ⟨h1, h2⟩ := List.pairwise_cons.1 h
    unfold insR
    split
    · rename_i hlt
      exact List.pairwise_cons.2 ⟨fun z hz => by
        rcases List.mem_cons.1 hz with rfl | hz
        · exact hlt
        · have := h1 z hz; omega, h⟩
    · rename_i hlt
      refine List.pairwise_cons.2 ⟨fun z hz => ?_, asc_insR r h2 (fun x hx => hn x (List.mem_cons_of_mem _ hx))⟩
      rcases (mem_insR r z s).1 hz with rfl | hz
      · have := hn y (List.mem_cons_self); omega
      · exact h1 z hz
theorem asc_delR {R : List Rw} (h : Asc R) (id : Int) : Asc (delR R id) := List.Pairwise.sublist List.filter_sublist h
theorem mem_delR {R : List Rw} {id : Int} {x : Rw} : x ∈ delR R id ↔ x ∈ R ∧ x.id ≠ id := by simp [delR]
theorem asc_putR {R : List Rw} (h : Asc R) (r : Rw) : Asc (putR R r) := asc_insR r (asc_delR h _) (fun x hx => (mem_delR.1 hx).2)
theorem mem_putR {R : List Rw} {r x : Rw} : x ∈ putR R r ↔ x = r ∨ (x ∈ R ∧ x.id ≠ r.id) := by
  unfold putR
  rw [mem_insR, mem_delR]
theorem asc_uniq : ∀ {R S : List Rw}, Asc R → Asc S → (∀ x, x ∈ R ↔ x ∈ S) → R = S
  | [], [], _, _, _ => rfl
  | [], y :: S, _, _, h => by have := (h y).2 List.mem_cons_self; simp at this
  | x :: R, [], _, _, h => by have := (h x).1 List.mem_cons_self; simp at this
  | x :: R, y :: S, hR, hS, h => by
    obtain ⟨r1, r2⟩ := List.pairwise_cons.1 hR
    obtain ⟨s1, s2⟩ := List.pairwise_cons.1 hS
    have e : x = y := by
      rcases List.mem_cons.1 ((h x).1 List.mem_cons_self) with e | e
      · exact e
      · rcases List.mem_cons.1 ((h y).2 List.mem_cons_self) with e' | e'
        · exact e'.symm
        · have := s1 x e; have := r1 y e'; omega
    subst e
    rw [asc_uniq r2 s2 (fun z => ?_)]
    constructor
    · intro hz
      rcases List.mem_cons.1 ((h z).1 (List.mem_cons_of_mem _ hz)) with e | e
      · subst e; have := r1 z hz; omega
      · exact e
    · intro hz
      rcases List.mem_cons.1 ((h z).2 (List.mem_cons_of_mem _ hz)) with e | e
      · subst e; have := s1 z hz; omega
      · exact e
def RM (R : List Rw) (L : List (En Int (Option (List Int)))) : Prop := Asc R ∧ ∀ id v, (⟨id, v⟩ : Rw) ∈ R ↔ vw L id = some v
end Go.Q.SB
end

section
/- Writes: which may be. -/
set_option linter.unusedSimpArgs false
set_option linter.unusedVariables false
namespace Go.Q.SB
open Go.Q
open Nat renaming reduceEqDiff → n1w, reduceAdd → n2w, reduceSub → n3w, reduceLeDiff → n4w, reduceLT → n5w, reduceMul → n6w
open Int renaming reduceBNe → i1w, reduceBEq → i2w, reduceLT → i3w, reduceLE → i4w, reduceGT → i5w
@[simp] theorem Tr_wrV (w : Wr) (k : Nat) : Tr (k + 2) (wrV w) = true := by simp [wrV, Tr, Tr_slV]
@[simp] theorem Tr_faV (f : Fa) (k : Nat) : Tr (k + 2) (faV f) = true := by simp [faV, Tr, Tr_slV]
def cmpU (x y : Int) : Int := if x < y then -1 else if y < x then 1 else 0
theorem r105 (x : Int) : res T 105 [.int .u64 x] = some (.bool false) := by
  refine run_res (run_pure (fn := g105) rfl rfl (by decide) ?_)
  simp only [g105, b105, oO, oN, mV, lD, gO, pP, qQ, cI, aR]
  simp +contextual -implicitDefEqProofs (maxSteps := 2000000) only [↓wP, wQ, wQ1, wQ2, wQ3, wR, boxE, partsOf, ↓reduceIte, n1w, n2w, n3w, n4w, n5w, n6w, reduceCtorEq, i1w, i2w, i3w, i4w, i5w]
theorem f105 (x : Int) (fs : Bool) (σ : Sto) (n lk : Nat) : callE T fs 105 [.int .u64 x] σ n lk = some (.bool false, σ, n) :=
  callE_tr (by decide) (r105 x) (by simp [Tr, Tr_slV]) rfl fs σ n lk
theorem r77 (x y : Int) : res T 77 [.int .u64 x, .int .u64 y] = some (.int .i64 (cmpU x y)) := by
  refine run_res (run_pure (fn := g77) rfl rfl (by decide) ?_)
  simp only [g77, b77, oO, oN, mV, lD, gO, pP, qQ, cI, aR]
  simp +contextual -implicitDefEqProofs (maxSteps := 2000000) only [↓wP, wQ, wQ1, wQ2, wQ3, wR, boxE, partsOf, ↓reduceIte, n1w, n2w, n3w, n4w, n5w, n6w, reduceCtorEq, i1w, i2w, i3w, i4w, i5w, f105]
  unfold cmpU
  by_cases h1 : x < y
  · simp +contextual -implicitDefEqProofs (maxSteps := 2000000) only [↓wP, wQ, wQ1, wQ2, wQ3, wR, boxE, partsOf, ↓reduceIte, n1w, n2w, n3w, n4w, n5w, n6w, reduceCtorEq, i1w, i2w, i3w, i4w, i5w, h1]
  · by_cases h2 : y < x
    · simp +contextual -implicitDefEqProofs (maxSteps := 2000000) only [↓wP, wQ, wQ1, wQ2, wQ3, wR, boxE, partsOf, ↓reduceIte, n1w, n2w, n3w, n4w, n5w, n6w, reduceCtorEq, i1w, i2w, i3w, i4w, i5w, h1, h2]
    · simp +contextual -implicitDefEqProofs (maxSteps := 2000000) only [↓wP, wQ, wQ1, wQ2, wQ3, wR, boxE, partsOf, ↓reduceIte, n1w, n2w, n3w, n4w, n5w, n6w, reduceCtorEq, i1w, i2w, i3w, i4w, i5w, h1, h2]
theorem f77 (x y : Int) (fs : Bool) (σ : Sto) (n lk : Nat) : callE T fs 77 [.int .u64 x, .int .u64 y] σ n lk = some (.int .i64 (cmpU x y), σ, n) :=
  callE_tr (by decide) (r77 x y) (by simp [Tr, Tr_slV]) rfl fs σ n lk
theorem r122 (x : Int) : res T 122 [.int .i64 x] = some (.bool false) := by
  refine run_res (run_pure (fn := g122) rfl rfl (by decide) ?_)
  simp only [g122, b122, oO, oN, mV, lD, gO, pP, qQ, cI, aR]
  simp +contextual -implicitDefEqProofs (maxSteps := 2000000) only [↓wP, wQ, wQ1, wQ2, wQ3, wR, boxE, partsOf, ↓reduceIte, n1w, n2w, n3w, n4w, n5w, n6w, reduceCtorEq, i1w, i2w, i3w, i4w, i5w]
theorem f122 (x : Int) (fs : Bool) (σ : Sto) (n lk : Nat) : callE T fs 122 [.int .i64 x] σ n lk = some (.bool false, σ, n) :=
  callE_tr (by decide) (r122 x) (by simp [Tr, Tr_slV]) rfl fs σ n lk
theorem r110 (x y : Int) : res T 110 [.int .i64 x, .int .i64 y] = some (.int .i64 (cmpU x y)) := by
  refine run_res (run_pure (fn := g110) rfl rfl (by decide) ?_)
  simp only [g110, b110, oO, oN, mV, lD, gO, pP, qQ, cI, aR]
  simp +contextual -implicitDefEqProofs (maxSteps := 2000000) only [↓wP, wQ, wQ1, wQ2, wQ3, wR, boxE, partsOf, ↓reduceIte, n1w, n2w, n3w, n4w, n5w, n6w, reduceCtorEq, i1w, i2w, i3w, i4w, i5w, f122]
  unfold cmpU
  by_cases h1 : x < y
  · simp +contextual -implicitDefEqProofs (maxSteps := 2000000) only [↓wP, wQ, wQ1, wQ2, wQ3, wR, boxE, partsOf, ↓reduceIte, n1w, n2w, n3w, n4w, n5w, n6w, reduceCtorEq, i1w, i2w, i3w, i4w, i5w, h1]
  · by_cases h2 : y < x
    · simp +contextual -implicitDefEqProofs (maxSteps := 2000000) only [↓wP, wQ, wQ1, wQ2, wQ3, wR, boxE, partsOf, ↓reduceIte, n1w, n2w, n3w, n4w, n5w, n6w, reduceCtorEq, i1w, i2w, i3w, i4w, i5w, h1, h2]
    · simp +contextual -implicitDefEqProofs (maxSteps := 2000000) only [↓wP, wQ, wQ1, wQ2, wQ3, wR, boxE, partsOf, ↓reduceIte, n1w, n2w, n3w, n4w, n5w, n6w, reduceCtorEq, i1w, i2w, i3w, i4w, i5w, h1, h2]
theorem f110 (x y : Int) (fs : Bool) (σ : Sto) (n lk : Nat) : callE T fs 110 [.int .i64 x, .int .i64 y] σ n lk = some (.int .i64 (cmpU x y), σ, n) :=
  callE_tr (by decide) (r110 x y) (by simp [Tr, Tr_slV]) rfl fs σ n lk
theorem r109 (a b : Int) : res T 109 [.sl 1 [.int .i64 a, .int .i64 b]] = some (.int .i64 (if a = 0 then b else a)) := by
  refine run_res (run_pure (fn := g109) rfl rfl (by decide) ?_)
  simp only [g109, b109, oO, oN, mV, lD, gO, pP, qQ, cI, aR]
  simp +contextual -implicitDefEqProofs (maxSteps := 2000000) only [↓wP, wQ, wQ1, wQ2, wQ3, wR, boxE, partsOf, ↓reduceIte, n1w, n2w, n3w, n4w, n5w, n6w, reduceCtorEq, i1w, i2w, i3w, i4w, i5w]
  refine WC_for 2 0 (fun (j : Nat) env σ n => env 3 = .int .i64 0 ∧ env 6 = .sl 1 [.int .i64 a, .int .i64 b] ∧ (0 < j → a = 0) ∧ (1 < j → b = 0)) (by omega) (by decide) (by decide) (fun _ _ => rfl) (fun _ _ _ => rfl) ?_ ?_ _ _ _ rfl rfl ?_
  · intro j env σ n hj h1 h2 ⟨h3, h4, h5, h6⟩
    simp only [vl_tmp] at h2
    match j, hj with
    | 0, _ =>
      by_cases ha : a = 0
      · have hd : (a != 0) = false := by simp [ha]
        simp +contextual -implicitDefEqProofs (maxSteps := 2000000) only [↓wP, wQ, wQ1, wQ2, wQ3, wR, boxE, partsOf, ↓reduceIte, n1w, n2w, n3w, n4w, n5w, n6w, reduceCtorEq, i1w, i2w, i3w, i4w, i5w, h1, h2, h3, h4, hd]
        exact ⟨fun _ => ha, fun h => h.elim⟩
      · have hd : (a != 0) = true := by simp [ha]
        simp +contextual -implicitDefEqProofs (maxSteps := 2000000) only [↓wP, wQ, wQ1, wQ2, wQ3, wR, boxE, partsOf, ↓reduceIte, n1w, n2w, n3w, n4w, n5w, n6w, reduceCtorEq, i1w, i2w, i3w, i4w, i5w, h1, h2, h3, h4, hd, ha]
    | 1, _ =>
      have ha := h5 (by omega)
      by_cases hb : b = 0
      · have hd : (b != 0) = false := by simp [hb]
        simp +contextual -implicitDefEqProofs (maxSteps := 2000000) only [↓wP, wQ, wQ1, wQ2, wQ3, wR, boxE, partsOf, ↓reduceIte, n1w, n2w, n3w, n4w, n5w, n6w, reduceCtorEq, i1w, i2w, i3w, i4w, i5w, h1, h2, h3, h4, hd]
        exact ⟨fun _ => ha, fun _ => hb⟩
      · have hd : (b != 0) = true := by simp [hb]
        simp +contextual -implicitDefEqProofs (maxSteps := 2000000) only [↓wP, wQ, wQ1, wQ2, wQ3, wR, boxE, partsOf, ↓reduceIte, n1w, n2w, n3w, n4w, n5w, n6w, reduceCtorEq, i1w, i2w, i3w, i4w, i5w, h1, h2, h3, h4, hd, ha]
  · intro env σ n ⟨h3, h4, h5, h6⟩ h1 h2
    have ha : a = 0 := h5 (by decide)
    have hb : b = 0 := h6 (by decide)
    simp +contextual -implicitDefEqProofs (maxSteps := 2000000) only [↓wP, wQ, wQ1, wQ2, wQ3, wR, boxE, partsOf, ↓reduceIte, n1w, n2w, n3w, n4w, n5w, n6w, reduceCtorEq, i1w, i2w, i3w, i4w, i5w, h3, ha, hb]
  · simp +contextual -implicitDefEqProofs (maxSteps := 2000000) only [↓wP, wQ, wQ1, wQ2, wQ3, wR, boxE, partsOf, ↓reduceIte, n1w, n2w, n3w, n4w, n5w, n6w, reduceCtorEq, i1w, i2w, i3w, i4w, i5w]
    exact ⟨fun h => absurd h (by decide), fun h => absurd h (by decide)⟩
theorem f109 (a b : Int) (fs : Bool) (σ : Sto) (n lk : Nat) : callE T fs 109 [.sl 1 [.int .i64 a, .int .i64 b]] σ n lk = some (.int .i64 (if a = 0 then b else a), σ, n) :=
  callE_tr (by decide) (r109 a b) (by simp [Tr, Tr_slV]) rfl fs σ n lk
theorem r44 (a b : Int) : res T 44 [.sl 1 [.int .i64 a, .int .i64 b]] = some (.int .i64 (if a = 0 then b else a)) := by
  refine run_res (run_pure (fn := g44) rfl rfl (by decide) ?_)
  simp only [g44, b44, oO, oN, mV, lD, gO, pP, qQ, cI, aR]
  simp +contextual -implicitDefEqProofs (maxSteps := 2000000) only [↓wP, wQ, wQ1, wQ2, wQ3, wR, boxE, partsOf, ↓reduceIte, n1w, n2w, n3w, n4w, n5w, n6w, reduceCtorEq, i1w, i2w, i3w, i4w, i5w]
  refine WC_for 2 0 (fun (j : Nat) env σ n => env 3 = .int .i64 0 ∧ env 6 = .sl 1 [.int .i64 a, .int .i64 b] ∧ (0 < j → a = 0) ∧ (1 < j → b = 0)) (by omega) (by decide) (by decide) (fun _ _ => rfl) (fun _ _ _ => rfl) ?_ ?_ _ _ _ rfl rfl ?_
  · intro j env σ n hj h1 h2 ⟨h3, h4, h5, h6⟩
    simp only [vl_tmp] at h2
    match j, hj with
    | 0, _ =>
      by_cases ha : a = 0
      · have hd : (a != 0) = false := by simp [ha]
        simp +contextual -implicitDefEqProofs (maxSteps := 2000000) only [↓wP, wQ, wQ1, wQ2, wQ3, wR, boxE, partsOf, ↓reduceIte, n1w, n2w, n3w, n4w, n5w, n6w, reduceCtorEq, i1w, i2w, i3w, i4w, i5w, h1, h2, h3, h4, hd]
        exact ⟨fun _ => ha, fun h => h.elim⟩
      · have hd : (a != 0) = true := by simp [ha]
        simp +contextual -implicitDefEqProofs (maxSteps := 2000000) only [↓wP, wQ, wQ1, wQ2, wQ3, wR, boxE, partsOf, ↓reduceIte, n1w, n2w, n3w, n4w, n5w, n6w, reduceCtorEq, i1w, i2w, i3w, i4w, i5w, h1, h2, h3, h4, hd, ha]
    | 1, _ =>
      have ha := h5 (by omega)
      by_cases hb : b = 0
      · have hd : (b != 0) = false := by simp [hb]
        simp +contextual -implicitDefEqProofs (maxSteps := 2000000) only [↓wP, wQ, wQ1, wQ2, wQ3, wR, boxE, partsOf, ↓reduceIte, n1w, n2w, n3w, n4w, n5w, n6w, reduceCtorEq, i1w, i2w, i3w, i4w, i5w, h1, h2, h3, h4, hd]
        exact ⟨fun _ => ha, fun _ => hb⟩
      · have hd : (b != 0) = true := by simp [hb]
        simp +contextual -implicitDefEqProofs (maxSteps := 2000000) only [↓wP, wQ, wQ1, wQ2, wQ3, wR, boxE, partsOf, ↓reduceIte, n1w, n2w, n3w, n4w, n5w, n6w, reduceCtorEq, i1w, i2w, i3w, i4w, i5w, h1, h2, h3, h4, hd, ha]
  · intro env σ n ⟨h3, h4, h5, h6⟩ h1 h2
    have ha : a = 0 := h5 (by decide)
    have hb : b = 0 := h6 (by decide)
    simp +contextual -implicitDefEqProofs (maxSteps := 2000000) only [↓wP, wQ, wQ1, wQ2, wQ3, wR, boxE, partsOf, ↓reduceIte, n1w, n2w, n3w, n4w, n5w, n6w, reduceCtorEq, i1w, i2w, i3w, i4w, i5w, h3, ha, hb]
  · simp +contextual -implicitDefEqProofs (maxSteps := 2000000) only [↓wP, wQ, wQ1, wQ2, wQ3, wR, boxE, partsOf, ↓reduceIte, n1w, n2w, n3w, n4w, n5w, n6w, reduceCtorEq, i1w, i2w, i3w, i4w, i5w]
    exact ⟨fun h => absurd h (by decide), fun h => absurd h (by decide)⟩
theorem f44 (a b : Int) (fs : Bool) (σ : Sto) (n lk : Nat) : callE T fs 44 [.sl 1 [.int .i64 a, .int .i64 b]] σ n lk = some (.int .i64 (if a = 0 then b else a), σ, n) :=
  callE_tr (by decide) (r44 a b) (by simp [Tr, Tr_slV]) rfl fs σ n lk
def collB (c : Int) : Bool := decide (0 ≤ c) && decide (c < 3)
theorem okW_eq (w : Wr) : okW w = (collB w.c && (if w.g then decide ((lst w.v).length = 0) else okV w.v)) := by
  unfold okW collB
  congr 1
  by_cases h1 : 0 ≤ w.c <;> by_cases h2 : w.c < 3 <;> simp [h1, h2]
theorem r70 (c : Int) : res T 70 [.int .i64 c] = some (.bool (collB c)) := by
  refine run_res (run_pure (fn := g70) rfl rfl (by decide) ?_)
  simp only [g70, b70, oO, oN, mV, lD, gO, pP, qQ, cI, aR]
  unfold collB
  by_cases h1 : 0 ≤ c
  · simp +contextual -implicitDefEqProofs (maxSteps := 2000000) only [↓wP, wQ, wQ1, wQ2, wQ3, wR, boxE, partsOf, ↓reduceIte, n1w, n2w, n3w, n4w, n5w, n6w, reduceCtorEq, i1w, i2w, i3w, i4w, i5w, h1]
  · simp +contextual -implicitDefEqProofs (maxSteps := 2000000) only [↓wP, wQ, wQ1, wQ2, wQ3, wR, boxE, partsOf, ↓reduceIte, n1w, n2w, n3w, n4w, n5w, n6w, reduceCtorEq, i1w, i2w, i3w, i4w, i5w, h1]
theorem f70 (c : Int) (fs : Bool) (σ : Sto) (n lk : Nat) : callE T fs 70 [.int .i64 c] σ n lk = some (.bool (collB c), σ, n) :=
  callE_tr (by decide) (r70 c) (by simp [Tr, Tr_slV]) rfl fs σ n lk
theorem r92 (w : Wr) (hw : Sm w.v) : res T 92 [wrV w] = some (.bool (okW w)) := by
  refine run_res (run_pure (fn := g92) rfl rfl (by decide) ?_)
  simp only [g92, b92, oO, oN, mV, lD, gO, pP, qQ, cI, aR]
  have f1 := f70 w.c
  have f2 := f71 w.v (by unfold Sm at hw; omega)
  rw [okW_eq]
  obtain ⟨c, id, g, v⟩ := w
  simp only at *
  cases hc : collB c
  · rw [hc] at f1
    simp +contextual -implicitDefEqProofs (maxSteps := 2000000) only [↓wP, wQ, wQ1, wQ2, wQ3, wR, boxE, partsOf, ↓reduceIte, n1w, n2w, n3w, n4w, n5w, n6w, reduceCtorEq, i1w, i2w, i3w, i4w, i5w, wrV_eq, f1]
  · rw [hc] at f1
    cases g
    · cases ho : okV v
      · rw [ho] at f2
        simp +contextual -implicitDefEqProofs (maxSteps := 2000000) only [↓wP, wQ, wQ1, wQ2, wQ3, wR, boxE, partsOf, ↓reduceIte, n1w, n2w, n3w, n4w, n5w, n6w, reduceCtorEq, i1w, i2w, i3w, i4w, i5w, wrV_eq, f1, f2]
      · rw [ho] at f2
        simp +contextual -implicitDefEqProofs (maxSteps := 2000000) only [↓wP, wQ, wQ1, wQ2, wQ3, wR, boxE, partsOf, ↓reduceIte, n1w, n2w, n3w, n4w, n5w, n6w, reduceCtorEq, i1w, i2w, i3w, i4w, i5w, wrV_eq, f1, f2]
    · by_cases hl : (lst v).length = 0
      · have hl' : (((lst v).length : Int) == 0) = true := by simp [hl]
        simp +contextual -implicitDefEqProofs (maxSteps := 2000000) only [↓wP, wQ, wQ1, wQ2, wQ3, wR, boxE, partsOf, ↓reduceIte, n1w, n2w, n3w, n4w, n5w, n6w, reduceCtorEq, i1w, i2w, i3w, i4w, i5w, wrV_eq, f1, f2, hl']
        simp [hl]
      · have hl' : (((lst v).length : Int) == 0) = false := by simp; exact fun h => hl (by rw [h]; rfl)
        simp +contextual -implicitDefEqProofs (maxSteps := 2000000) only [↓wP, wQ, wQ1, wQ2, wQ3, wR, boxE, partsOf, ↓reduceIte, n1w, n2w, n3w, n4w, n5w, n6w, reduceCtorEq, i1w, i2w, i3w, i4w, i5w, wrV_eq, f1, f2, hl']
        simp [hl]
theorem f92 (w : Wr) (hw : Sm w.v) (fs : Bool) (σ : Sto) (n lk : Nat) : callE T fs 92 [wrV w] σ n lk = some (.bool (okW w), σ, n) :=
  callE_tr (by decide) (r92 w hw) (by simp [Tr, Tr_slV]) rfl fs σ n lk
def cmpW (a b : Wr) : Int := if cmpU a.c b.c = 0 then cmpU a.id b.id else cmpU a.c b.c
theorem cmpW_lt (a b : Wr) : decide (cmpW a b < 0) = bef a b := by
  unfold cmpW cmpU bef
  by_cases h1 : a.c < b.c
  · simp [h1]
  · by_cases h2 : b.c < a.c
    · have : a.c ≠ b.c := by omega
      simp [h1, h2, this]
    · have e : a.c = b.c := by omega
      by_cases h3 : a.id < b.id
      · simp [e, h3]
      · by_cases h4 : b.id < a.id <;> simp [e, h3, h4]
theorem r93 (a b : Wr) : res T 93 [wrV a, wrV b] = some (.int .i64 (cmpW a b)) := by
  refine run_res (run_pure (fn := g93) rfl rfl (by decide) ?_)
  simp only [g93, b93, oO, oN, mV, lD, gO, pP, qQ, cI, aR]
  have h26 := r109 (cmpU a.c b.c) (cmpU a.id b.id)
  have hm26 : T.mode 109 ≠ .raw := by decide
  simp +contextual -implicitDefEqProofs (maxSteps := 2000000) only [↓wP, wQ, wQ1, wQ2, wQ3, wR, boxE, partsOf, ↓reduceIte, n1w, n2w, n3w, n4w, n5w, n6w, reduceCtorEq, i1w, i2w, i3w, i4w, i5w, wrV_eq, f77, f110, callE_eq hm26, frz_rf, h26]
  rfl
theorem f93 (a b : Wr) (fs : Bool) (σ : Sto) (n lk : Nat) : callE T fs 93 [wrV a, wrV b] σ n lk = some (.int .i64 (cmpW a b), σ, n) :=
  callE_tr (by decide) (r93 a b) (by simp [Tr, Tr_slV]) rfl fs σ n lk
def SmW (l : Option (List Wr)) : Prop := (lst l).length < 4611686018427387904 ∧ ∀ w ∈ lst l, Sm w.v
end Go.Q.SB
end

section
/- Writes: both checks; keys and times of facts. -/
set_option linter.unusedSimpArgs false
set_option linter.unusedVariables false
namespace Go.Q.SB
open Go.Q
open Nat renaming reduceEqDiff → n1w, reduceAdd → n2w, reduceSub → n3w, reduceLeDiff → n4w, reduceLT → n5w, reduceMul → n6w
open Int renaming reduceBNe → i1w, reduceBEq → i2w, reduceLT → i3w, reduceLE → i4w, reduceGT → i5w
theorem r45 (o : Option (List Wr)) (h : SmW o) : res T 45 [slV 4 wrV o] = some (.int .i64 (if rightW (lst o) then 0 else 260)) := by
  refine run_res (run_pure (fn := g45) rfl rfl (by decide) ?_)
  simp only [g45, b45, oO, oN, mV, lD, gO, pP, qQ, cI, aR]
  have hl := h.1
  obtain ⟨A, hA⟩ : ∃ A, A = decide ((lst o).length ≤ 12) := ⟨_, rfl⟩
  have hA' : decide (((lst o).length : Int) ≤ 12) = A := by rw [hA]; exact decide_eq_decide.2 (by omega)
  simp +contextual -implicitDefEqProofs (maxSteps := 2000000) only [↓wP, wQ, wQ1, wQ2, wQ3, wR, boxE, partsOf, ↓reduceIte, n1w, n2w, n3w, n4w, n5w, n6w, reduceCtorEq, i1w, i2w, i3w, i4w, i5w, hA']
  refine WC_for (lst o).length 0 (fun (j : Nat) env σ n => env 0 = slV 4 wrV o ∧ env 9 = slV 4 wrV o ∧ env 3 = .bool (A && wU (lst o) j)) (by omega) (by decide) (by decide) (fun _ _ => rfl) (fun _ _ _ => rfl) ?_ ?_ _ _ _ rfl rfl ?_
  · intro j env σ n hj h1 h2 ⟨g1, g2, g3⟩
    simp only [vl_tmp] at h2
    have hx : (lst o)[j]? = some (lst o)[j] := List.getElem?_eq_getElem hj
    have hw := h.2 _ (List.getElem_mem hj)
    have hst := wU_step hj
    obtain ⟨w, hwx⟩ : ∃ w, w = (lst o)[j] := ⟨_, rfl⟩
    rw [← hwx] at hx hw hst
    have f := f92 w hw
    rw [wrV_eq] at f
    have y0 : ∀ σ' : Sto, ∀ hid, hide σ' (n + 1) (n + 1) hid n = σ' n := fun σ' hid => hide_low _ _ _ _ (by omega) (Nat.le_refl _)
    cases hB : (A && wU (lst o) j)
    · rw [hB] at g3
      have e : (A && wU (lst o) (j + 1)) = false := by rw [hst, ← Bool.and_assoc, hB]; rfl
      simp +contextual -implicitDefEqProofs (maxSteps := 2000000) only [↓wP, wQ, wQ1, wQ2, wQ3, wR, boxE, partsOf, ↓reduceIte, n1w, n2w, n3w, n4w, n5w, n6w, reduceCtorEq, i1w, i2w, i3w, i4w, i5w, h1, h2, g1, g2, g3, hx, wrV_eq]
      rw [e]
    · rw [hB] at g3
      have e : (A && wU (lst o) (j + 1)) = okN (lst o) j w := by rw [hst, ← Bool.and_assoc, hB, Bool.true_and]
      rw [e]
      cases ho : okW w
      · rw [ho] at f
        have e2 : okN (lst o) j w = false := by unfold okN; rw [ho]; rfl
        simp +contextual -implicitDefEqProofs (maxSteps := 2000000) only [↓wP, wQ, wQ1, wQ2, wQ3, wR, boxE, partsOf, ↓reduceIte, n1w, n2w, n3w, n4w, n5w, n6w, reduceCtorEq, i1w, i2w, i3w, i4w, i5w, h1, h2, g1, g2, g3, hx, wrV_eq, f]
        rw [e2]
      · rw [ho] at f
        by_cases hj0 : j = 0
        · have hz : ((j : Int) == 0) = true := by simp [hj0]
          have e2 : okN (lst o) j w = true := by subst hj0; unfold okN; rw [ho]; rfl
          simp +contextual -implicitDefEqProofs (maxSteps := 2000000) only [↓wP, wQ, wQ1, wQ2, wQ3, wR, boxE, partsOf, ↓reduceIte, n1w, n2w, n3w, n4w, n5w, n6w, reduceCtorEq, i1w, i2w, i3w, i4w, i5w, h1, h2, g1, g2, g3, hx, wrV_eq, f, hz]
          rw [e2]
        · have hz : ((j : Int) == 0) = false := by simp [hj0]
          have wj : IntKind.i64.wrap ((j : Int) - 1) = ((j - 1 : Nat) : Int) := by rw [wrap_i64] <;> omega
          have hx2 : (lst o)[j - 1]? = some (lst o)[j - 1] := List.getElem?_eq_getElem (by omega)
          obtain ⟨p, hp⟩ : ∃ p, p = (lst o)[j - 1] := ⟨_, rfl⟩
          rw [← hp] at hx2
          have e2 : okN (lst o) j w = decide (cmpW p w < 0) := by
            rw [cmpW_lt]
            obtain ⟨i, rfl⟩ : ∃ i, j = i + 1 := ⟨j - 1, by omega⟩
            unfold okN
            rw [show i + 1 - 1 = i from rfl] at hx2
            simp [hx2, ho]
          have fc := f93 p w
          rw [wrV_eq, wrV_eq] at fc
          simp +contextual -implicitDefEqProofs (maxSteps := 2000000) only [↓wP, wQ, wQ1, wQ2, wQ3, wR, boxE, partsOf, ↓reduceIte, n1w, n2w, n3w, n4w, n5w, n6w, reduceCtorEq, i1w, i2w, i3w, i4w, i5w, h1, h2, g1, g2, g3, hx, hx2, wrV_eq, f, hz, wj, y0, upd_self, fc]
          rw [e2]
  · intro env σ n ⟨g1, g2, g3⟩ h1 h2
    have e : (A && wU (lst o) (lst o).length) = rightW (lst o) := by rw [hA]; rfl
    rw [e] at g3
    cases hr : rightW (lst o)
    · rw [hr] at g3
      simp +contextual -implicitDefEqProofs (maxSteps := 2000000) only [↓wP, wQ, wQ1, wQ2, wQ3, wR, boxE, partsOf, ↓reduceIte, n1w, n2w, n3w, n4w, n5w, n6w, reduceCtorEq, i1w, i2w, i3w, i4w, i5w, g3]
    · rw [hr] at g3
      simp +contextual -implicitDefEqProofs (maxSteps := 2000000) only [↓wP, wQ, wQ1, wQ2, wQ3, wR, boxE, partsOf, ↓reduceIte, n1w, n2w, n3w, n4w, n5w, n6w, reduceCtorEq, i1w, i2w, i3w, i4w, i5w, g3]
  · simp +contextual -implicitDefEqProofs (maxSteps := 2000000) only [↓wP, wQ, wQ1, wQ2, wQ3, wR, boxE, partsOf, ↓reduceIte, n1w, n2w, n3w, n4w, n5w, n6w, reduceCtorEq, i1w, i2w, i3w, i4w, i5w]
    rw [show wU (lst o) 0 = true from rfl, Bool.and_true]
theorem f45 (o : Option (List Wr)) (h : SmW o) (fs : Bool) (σ : Sto) (n lk : Nat) : callE T fs 45 [slV 4 wrV o] σ n lk = some (.int .i64 (if rightW (lst o) then 0 else 260), σ, n) :=
  callE_tr (by decide) (r45 o h) (by simp [Tr, Tr_slV]) rfl fs σ n lk
theorem r62 (l : Option (List Wr)) (h : SmW l) : res T 62 [slV 4 wrV l] = some (.bool (rightW (lst l))) := by
  refine run_res (run_pure (fn := g62) rfl rfl (by decide) ?_)
  simp only [g62, b62, oO, oN, mV, lD, gO, pP, qQ, cI, aR]
  have f := f45 l h
  cases hr : rightW (lst l)
  · rw [hr] at f
    simp +contextual -implicitDefEqProofs (maxSteps := 2000000) only [↓wP, wQ, wQ1, wQ2, wQ3, wR, boxE, partsOf, ↓reduceIte, n1w, n2w, n3w, n4w, n5w, n6w, reduceCtorEq, i1w, i2w, i3w, i4w, i5w, f]
  · rw [hr] at f
    simp +contextual -implicitDefEqProofs (maxSteps := 2000000) only [↓wP, wQ, wQ1, wQ2, wQ3, wR, boxE, partsOf, ↓reduceIte, n1w, n2w, n3w, n4w, n5w, n6w, reduceCtorEq, i1w, i2w, i3w, i4w, i5w, f]
theorem f62 (l : Option (List Wr)) (h : SmW l) (fs : Bool) (σ : Sto) (n lk : Nat) : callE T fs 62 [slV 4 wrV l] σ n lk = some (.bool (rightW (lst l)), σ, n) :=
  callE_tr (by decide) (r62 l h) (by simp [Tr, Tr_slV]) rfl fs σ n lk
def kyV (k : Ky) : V := .agg [.int .i64 k.1, .int .u64 k.2]
theorem r47 (w : Wr) : res T 47 [wrV w] = some (kyV (key w)) := by
  refine run_res (run_pure (fn := g47) rfl rfl (by decide) ?_)
  simp only [g47, b47, oO, oN, mV, lD, gO, pP, qQ, cI, aR]
  simp +contextual -implicitDefEqProofs (maxSteps := 2000000) only [↓wP, wQ, wQ1, wQ2, wQ3, wR, boxE, partsOf, ↓reduceIte, n1w, n2w, n3w, n4w, n5w, n6w, reduceCtorEq, i1w, i2w, i3w, i4w, i5w, wrV_eq, kyV]
  rfl
theorem f47 (w : Wr) (fs : Bool) (σ : Sto) (n lk : Nat) : callE T fs 47 [wrV w] σ n lk = some (kyV (key w), σ, n) := callE_tr (by decide) (r47 w) (by simp) rfl fs σ n lk
def lastT (l : List Fa) : Int := match l.getLast? with | some f => f.ts | none => 0
theorem r46 (l : Option (List Fa)) (hl : (lst l).length < 4611686018427387904) : res T 46 [slV 5 faV l] = some (.int .u64 (lastT (lst l))) := by
  refine run_res (run_pure (fn := g46) rfl rfl (by decide) ?_)
  simp only [g46, b46, oO, oN, mV, lD, gO, pP, qQ, cI, aR]
  unfold lastT
  by_cases h0 : lst l = []
  · have z0 : (((0 : Nat) : Int) == 0) = true := rfl
    simp +contextual -implicitDefEqProofs (maxSteps := 2000000) only [↓wP, wQ, wQ1, wQ2, wQ3, wR, boxE, partsOf, ↓reduceIte, n1w, n2w, n3w, n4w, n5w, n6w, reduceCtorEq, i1w, i2w, i3w, i4w, i5w, h0, List.length_nil, z0]
    rfl
  · have hp : 0 < (lst l).length := List.length_pos_iff.2 h0
    have z0 : (((lst l).length : Int) == 0) = false := by simp; exact h0
    have wj : IntKind.i64.wrap (((lst l).length : Int) - 1) = (((lst l).length - 1 : Nat) : Int) := by rw [wrap_i64] <;> omega
    have hx : (lst l)[(lst l).length - 1]? = some (lst l)[(lst l).length - 1] := List.getElem?_eq_getElem (by omega)
    have hg : (lst l).getLast? = some (lst l)[(lst l).length - 1] := by rw [List.getLast?_eq_getElem?]; exact hx
    rw [hg]
    generalize (lst l)[(lst l).length - 1] = f at *
    simp +contextual -implicitDefEqProofs (maxSteps := 2000000) only [↓wP, wQ, wQ1, wQ2, wQ3, wR, boxE, partsOf, ↓reduceIte, n1w, n2w, n3w, n4w, n5w, n6w, reduceCtorEq, i1w, i2w, i3w, i4w, i5w, z0, wj, hx, faV_eq]
theorem f46 (l : Option (List Fa)) (hl : (lst l).length < 4611686018427387904) (fs : Bool) (σ : Sto) (n lk : Nat) : callE T fs 46 [slV 5 faV l] σ n lk = some (.int .u64 (lastT (lst l)), σ, n) :=
  callE_tr (by decide) (r46 l hl) (by simp [Tr, Tr_slV]) rfl fs σ n lk
end Go.Q.SB
end

section
/- Dimensions; the law's own facts and writes. -/
set_option linter.unusedSimpArgs false
set_option linter.unusedVariables false
namespace Go.Q.SB
open Go.Q
open Nat renaming reduceEqDiff → n1w, reduceAdd → n2w, reduceSub → n3w, reduceLeDiff → n4w, reduceLT → n5w, reduceMul → n6w
open Int renaming reduceBNe → i1w, reduceBEq → i2w, reduceLT → i3w, reduceLE → i4w, reduceGT → i5w
def iV (x : Int) : V := .int .i64 x
theorem keyInt : KeyOk (.one .int) iV := fun a b => rfl
def SmF (l : Option (List Fa)) : Prop := (lst l).length < 4611686018427387904 ∧ ∀ f ∈ lst l, Sm f.w.v
theorem dimU_step {l : List Fa} {n : Nat} (hn : n < l.length) : dimU l (n + 1) = (dimU l n && dim1 l n l[n]) := by
  show (dimU l n && _) = _
  rw [List.getElem?_eq_getElem hn]
theorem dimU_no {l : List Fa} {n : Nat} (h : dimU l n = false) : ∀ m, n ≤ m → dimU l m = false
  | 0, hm => by have : n = 0 := by omega
                subst this; cases h
  | m + 1, hm => by
    by_cases e : n = m + 1
    · subst e; exact h
    · show (dimU l m && _) = false
      rw [dimU_no h m (by omega)]; rfl
theorem r49 (l : Option (List Fa)) (h : SmF l) : res T 49 [slV 5 faV l] = some (.bool (dimB (lst l))) := by
  refine run_res (run_pure (fn := g49) rfl rfl (by decide) ?_)
  simp only [g49, b49, oO, oN, mV, lD, gO, pP, qQ, cI, aR]
  have hl := h.1
  simp +contextual -implicitDefEqProofs (maxSteps := 2000000) only [↓wP, wQ, wQ1, wQ2, wQ3, wR, boxE, partsOf, ↓reduceIte, n1w, n2w, n3w, n4w, n5w, n6w, reduceCtorEq, i1w, i2w, i3w, i4w, i5w]
  refine WC_for (lst l).length 0 (fun (j : Nat) env σ n => env 10 = slV 5 faV l ∧ env 3 = .mp 0 ∧ 1 ≤ n ∧ dimU (lst l) j = true ∧ ∃ Lm clk, MOk Lm clk ∧ σ 0 = some (.map (ens iV iV Lm) clk) ∧ ∀ c, vw Lm c = dmp ((lst l).take j) c) (by omega) (by decide) (by decide) (fun _ _ => rfl) (fun _ _ _ => rfl) ?_ ?_ _ _ _ rfl rfl ?_
  · intro j env σ n hj h1 h2 ⟨g1, g2, g3, g4, Lm, clk, m1, m2, m3⟩
    simp only [vl_tmp] at h2
    have hx : (lst l)[j]? = some (lst l)[j] := List.getElem?_eq_getElem hj
    have hst := dimU_step hj
    rw [g4, Bool.true_and] at hst
    have hds := dmp_snoc ((lst l).take j) (lst l)[j]
    rw [List.take_append_getElem hj] at hds
    have hno : dim1 (lst l) j (lst l)[j] = false → dimB (lst l) = false := fun hk => dimU_no (by rw [hst, hk]) _ (by omega)
    generalize (lst l)[j] = x at *
    obtain ⟨σ1, hσ1⟩ : ∃ σ1, σ1 = upd (upd (upd (upd σ n (some (.row 5 [.agg [.int .u64 0, .int .i64 0, .int .u64 0, .bool false, .nilS]]))) n (some (.row 5 [.agg [.int .u64 x.ts, .int .i64 x.w.c, .int .u64 x.w.id, .bool x.w.g, slV 1 i32V x.w.v]]))) (n + 1) (some (.row 4 [.agg [.int .i64 0, .int .u64 0, .bool false, .nilS]]))) (n + 1) (some (.row 4 [.agg [.int .i64 x.w.c, .int .u64 x.w.id, .bool x.w.g, slV 1 i32V x.w.v]])) := ⟨_, rfl⟩
    have so : ∀ i, i < n → σ1 i = σ i := fun i hi => by rw [hσ1, upd_ne (by omega), upd_ne (by omega), upd_ne (by omega), upd_ne (by omega)]
    have sn : σ1 (n + 1) = some (.row 4 [.agg [.int .i64 x.w.c, .int .u64 x.w.id, .bool x.w.g, slV 1 i32V x.w.v]]) := by rw [hσ1, upd_self]
    have s0 : σ1 0 = some (.map (ens iV iV Lm) clk) := by rw [so 0 (by omega)]; exact m2
    have q0 : (0 = n) = False := by simp; omega
    cases hg : x.w.g
    all_goals rw [hg] at hσ1 sn
    · have hmg : mgetE true (.one .int) (.int .i64 0) (some (ens iV iV Lm)) (.int .i64 x.w.c) = some (.tup [.int .i64 ((vw Lm x.w.c).getD 0), .bool (vw Lm x.w.c).isSome]) := by
        have := mget_ens (ve := iV) keyInt true (.int .i64 0) x.w.c Lm
        simp only [iV] at this
        rw [this]
        cases vw Lm x.w.c <;> rfl
      have pu := mupd_ens (ke := iV) (ve := iV) (lk := 0) keyInt m1 s0 (Nat.zero_le _) x.w.c ((lst x.w.v).length : Int) (n + 2)
      simp only [iV] at pu
      have hnew : ∀ c, vw (mput Lm clk x.w.c ((lst x.w.v).length : Int)).1 c = dmp ((lst l).take (j + 1)) c := by
        intro c
        rw [vw_mput, hds, hg]
        by_cases e : c = x.w.c
        · subst e; simp
        · rw [if_neg e, if_neg (by simp), if_neg (fun h => e h.symm), m3]
      have hd1 : dim1 (lst l) j x = (match vw Lm x.w.c with | some n => n == ((lst x.w.v).length : Int) | none => true) := by
        unfold dim1; rw [hg, m3]; rfl
      cases hv : vw Lm x.w.c
      · rw [hv] at hmg hd1
        simp only [Option.getD_none, Option.isSome_none] at hmg
        simp +contextual -implicitDefEqProofs (maxSteps := 2000000) only [↓wP, wQ, wQ1, wQ2, wQ3, wR, boxE, partsOf, ↓reduceIte, n1w, n2w, n3w, n4w, n5w, n6w, reduceCtorEq, i1w, i2w, i3w, i4w, i5w, h1, h2, g1, g2, hx, faV_eq, ← hσ1, sn, s0, hg, hmg, pu, q0]
        exact ⟨by rw [hst, hd1], _, _, mput_ok m1 _ _, rfl, hnew⟩
      · rename_i d
        rw [hv] at hmg hd1
        simp only [Option.getD_some, Option.isSome_some] at hmg
        cases hd : (d != ((lst x.w.v).length : Int))
        · have hde : (d == ((lst x.w.v).length : Int)) = true := by simpa [bne] using hd
          simp +contextual -implicitDefEqProofs (maxSteps := 2000000) only [↓wP, wQ, wQ1, wQ2, wQ3, wR, boxE, partsOf, ↓reduceIte, n1w, n2w, n3w, n4w, n5w, n6w, reduceCtorEq, i1w, i2w, i3w, i4w, i5w, h1, h2, g1, g2, hx, faV_eq, ← hσ1, sn, s0, hg, hmg, pu, hd, q0]
          exact ⟨by rw [hst, hd1]; exact hde, _, _, mput_ok m1 _ _, rfl, hnew⟩
        · have hde : (d == ((lst x.w.v).length : Int)) = false := by simpa [bne] using hd
          have hk := hno (by rw [hd1]; exact hde)
          simp +contextual -implicitDefEqProofs (maxSteps := 2000000) only [↓wP, wQ, wQ1, wQ2, wQ3, wR, boxE, partsOf, ↓reduceIte, n1w, n2w, n3w, n4w, n5w, n6w, reduceCtorEq, i1w, i2w, i3w, i4w, i5w, h1, h2, g1, g2, hx, faV_eq, ← hσ1, sn, s0, hg, hmg, hd, q0]
          rw [hk]
    · have e1 : dim1 (lst l) j x = true := by unfold dim1; rw [hg]; rfl
      simp +contextual -implicitDefEqProofs (maxSteps := 2000000) only [↓wP, wQ, wQ1, wQ2, wQ3, wR, boxE, partsOf, ↓reduceIte, n1w, n2w, n3w, n4w, n5w, n6w, reduceCtorEq, i1w, i2w, i3w, i4w, i5w, h1, h2, g1, g2, hx, faV_eq, ← hσ1, sn, hg]
      exact ⟨by rw [hst, e1], Lm, clk, m1, s0, fun c => by rw [hds, hg, m3]; rfl⟩
  · intro env σ n ⟨g1, g2, g3, g4, _⟩ h1 h2
    have hk : dimB (lst l) = true := g4
    simp +contextual -implicitDefEqProofs (maxSteps := 2000000) only [↓wP, wQ, wQ1, wQ2, wQ3, wR, boxE, partsOf, ↓reduceIte, n1w, n2w, n3w, n4w, n5w, n6w, reduceCtorEq, i1w, i2w, i3w, i4w, i5w]
    rw [hk]
  · exact ⟨rfl, rfl, Nat.le_refl _, rfl, [], 0, MOk.nil, rfl, fun c => rfl⟩
theorem f49 (l : Option (List Fa)) (h : SmF l) (fs : Bool) (σ : Sto) (n lk : Nat) : callE T fs 49 [slV 5 faV l] σ n lk = some (.bool (dimB (lst l)), σ, n) :=
  callE_tr (by decide) (r49 l h) (by simp [Tr, Tr_slV]) rfl fs σ n lk
def cutF (f : Fa) : Fa := ⟨f.ts, ⟨f.w.c, f.w.id, f.w.g, cut f.w.v⟩⟩
def cutFs (l : Option (List Fa)) : Option (List Fa) := oL (((lst l).take 60).map cutF)
theorem fa_fz {R : List Fa} : (∀ x ∈ R.map faV, Tr 11 x = true) ∧ ∀ x ∈ R.map faV, ∀ c ∈ x.cells, Tr 11 c = true := by
  refine ⟨fun x hx => by obtain ⟨y, -, rfl⟩ := List.mem_map.1 hx; simp [faV_eq, Tr, Tr_slV], fun x hx c hc => ?_⟩
  obtain ⟨y, -, rfl⟩ := List.mem_map.1 hx
  simp only [faV_eq, V.cells, List.mem_cons, List.not_mem_nil, or_false] at hc
  rcases hc with rfl | rfl | rfl | rfl | rfl
  · rfl
  · rfl
  · rfl
  · rfl
  · exact Tr_slV _ _ _ _
theorem r10 (l : Option (List Fa)) (h : SmF l) : res T 10 [slV 5 faV l] = some (slV 5 faV (cutFs l)) := by
  refine run_res (run_pure (fn := g10) rfl rfl (by decide) ?_)
  simp only [g10, b10, oO, oN, mV, lD, gO, pP, qQ, cI, aR]
  have hl := h.1
  simp +contextual -implicitDefEqProofs (maxSteps := 2000000) only [↓wP, wQ, wQ1, wQ2, wQ3, wR, boxE, partsOf, ↓reduceIte, n1w, n2w, n3w, n4w, n5w, n6w, reduceCtorEq, i1w, i2w, i3w, i4w, i5w]
  refine WC_for (lst l).length 0 (fun (j : Nat) env σ n => env 6 = slV 5 faV l ∧ ∃ v, env 3 = v ∧ Pl σ 0 n 5 v (oL ((((lst l).take (min j 60)).map cutF).map faV))) (by omega) (by decide) (by decide) (fun _ _ => rfl) (fun _ _ _ => rfl) ?_ ?_ _ _ _ rfl rfl ?_
  · intro j env σ n hj h1 h2 ⟨h3, v, h4, h5⟩
    simp only [vl_tmp] at h2
    have hx : (lst l)[j]? = some (lst l)[j] := List.getElem?_eq_getElem hj
    have f := f43 _ (h.2 _ (List.getElem_mem hj))
    have ht : (lst l).take (j + 1) = (lst l).take j ++ [(lst l)[j]] := (List.take_append_getElem hj).symm
    generalize (lst l)[j] = x at *
    have hc := h5.cells
    have hsp := spl h5
    obtain ⟨σ1, hσ1⟩ : ∃ σ1, σ1 = upd (upd σ n (some (.row 5 [.agg [.int .u64 0, .int .i64 0, .int .u64 0, .bool false, .nilS]]))) n (some (.row 5 [.agg [.int .u64 x.ts, .int .i64 x.w.c, .int .u64 x.w.id, .bool x.w.g, slV 1 i32V x.w.v]])) := ⟨_, rfl⟩
    have so : ∀ i, i < n → σ1 i = σ i := fun i hi => by rw [hσ1, upd_ne (by omega), upd_ne (by omega)]
    have sn : σ1 n = some (.row 5 [.agg [.int .u64 x.ts, .int .i64 x.w.c, .int .u64 x.w.id, .bool x.w.g, slV 1 i32V x.w.v]]) := by rw [hσ1, upd_self]
    by_cases h6 : (j : Int) < 60
    · rw [show min j 60 = j by omega] at h5
      have hlen : ((((lst l).take j).map cutF).map faV).length = j := by rw [List.length_map, List.length_map, List.length_take]; omega
      simp +contextual -implicitDefEqProofs (maxSteps := 2000000) only [↓wP, wQ, wQ1, wQ2, wQ3, wR, boxE, partsOf, ↓reduceIte, n1w, n2w, n3w, n4w, n5w, n6w, reduceCtorEq, i1w, i2w, i3w, i4w, i5w, h1, h2, h3, h4, hx, faV_eq, h6, f, ← hσ1, sn]
      refine stepW_app1 (m := 0) (n0 := n) (σ0 := σ) h5 (fun i g1 g2 => ?_) (by omega) (by omega) (Nat.zero_le _) ?_ (fun _ σ2 g1 g2 => ?_)
      · rw [upd_ne (by omega), upd_ne (by omega), so i g2]
      · rw [lst_oL, hlen]; unfold LIM; omega
      · rw [lst_oL, hlen] at g1 ⊢
        simp +contextual -implicitDefEqProofs (maxSteps := 2000000) only [↓wP, wQ, wQ1, wQ2, wQ3, wR, boxE, partsOf, ↓reduceIte, n1w, n2w, n3w, n4w, n5w, n6w, reduceCtorEq, i1w, i2w, i3w, i4w, i5w, h1, h2, h3, hc, hsp]
        refine ⟨_, rfl, ?_⟩
        rw [show min (j + 1) 60 = j + 1 by omega, ht, List.map_append, List.map_append]
        have e2 : oL ((((lst l).take j).map cutF).map faV ++ [faV (cutF x)]) = some ((((lst l).take j).map cutF).map faV ++ [faV (cutF x)]) := by
          cases ((lst l).take j) <;> rfl
        simp only [List.map_cons, List.map_nil]
        rw [e2]
        exact g1
    · simp +contextual -implicitDefEqProofs (maxSteps := 2000000) only [↓wP, wQ, wQ1, wQ2, wQ3, wR, boxE, partsOf, ↓reduceIte, n1w, n2w, n3w, n4w, n5w, n6w, reduceCtorEq, i1w, i2w, i3w, i4w, i5w, h1, h2, h3, h4, hx, faV_eq, h6, ← hσ1]
      rw [show min (j + 1) 60 = min j 60 by omega]
      exact ⟨_, rfl, h5.loc (fun i a b => so i b) (by omega)⟩
  · intro env σ n ⟨h3, v, h4, h5⟩ h1 h2
    simp +contextual -implicitDefEqProofs (maxSteps := 2000000) only [↓wP, wQ, wQ1, wQ2, wQ3, wR, boxE, partsOf, ↓reduceIte, n1w, n2w, n3w, n4w, n5w, n6w, reduceCtorEq, i1w, i2w, i3w, i4w, i5w, h4]
    have hf := h5.frz (by rw [lst_oL]; exact fa_fz.1) (by rw [lst_oL]; exact fa_fz.2)
    rw [hf, slV_oL]
    have : (lst l).take (min (lst l).length 60) = (lst l).take 60 := by rw [Nat.min_comm]; exact List.take_eq_take_min.symm
    rw [this]; rfl
  · simp +contextual -implicitDefEqProofs (maxSteps := 2000000) only [↓wP, wQ, wQ1, wQ2, wQ3, wR, boxE, partsOf, ↓reduceIte, n1w, n2w, n3w, n4w, n5w, n6w, reduceCtorEq, i1w, i2w, i3w, i4w, i5w]
    simp [oL, Pl]
theorem f10 (l : Option (List Fa)) (h : SmF l) (fs : Bool) (σ : Sto) (n lk : Nat) : callE T fs 10 [slV 5 faV l] σ n lk = some (slV 5 faV (cutFs l), σ, n) :=
  callE_tr (by decide) (r10 l h) (by simp [Tr, Tr_slV]) (Nw_slV _ _ _ _) fs σ n lk
end Go.Q.SB
end

section
/- The document's copies; which facts and writes are the same. -/
set_option linter.unusedSimpArgs false
set_option linter.unusedVariables false
namespace Go.Q.SB
open Go.Q
theorem fz_vec {σ : Sto} {i : Nat} {L : List Int} (h : σ i = some (.row 1 (L.map i32V))) {S : Nat → Prop} (hS : S i) : Fz σ 11 (.ref i 0 L.length 1) (slV 1 i32V (some L)) S := by
  have := Fz.ref (k := 10) (S := S) h hS (FzL.trees (fun y hy => by obtain ⟨t, -, rfl⟩ := List.mem_map.1 hy; rfl) (fun y hy c hc => by obtain ⟨t, -, rfl⟩ := List.mem_map.1 hy; simp [i32V, V.cells] at hc; subst hc; rfl))
  rw [List.length_map] at this
  exact this
def FitF (l : List Fa) : Prop := l.length ≤ 1000000 ∧ ∀ f ∈ l, (lst f.w.v).length ≤ 1000000
def FitW (l : List Wr) : Prop := l.length ≤ 1000000 ∧ ∀ f ∈ l, (lst f.v).length ≤ 1000000
end Go.Q.SB
end

section
/- Which facts and writes are the same. -/
set_option linter.unusedSimpArgs false
set_option linter.unusedVariables false
namespace Go.Q.SB
open Go.Q
end Go.Q.SB
end

section
/- The document's rows: what comes of writes over rows. -/
set_option linter.unusedSimpArgs false
set_option linter.unusedVariables false
namespace Go.Q.SB
open Go.Q
theorem RM.nil : RM [] [] := ⟨List.Pairwise.nil, fun id v => by simp [vw]⟩
theorem RM.put {R : List Rw} {L : List (En Int Vc)} {clk : Nat} (h : RM R L) (hm : MOk L clk) (r : Rw) : RM (putR R r) (mput L clk r.id r.v).1 := by
  refine ⟨asc_putR h.1 r, fun id v => ?_⟩
  rw [mem_putR, vw_mput]
  by_cases e : id = r.id
  · rw [if_pos e]
    subst e
    constructor
    · rintro (h' | ⟨-, h'⟩)
      · rw [← h']
      · exact absurd rfl h'
    · intro h'
      rw [Option.some.injEq] at h'
      subst h'
      exact .inl rfl
  · rw [if_neg e, ← h.2]
    constructor
    · rintro (h' | ⟨h', -⟩)
      · exact absurd (by rw [← h']) e
      · exact h'
    · intro h'; exact .inr ⟨h', e⟩
theorem RM.del {R : List Rw} {L : List (En Int Vc)} (h : RM R L) (a : Int) : RM (delR R a) (mdel L a) := by
  refine ⟨asc_delR h.1 a, fun id v => ?_⟩
  rw [mem_delR, vw_mdel]
  by_cases e : id = a
  · rw [if_pos e]; simp [e]
  · rw [if_neg e, ← h.2]; simp [e]
def ovStep (R : List Rw) (w : Wr) : List Rw := if w.g then delR R w.id else putR R ⟨w.id, w.v⟩
def vV (v : Vc) : V := slV 1 i32V v
theorem RM.head {r : Rw} {R : List Rw} {L : List (En Int Vc)} {clk : Nat} (h : RM (r :: R) L) (hm : MOk L clk) {a : Int} (h1 : ∃ e ∈ L, e.1 = a) (h2 : ∀ e ∈ L, a ≤ e.1) : a = r.id := by
  obtain ⟨e, he, rfl⟩ := h1
  have hv : vw L r.id = some r.v := (h.2 r.id r.v).1 List.mem_cons_self
  obtain ⟨s, hs⟩ := (vw_some hm.keys).1 hv
  have h3 := h2 _ hs
  have hv2 : vw L e.1 = some e.2.1 := (vw_some hm.keys).2 ⟨e.2.2, he⟩
  have h4 := (h.2 e.1 e.2.1).2 hv2
  rcases List.mem_cons.1 h4 with h5 | h5
  · rw [← h5]
  · have := (List.pairwise_cons.1 h.1).1 _ h5
    simp only at this h3
    omega
theorem RM.some {r : Rw} {R : List Rw} {L : List (En Int Vc)} (h : RM (r :: R) L) : 0 < L.length := by
  have hv : vw L r.id = Option.some r.v := (h.2 r.id r.v).1 List.mem_cons_self
  cases L with
  | nil => simp [vw] at hv
  | cons e L => simp
theorem RM.none {L : List (En Int Vc)} {clk : Nat} (h : RM [] L) (hm : MOk L clk) : L = [] := by
  cases L with
  | nil => rfl
  | cons e L =>
    have hv : vw (e :: L) e.1 = Option.some e.2.1 := (vw_some hm.keys).2 ⟨e.2.2, List.mem_cons_self⟩
    have := (h.2 e.1 e.2.1).2 hv
    simp at this
end Go.Q.SB
end

section
/- The document's rows: Overlay. -/
set_option linter.unusedSimpArgs false
set_option linter.unusedVariables false
namespace Go.Q.SB
open Go.Q
def uV (x : Int) : V := .int .u64 x
theorem keyU : KeyOk (.one .int) uV := fun a b => rfl
theorem insR_len (r : Rw) : ∀ s, (insR r s).length = s.length + 1
  | [] => rfl
  | x :: s => by unfold insR; split <;> simp [insR_len r s]
theorem delR_len (R : List Rw) (a : Int) : (delR R a).length ≤ R.length := List.length_filter_le _ _
theorem putR_len (R : List Rw) (r : Rw) : (putR R r).length ≤ R.length + 1 := by
  unfold putR; rw [insR_len]; have := delR_len R r.id; omega
theorem born_inj : ∀ {L : List (En Int Vc)}, (L.map (·.2.2)).Nodup → ∀ {e e' : En Int Vc}, e ∈ L → e' ∈ L → e.2.2 = e'.2.2 → e = e'
  | [], _, e, e', he, _, _ => by simp at he
  | x :: L, h, e, e', he, he', hs => by
    rw [List.map_cons, List.nodup_cons] at h
    rcases List.mem_cons.1 he with e1 | he <;> rcases List.mem_cons.1 he' with e2 | he'
    · rw [e1, e2]
    · exact absurd (List.mem_map.2 ⟨e', he', by rw [← hs, e1]⟩) h.1
    · exact absurd (List.mem_map.2 ⟨e, he, by rw [hs, e2]⟩) h.1
    · exact born_inj h.2 he he' hs
end Go.Q.SB
end

section
/- The document's State: the rows at a time. -/
set_option linter.unusedSimpArgs false
set_option linter.unusedVariables false
namespace Go.Q.SB
open Go.Q
theorem callE_sh' {f : Nat} {args ts : List V} {r : V} {σ : Sto} (hm : T.mode f ≠ .raw) (hts : args.mapM (frz σ 12) = some ts) (hr : res T f ts = some r) (ht : ∀ σ n, thaw σ n r = (r, σ, n)) (n : Nat) :
    ∃ σ', callE T true f args σ n 0 = some (r, σ', n) ∧ ∀ i, i ∉ args.flatMap (rch σ 12) → σ' i = σ i := by
  rw [callE_eq hm, hts, callR_some, hr, retE_some]
  unfold backE
  split
  · exact ⟨σ, by rw [ht], fun _ _ => rfl⟩
  · refine ⟨dropL σ (args.flatMap (rch σ 12)), ?_, fun i hi => by unfold dropL; rw [if_neg hi]⟩
    rw [if_pos (by simp), ht]
theorem pl_ref {σ : Sto} {m n : Nat} {v : V} {W : List Wr} (h : Pl σ m n 4 v (oL (W.map wrV))) (hW : W ≠ []) : ∃ i, v = .ref i 0 W.length 4 ∧ σ i = some (.row 4 (W.map wrV)) ∧ m ≤ i ∧ i < n := by
  cases W with
  | nil => exact absurd rfl hW
  | cons a b =>
    simp only [List.map_cons, oL, Pl] at h
    obtain ⟨i, rfl, h1, h2, h3⟩ := h
    exact ⟨i, by simp, h1, h2, h3⟩
theorem pl_len {σ : Sto} {m n : Nat} {v : V} {W : List Wr} (h : Pl σ m n 4 v (oL (W.map wrV))) : lenE v = some (.int .i64 (W.length : Int)) := by
  by_cases hW : W = []
  · subst hW; simp only [List.map_nil, oL, Pl] at h; subst h; rfl
  · obtain ⟨i, rfl, -⟩ := pl_ref h hW
    rw [lenE_ref]
end Go.Q.SB
end

section
/- Which facts may be: the program's check. -/
set_option linter.unusedSimpArgs false
set_option linter.unusedVariables false
namespace Go.Q.SB
open Go.Q
open Nat renaming reduceEqDiff → n1w, reduceAdd → n2w, reduceSub → n3w, reduceLeDiff → n4w, reduceLT → n5w, reduceMul → n6w
open Int renaming reduceBNe → i1w, reduceBEq → i2w, reduceLT → i3w, reduceLE → i4w, reduceGT → i5w
def bV (b : Bool) : V := .bool b
theorem keyK : KeyOk (.agg [.int, .int]) kyV := by
  intro a b
  obtain ⟨a1, a2⟩ := a
  obtain ⟨b1, b2⟩ := b
  simp only [kyV, eqKey, eqCells, eqCell, Option.bind_some, Prod.mk.injEq]
  by_cases h1 : a1 = b1 <;> by_cases h2 : a2 = b2 <;> simp [h1, h2]
theorem okU_no {l : List Fa} {n : Nat} (h : okU l n = false) : ∀ m, n ≤ m → okU l m = false
  | 0, hm => by have : n = 0 := by omega
                subst this; cases h
  | m + 1, hm => by
    by_cases e : n = m + 1
    · subst e; exact h
    · show (okU l m && _) = false
      rw [okU_no h m (by omega)]; rfl
theorem okU_eq {l : List Fa} {n : Nat} (hn : n < l.length) : okU l (n + 1) = (okU l n && oneF l n l[n]) := by
  show (okU l n && _) = _
  rw [List.getElem?_eq_getElem hn]
theorem r24 (l : Option (List Fa)) (h : SmF l) : res T 24 [slV 5 faV l] = some (.int .i64 (if rightF (lst l) then 0 else 280)) := by
  refine run_res (run_pure (fn := g24) rfl rfl (by decide) ?_)
  simp only [g24, b24, oO, oN, mV, lD, gO, pP, qQ, cI, aR]
  have hl := h.1
  obtain ⟨A, hA⟩ : ∃ A, A = decide ((lst l).length ≤ 2000) := ⟨_, rfl⟩
  have hA' : decide (((lst l).length : Int) ≤ 2000) = A := by rw [hA]; exact decide_eq_decide.2 (by omega)
  have f49' := f49 l h
  simp +contextual -implicitDefEqProofs (maxSteps := 2000000) only [↓wP, wQ, wQ1, wQ2, wQ3, wR, boxE, partsOf, ↓reduceIte, n1w, n2w, n3w, n4w, n5w, n6w, reduceCtorEq, i1w, i2w, i3w, i4w, i5w, hA']
  refine WC_for (lst l).length 0 (fun (j : Nat) env σ n => env 0 = slV 5 faV l ∧ env 12 = slV 5 faV l ∧ env 3 = .bool A ∧ env 4 = .mp 0 ∧ 1 ≤ n ∧ okU (lst l) j = true ∧ ∃ Lm clk, MOk Lm clk ∧ σ 0 = some (.map (ens kyV bV Lm) clk) ∧ ∀ k, (vw Lm k).getD false = isB ((lst l).take j) k) (by omega) (by decide) (by decide) (fun _ _ => rfl) (fun _ _ _ => rfl) ?_ ?_ _ _ _ rfl rfl ?_
  · intro j env σ n hj h1 h2 ⟨g1, g2, g3, g4, g5, g6, Lm, clk, m1, m2, m3⟩
    simp only [vl_tmp] at h2
    have hx : (lst l)[j]? = some (lst l)[j] := List.getElem?_eq_getElem hj
    have hst := okU_eq hj
    rw [g6, Bool.true_and] at hst
    have hds := isB_snoc ((lst l).take j) (lst l)[j]
    rw [List.take_append_getElem hj] at hds
    have hno : oneF (lst l) j (lst l)[j] = false → rightF (lst l) = false := fun hk => by
      unfold rightF
      rw [okU_no (by rw [hst, hk]) _ (by omega : j + 1 ≤ (lst l).length)]
      simp
    have hsm := h.2 _ (List.getElem_mem hj)
    generalize (lst l)[j] = x at *
    cases hAb : A
    · have hr : rightF (lst l) = false := by unfold rightF; rw [← hA, hAb]; rfl
      rw [hAb] at g3
      simp +contextual -implicitDefEqProofs (maxSteps := 2000000) only [↓wP, wQ, wQ1, wQ2, wQ3, wR, boxE, partsOf, ↓reduceIte, n1w, n2w, n3w, n4w, n5w, n6w, reduceCtorEq, i1w, i2w, i3w, i4w, i5w, h1, h2, g1, g2, g3, g4, hx, faV_eq]
      rw [hr]; rfl
    rw [hAb] at g3
    by_cases b1 : (1 : Int) ≤ x.ts
    rotate_left
    · have hk := hno (by unfold oneF one1; simp [b1])
      simp +contextual -implicitDefEqProofs (maxSteps := 2000000) only [↓wP, wQ, wQ1, wQ2, wQ3, wR, boxE, partsOf, ↓reduceIte, n1w, n2w, n3w, n4w, n5w, n6w, reduceCtorEq, i1w, i2w, i3w, i4w, i5w, h1, h2, g1, g2, g3, g4, hx, faV_eq, b1]
      rw [hk]; rfl
    by_cases b2 : x.ts ≤ 1099511627776
    rotate_left
    · have hk := hno (by unfold oneF one1; simp [b2])
      simp +contextual -implicitDefEqProofs (maxSteps := 2000000) only [↓wP, wQ, wQ1, wQ2, wQ3, wR, boxE, partsOf, ↓reduceIte, n1w, n2w, n3w, n4w, n5w, n6w, reduceCtorEq, i1w, i2w, i3w, i4w, i5w, h1, h2, g1, g2, g3, g4, hx, faV_eq, b1, b2]
      rw [hk]; rfl
    have r1 := r62 (some [x.w]) ⟨by show 1 < _; decide, fun w hw => by rw [lst_some, List.mem_singleton] at hw; subst hw; exact hsm⟩
    rw [lst_some, right1] at r1
    rw [show slV 4 wrV (some [x.w]) = V.sl 4 [wrV x.w] from rfl, wrV_eq] at r1
    have hm62 : T.mode 62 ≠ .raw := by decide
    by_cases b3 : okW x.w = true
    rotate_left
    · have b3' : okW x.w = false := by simpa using b3
      have hk := hno (by unfold oneF one1; simp [b3'])
      rw [b3'] at r1
      simp +contextual -implicitDefEqProofs (maxSteps := 2000000) only [↓wP, wQ, wQ1, wQ2, wQ3, wR, boxE, partsOf, ↓reduceIte, n1w, n2w, n3w, n4w, n5w, n6w, reduceCtorEq, i1w, i2w, i3w, i4w, i5w, h1, h2, g1, g2, g3, g4, hx, faV_eq, b1, b2, callE_eq hm62, frz_rf, rch_rf, r1]
      rw [hk]; rfl
    rw [b3] at r1
    obtain ⟨P, hP⟩ : ∃ P, P = one1 (lst l) j x := ⟨_, rfl⟩
    have hone : oneF (lst l) j x = (P && (!x.w.g || isB ((lst l).take j) (key x.w))) := by rw [hP]; rfl
    obtain ⟨σ1, hσ1⟩ : ∃ σ1, σ1 = upd (upd (upd σ n (some (.row 5 [.agg [.int .u64 0, .int .i64 0, .int .u64 0, .bool false, .nilS]]))) n (some (.row 5 [.agg [.int .u64 x.ts, .int .i64 x.w.c, .int .u64 x.w.id, .bool x.w.g, slV 1 i32V x.w.v]]))) (n + 1) (some (.row 4 [.agg [.int .i64 x.w.c, .int .u64 x.w.id, .bool x.w.g, slV 1 i32V x.w.v]])) := ⟨_, rfl⟩
    have so : ∀ i, i < n → σ1 i = σ i := fun i hi => by rw [hσ1, upd_ne (by omega), upd_ne (by omega), upd_ne (by omega)]
    have sn : σ1 n = some (.row 5 [.agg [.int .u64 x.ts, .int .i64 x.w.c, .int .u64 x.w.id, .bool x.w.g, slV 1 i32V x.w.v]]) := by rw [hσ1, upd_ne (by omega), upd_self]
    have sn1 : σ1 (n + 1) = some (.row 4 [.agg [.int .i64 x.w.c, .int .u64 x.w.id, .bool x.w.g, slV 1 i32V x.w.v]]) := by rw [hσ1, upd_self]
    by_cases hj0 : j = 0
    · have hz : ¬ ((0 : Int) < (j : Int)) := by omega
      have hPt : P = true := by rw [hP]; unfold one1; subst hj0; simp [b1, b2, b3]
      have snx := sn
      have q0 : (0 = n) = False := by simp; omega
      have s0 : σ1 0 = some (.map (ens kyV bV Lm) clk) := by rw [so 0 (by omega)]; exact m2
      have pu := mupd_ens (ke := kyV) (ve := bV) (lk := 0) keyK m1 s0 (Nat.zero_le _) (key x.w) (!x.w.g) (n + 2)
      have hmg : mgetE false (.agg [.int, .int]) (.bool false) (some (ens kyV bV Lm)) (kyV (key x.w)) = some (.bool (isB ((lst l).take j) (key x.w))) := by
        rw [mget_ens (ve := bV) keyK false (.bool false) (key x.w) Lm, ← m3 (key x.w)]
        cases vw Lm (key x.w) <;> rfl
      have fk := f47 x.w
      rw [wrV_eq] at fk
      have hnew : ∀ k, (vw (mput Lm clk (key x.w) (!x.w.g)).1 k).getD false = isB ((lst l).take (j + 1)) k := by
        intro k
        rw [vw_mput, hds]
        by_cases e : k = key x.w
        · rw [if_pos e, if_pos e.symm]; rfl
        · rw [if_neg e, if_neg (fun h => e h.symm)]; exact m3 k
      simp only [bV] at pu
      cases hg : x.w.g
      all_goals rw [hg] at r1 hσ1 pu fk sn sn1 snx hnew hone
      all_goals simp only [Bool.not_false, Bool.not_true] at pu hnew
      · simp +contextual -implicitDefEqProofs (maxSteps := 2000000) only [↓wP, wQ, wQ1, wQ2, wQ3, wR, boxE, partsOf, ↓reduceIte, n1w, n2w, n3w, n4w, n5w, n6w, reduceCtorEq, i1w, i2w, i3w, i4w, i5w, h1, h2, g1, g2, g3, g4, hx, faV_eq, b1, b2, callE_eq hm62, frz_rf, rch_rf, r1, hz, ← hσ1, sn, sn1, q0, s0, hg, pu, fk, hmg]
        exact ⟨by rw [hst, hone, hPt]; rfl, _, _, mput_ok m1 _ _, rfl, hnew⟩
      · cases hb : isB ((lst l).take j) (key x.w)
        all_goals rw [hb] at hmg hone
        · have hk := hno (by rw [hone, hPt]; rfl)
          simp +contextual -implicitDefEqProofs (maxSteps := 2000000) only [↓wP, wQ, wQ1, wQ2, wQ3, wR, boxE, partsOf, ↓reduceIte, n1w, n2w, n3w, n4w, n5w, n6w, reduceCtorEq, i1w, i2w, i3w, i4w, i5w, h1, h2, g1, g2, g3, g4, hx, faV_eq, b1, b2, callE_eq hm62, frz_rf, rch_rf, r1, hz, ← hσ1, sn, sn1, q0, s0, hg, fk, hmg]
          rw [hk]; rfl
        · simp +contextual -implicitDefEqProofs (maxSteps := 2000000) only [↓wP, wQ, wQ1, wQ2, wQ3, wR, boxE, partsOf, ↓reduceIte, n1w, n2w, n3w, n4w, n5w, n6w, reduceCtorEq, i1w, i2w, i3w, i4w, i5w, h1, h2, g1, g2, g3, g4, hx, faV_eq, b1, b2, callE_eq hm62, frz_rf, rch_rf, r1, hz, ← hσ1, sn, sn1, q0, s0, hg, pu, fk, hmg]
          exact ⟨by rw [hst, hone, hPt]; rfl, _, _, mput_ok m1 _ _, rfl, hnew⟩
    · have hz : (0 : Int) < (j : Int) := by omega
      have wj : IntKind.i64.wrap ((j : Int) - 1) = ((j - 1 : Nat) : Int) := by rw [wrap_i64] <;> omega
      have hx2 : (lst l)[j - 1]? = some (lst l)[j - 1] := List.getElem?_eq_getElem (by omega)
      have hsp := h.2 _ (List.getElem_mem (show j - 1 < (lst l).length by omega))
      obtain ⟨p, hp⟩ : ∃ p, p = (lst l)[j - 1] := ⟨_, rfl⟩
      rw [← hp] at hx2 hsp
      have hPm : P = aft p x := by
        obtain ⟨i, rfl⟩ : ∃ i, j = i + 1 := ⟨j - 1, by omega⟩
        rw [hP]; unfold one1
        rw [show i + 1 - 1 = i from rfl] at hx2
        simp [hx2, b1, b2, b3]
      obtain ⟨σ2, hσ2⟩ : ∃ σ2, σ2 = upd (upd σ1 (n + 2) (some (.row 5 [.agg [.int .u64 0, .int .i64 0, .int .u64 0, .bool false, .nilS]]))) (n + 2) (some (.row 5 [.agg [.int .u64 p.ts, .int .i64 p.w.c, .int .u64 p.w.id, .bool p.w.g, slV 1 i32V p.w.v]])) := ⟨_, rfl⟩
      have so' : ∀ i, i < n → σ2 i = σ i := fun i hi => by rw [hσ2, upd_ne (by omega), upd_ne (by omega), so i hi]
      have snx : σ2 n = some (.row 5 [.agg [.int .u64 x.ts, .int .i64 x.w.c, .int .u64 x.w.id, .bool x.w.g, slV 1 i32V x.w.v]]) := by rw [hσ2, upd_ne (by omega), upd_ne (by omega)]; exact sn
      have snp : σ2 (n + 2) = some (.row 5 [.agg [.int .u64 p.ts, .int .i64 p.w.c, .int .u64 p.w.id, .bool p.w.g, slV 1 i32V p.w.v]]) := by rw [hσ2, upd_self]
      have q0 : (0 = n) = False := by simp; omega
      by_cases k1 : p.ts < x.ts
      · have hPt : P = true := by rw [hPm]; unfold aft; simp [k1]
        have so := so'
        have s0 : σ2 0 = some (.map (ens kyV bV Lm) clk) := by rw [so 0 (by omega)]; exact m2
        have pu := mupd_ens (ke := kyV) (ve := bV) (lk := 0) keyK m1 s0 (Nat.zero_le _) (key x.w) (!x.w.g) (n + 3)
        have hmg : mgetE false (.agg [.int, .int]) (.bool false) (some (ens kyV bV Lm)) (kyV (key x.w)) = some (.bool (isB ((lst l).take j) (key x.w))) := by
          rw [mget_ens (ve := bV) keyK false (.bool false) (key x.w) Lm, ← m3 (key x.w)]
          cases vw Lm (key x.w) <;> rfl
        have fk := f47 x.w
        rw [wrV_eq] at fk
        have hnew : ∀ k, (vw (mput Lm clk (key x.w) (!x.w.g)).1 k).getD false = isB ((lst l).take (j + 1)) k := by
          intro k
          rw [vw_mput, hds]
          by_cases e : k = key x.w
          · rw [if_pos e, if_pos e.symm]; rfl
          · rw [if_neg e, if_neg (fun h => e h.symm)]; exact m3 k
        simp only [bV] at pu
        cases hg : x.w.g
        all_goals rw [hg] at r1 hσ1 pu fk sn sn1 snx hnew hone
        all_goals simp only [Bool.not_false, Bool.not_true] at pu hnew
        · simp +contextual -implicitDefEqProofs (maxSteps := 2000000) only [↓wP, wQ, wQ1, wQ2, wQ3, wR, boxE, partsOf, ↓reduceIte, n1w, n2w, n3w, n4w, n5w, n6w, reduceCtorEq, i1w, i2w, i3w, i4w, i5w, h1, h2, g1, g2, g3, g4, hx, faV_eq, b1, b2, callE_eq hm62, frz_rf, rch_rf, r1, hz, wj, hx2, ← hσ1, sn, sn1, ← hσ2, snx, snp, q0, k1, s0, hg, pu, fk, hmg]
          exact ⟨by rw [hst, hone, hPt]; rfl, _, _, mput_ok m1 _ _, rfl, hnew⟩
        · cases hb : isB ((lst l).take j) (key x.w)
          all_goals rw [hb] at hmg hone
          · have hk := hno (by rw [hone, hPt]; rfl)
            simp +contextual -implicitDefEqProofs (maxSteps := 2000000) only [↓wP, wQ, wQ1, wQ2, wQ3, wR, boxE, partsOf, ↓reduceIte, n1w, n2w, n3w, n4w, n5w, n6w, reduceCtorEq, i1w, i2w, i3w, i4w, i5w, h1, h2, g1, g2, g3, g4, hx, faV_eq, b1, b2, callE_eq hm62, frz_rf, rch_rf, r1, hz, wj, hx2, ← hσ1, sn, sn1, ← hσ2, snx, snp, q0, k1, s0, hg, fk, hmg]
            rw [hk]; rfl
          · simp +contextual -implicitDefEqProofs (maxSteps := 2000000) only [↓wP, wQ, wQ1, wQ2, wQ3, wR, boxE, partsOf, ↓reduceIte, n1w, n2w, n3w, n4w, n5w, n6w, reduceCtorEq, i1w, i2w, i3w, i4w, i5w, h1, h2, g1, g2, g3, g4, hx, faV_eq, b1, b2, callE_eq hm62, frz_rf, rch_rf, r1, hz, wj, hx2, ← hσ1, sn, sn1, ← hσ2, snx, snp, q0, k1, s0, hg, pu, fk, hmg]
            exact ⟨by rw [hst, hone, hPt]; rfl, _, _, mput_ok m1 _ _, rfl, hnew⟩
      · by_cases k2 : p.ts = x.ts
        rotate_left
        · have k2' : (p.ts == x.ts) = false := by simp [k2]
          have hk := hno (by rw [hone, hPm]; unfold aft; simp [k1, k2])
          simp +contextual -implicitDefEqProofs (maxSteps := 2000000) only [↓wP, wQ, wQ1, wQ2, wQ3, wR, boxE, partsOf, ↓reduceIte, n1w, n2w, n3w, n4w, n5w, n6w, reduceCtorEq, i1w, i2w, i3w, i4w, i5w, h1, h2, g1, g2, g3, g4, hx, faV_eq, b1, b2, callE_eq hm62, frz_rf, rch_rf, r1, hz, wj, hx2, ← hσ1, sn, sn1, ← hσ2, snx, snp, q0, k1, k2']
          rw [hk]; rfl
        have k2' : (p.ts == x.ts) = true := by simp [k2]
        have r2 := r62 (some [p.w, x.w]) ⟨by show 2 < _; decide, fun w hw => by
          rw [lst_some] at hw
          rcases List.mem_cons.1 hw with rfl | hw
          · exact hsp
          · rw [List.mem_singleton] at hw; subst hw; exact hsm⟩
        rw [lst_some, right2, b3, Bool.true_and] at r2
        rw [show slV 4 wrV (some [p.w, x.w]) = V.sl 4 [wrV p.w, wrV x.w] from rfl, wrV_eq, wrV_eq] at r2
        have hPa : P = (okW p.w && bef p.w x.w) := by rw [hPm]; unfold aft; simp [k1, k2, b3]
        rw [← hPa] at r2
        obtain ⟨σ3, hσ3⟩ : ∃ σ3, σ3 = upd σ2 (n + 3) (some (.row 4 [.agg [.int .i64 p.w.c, .int .u64 p.w.id, .bool p.w.g, slV 1 i32V p.w.v], .agg [.int .i64 x.w.c, .int .u64 x.w.id, .bool x.w.g, slV 1 i32V x.w.v]])) := ⟨_, rfl⟩
        have so'' : ∀ i, i < n → σ3 i = σ i := fun i hi => by rw [hσ3, upd_ne (by omega), so' i hi]
        have snx' : σ3 n = some (.row 5 [.agg [.int .u64 x.ts, .int .i64 x.w.c, .int .u64 x.w.id, .bool x.w.g, slV 1 i32V x.w.v]]) := by rw [hσ3, upd_ne (by omega)]; exact snx
        have sn3 : σ3 (n + 3) = some (.row 4 [.agg [.int .i64 p.w.c, .int .u64 p.w.id, .bool p.w.g, slV 1 i32V p.w.v], .agg [.int .i64 x.w.c, .int .u64 x.w.id, .bool x.w.g, slV 1 i32V x.w.v]]) := by rw [hσ3, upd_self]
        cases hPt : P
        · have hk := hno (by rw [hone, hPt]; rfl)
          rw [hPt] at r2
          simp +contextual -implicitDefEqProofs (maxSteps := 2000000) only [↓wP, wQ, wQ1, wQ2, wQ3, wR, boxE, partsOf, ↓reduceIte, n1w, n2w, n3w, n4w, n5w, n6w, reduceCtorEq, i1w, i2w, i3w, i4w, i5w, h1, h2, g1, g2, g3, g4, hx, faV_eq, b1, b2, callE_eq hm62, frz_rf, rch_rf, r1, hz, wj, hx2, ← hσ1, sn, sn1, ← hσ2, snx, snp, q0, k1, k2', ← hσ3, snx', sn3, r2]
          rw [hk]; rfl
        rw [hPt] at r2
        have so := so''
        have s0 : σ3 0 = some (.map (ens kyV bV Lm) clk) := by rw [so 0 (by omega)]; exact m2
        have pu := mupd_ens (ke := kyV) (ve := bV) (lk := 0) keyK m1 s0 (Nat.zero_le _) (key x.w) (!x.w.g) (n + 4)
        have hmg : mgetE false (.agg [.int, .int]) (.bool false) (some (ens kyV bV Lm)) (kyV (key x.w)) = some (.bool (isB ((lst l).take j) (key x.w))) := by
          rw [mget_ens (ve := bV) keyK false (.bool false) (key x.w) Lm, ← m3 (key x.w)]
          cases vw Lm (key x.w) <;> rfl
        have fk := f47 x.w
        rw [wrV_eq] at fk
        have hnew : ∀ k, (vw (mput Lm clk (key x.w) (!x.w.g)).1 k).getD false = isB ((lst l).take (j + 1)) k := by
          intro k
          rw [vw_mput, hds]
          by_cases e : k = key x.w
          · rw [if_pos e, if_pos e.symm]; rfl
          · rw [if_neg e, if_neg (fun h => e h.symm)]; exact m3 k
        simp only [bV] at pu
        cases hg : x.w.g
        all_goals rw [hg] at r1 hσ1 r2 hσ3 sn sn1 snx snx' sn3 pu fk hnew hone
        all_goals simp only [Bool.not_false, Bool.not_true] at pu hnew
        · simp +contextual -implicitDefEqProofs (maxSteps := 2000000) only [↓wP, wQ, wQ1, wQ2, wQ3, wR, boxE, partsOf, ↓reduceIte, n1w, n2w, n3w, n4w, n5w, n6w, reduceCtorEq, i1w, i2w, i3w, i4w, i5w, h1, h2, g1, g2, g3, g4, hx, faV_eq, b1, b2, callE_eq hm62, frz_rf, rch_rf, r1, hz, wj, hx2, ← hσ1, sn, sn1, ← hσ2, snx, snp, q0, k1, k2', ← hσ3, snx', sn3, r2, s0, hg, pu, fk, hmg]
          exact ⟨by rw [hst, hone, hPt]; rfl, _, _, mput_ok m1 _ _, rfl, hnew⟩
        · cases hb : isB ((lst l).take j) (key x.w)
          all_goals rw [hb] at hmg hone
          · have hk := hno (by rw [hone, hPt]; rfl)
            simp +contextual -implicitDefEqProofs (maxSteps := 2000000) only [↓wP, wQ, wQ1, wQ2, wQ3, wR, boxE, partsOf, ↓reduceIte, n1w, n2w, n3w, n4w, n5w, n6w, reduceCtorEq, i1w, i2w, i3w, i4w, i5w, h1, h2, g1, g2, g3, g4, hx, faV_eq, b1, b2, callE_eq hm62, frz_rf, rch_rf, r1, hz, wj, hx2, ← hσ1, sn, sn1, ← hσ2, snx, snp, q0, k1, k2', ← hσ3, snx', sn3, r2, s0, hg, fk, hmg]
            rw [hk]; rfl
          · simp +contextual -implicitDefEqProofs (maxSteps := 2000000) only [↓wP, wQ, wQ1, wQ2, wQ3, wR, boxE, partsOf, ↓reduceIte, n1w, n2w, n3w, n4w, n5w, n6w, reduceCtorEq, i1w, i2w, i3w, i4w, i5w, h1, h2, g1, g2, g3, g4, hx, faV_eq, b1, b2, callE_eq hm62, frz_rf, rch_rf, r1, hz, wj, hx2, ← hσ1, sn, sn1, ← hσ2, snx, snp, q0, k1, k2', ← hσ3, snx', sn3, r2, s0, hg, pu, fk, hmg]
            exact ⟨by rw [hst, hone, hPt]; rfl, _, _, mput_ok m1 _ _, rfl, hnew⟩
  · intro env σ n ⟨g1, g2, g3, g4, g5, g6, _⟩ h1 h2
    have hr : rightF (lst l) = (A && dimB (lst l)) := by unfold rightF; rw [g6, ← hA]; simp
    rw [hr]
    cases hAb : A
    · rw [hAb] at g3
      simp +contextual -implicitDefEqProofs (maxSteps := 2000000) only [↓wP, wQ, wQ1, wQ2, wQ3, wR, boxE, partsOf, ↓reduceIte, n1w, n2w, n3w, n4w, n5w, n6w, reduceCtorEq, i1w, i2w, i3w, i4w, i5w, g1, g3]
    · rw [hAb] at g3
      cases hd : dimB (lst l)
      · rw [hd] at f49'
        simp +contextual -implicitDefEqProofs (maxSteps := 2000000) only [↓wP, wQ, wQ1, wQ2, wQ3, wR, boxE, partsOf, ↓reduceIte, n1w, n2w, n3w, n4w, n5w, n6w, reduceCtorEq, i1w, i2w, i3w, i4w, i5w, g1, g3, f49']
      · rw [hd] at f49'
        simp +contextual -implicitDefEqProofs (maxSteps := 2000000) only [↓wP, wQ, wQ1, wQ2, wQ3, wR, boxE, partsOf, ↓reduceIte, n1w, n2w, n3w, n4w, n5w, n6w, reduceCtorEq, i1w, i2w, i3w, i4w, i5w, g1, g3, f49']
  · exact ⟨rfl, rfl, rfl, rfl, Nat.le_refl _, rfl, [], 0, MOk.nil, rfl, fun k => rfl⟩
theorem f24 (l : Option (List Fa)) (h : SmF l) (fs : Bool) (σ : Sto) (n lk : Nat) : callE T fs 24 [slV 5 faV l] σ n lk = some (.int .i64 (if rightF (lst l) then 0 else 280), σ, n) :=
  callE_tr (by decide) (r24 l h) (by simp [Tr, Tr_slV]) rfl fs σ n lk
end Go.Q.SB
end

section
/- Which facts may be: the document's answer. -/
set_option linter.unusedSimpArgs false
set_option linter.unusedVariables false
namespace Go.Q.SB
open Go.Q
theorem FitF.sm {l : Option (List Fa)} (h : FitF (lst l)) : SmF l := ⟨by have := h.1; omega, fun f hf => by have := h.2 f hf; unfold Sm; omega⟩
theorem FitF.take {l : List Fa} (h : FitF l) (j : Nat) : FitF (l.take j) := ⟨by have := h.1; rw [List.length_take]; omega, fun f hf => h.2 f (List.mem_of_mem_take hf)⟩
end Go.Q.SB
end

section
/- The pivot of a sort. -/
set_option linter.unusedSimpArgs false
set_option linter.unusedVariables false
namespace Go.Q.SB
open Go.Q
open Nat renaming reduceEqDiff → n1w, reduceAdd → n2w, reduceSub → n3w, reduceLeDiff → n4w, reduceLT → n5w, reduceMul → n6w
open Int renaming reduceBNe → i1w, reduceBEq → i2w, reduceLT → i3w, reduceLE → i4w, reduceGT → i5w
instance : Inhabited Rw := ⟨⟨0, none⟩⟩
def ahR (a b : Rw) : Bool := decide (a.id < b.id)
theorem cmp_lt (a b : Rw) : decide (cmpU a.id b.id < 0) = ahR a b := by
  unfold cmpU ahR
  by_cases h1 : a.id < b.id
  · simp [h1]
  · by_cases h2 : b.id < a.id <;> simp [h1, h2]
theorem swoA : Go.Sort.SWO ahR where
  irrefl := fun x => by simp [ahR]
  trans := fun x y z h1 h2 => by simp [ahR] at *; omega
  ntrans := fun x y z h1 h2 => by simp [ahR] at *; omega
abbrev CmpF (F : Nat) : Prop := ∀ (a b : Int) (u v : Vc) (fs : Bool) (σ : Sto) (n lk : Nat), callE T fs F [.agg [.int .u64 a, slV 1 i32V u], .agg [.int .u64 b, slV 1 i32V v]] σ n lk = some (.int .i64 (cmpU a b), σ, n)
theorem r96 (a b : Int) (u v : Vc) : res T 96 [.agg [.int .u64 a, slV 1 i32V u], .agg [.int .u64 b, slV 1 i32V v]] = some (.int .i64 (cmpU a b)) := by
  refine run_res (run_pure (fn := g96) rfl rfl (by decide) ?_)
  simp only [g96, b96, oO, oN, mV, lD, gO, pP, qQ, cI, aR]
  simp +contextual -implicitDefEqProofs (maxSteps := 2000000) only [↓wP, wQ, wQ1, wQ2, wQ3, wR, boxE, partsOf, ↓reduceIte, n1w, n2w, n3w, n4w, n5w, n6w, reduceCtorEq, i1w, i2w, i3w, i4w, i5w, f77]
theorem f96 (a b : Int) (u v : Vc) (fs : Bool) (σ : Sto) (n lk : Nat) : callE T fs 96 [.agg [.int .u64 a, slV 1 i32V u], .agg [.int .u64 b, slV 1 i32V v]] σ n lk = some (.int .i64 (cmpU a b), σ, n) :=
  callE_tr (by decide) (r96 a b u v) (by simp [Tr, Tr_slV]) rfl fs σ n lk
theorem cmp96 : CmpF 96 := fun a b u v fs σ n lk => f96 a b u v fs σ n lk
def rw' (d : Array Rw) : List V := d.toList.map rwV
theorem rw_len (d : Array Rw) : (rw' d).length = d.size := by simp [rw']
theorem rw_at {d : Array Rw} {i : Nat} (h : i < d.size) : (rw' d)[i]? = some (.agg [.int .u64 (d[i]!).id, slV 1 i32V (d[i]!).v]) := by
  unfold rw'
  rw [List.getElem?_map, List.getElem?_eq_getElem (by simpa using h), Option.map_some]
  simp [rwV, h]
theorem wrap_nat {m : Nat} (h : m < 9223372036854775808) : IntKind.i64.wrap (m : Int) = (m : Int) := by rw [wrap_i64] <;> omega
theorem bin_quo4 (m : Nat) (h : m < 9223372036854775808) : binV .quo (.int .i64 (m : Int)) (.int .i64 4) = some (.int .i64 ((m / 4 : Nat) : Int)) := by
  rw [bin_quo .i64 (m : Int) 4 (by decide)]
  have e : (m : Int).tdiv 4 = ((m / 4 : Nat) : Int) := rfl
  rw [e, wrap_nat (by omega)]
theorem raw128 (F : Nat) (hF : CmpF F) (d : Array Rw) (a b : Nat) (s : Int) (sid n : Nat) (σ : Sto) (ha : a < d.size) (hb : b < d.size) (hs : σ sid = some (.row 1 [.int .i64 s])) {Q : V → Sto → Nat → Prop}
    (hQ : ∀ (x y : Nat) (s' : Int) (σ' : Sto), (x = a ∨ x = b) → (y = a ∨ y = b) → σ' sid = some (.row 1 [.int .i64 s']) → (∀ i, i ≠ sid → σ' i = σ i) → Q (.tup [.int .i64 (x : Int), .int .i64 (y : Int)]) σ' n) :
    run T (.raw 128 [.sl 2 (rw' d), .int .i64 (a : Int), .int .i64 (b : Int), .ptr sid 1 0 0, .fn F []] σ n 0) (memQ Q) := by
  refine run_rawE (fn := g128) rfl rfl ?_
  simp only [g128, b128, oO, oN, mV, lD, gO, pP, qQ, cI, aR]
  have hxa := rw_at ha
  have hxb := rw_at hb
  by_cases hc : cmpU (d[b]!).id (d[a]!).id < 0
  · simp +contextual -implicitDefEqProofs (maxSteps := 2000000) only [↓wP, wQ, wQ1, wQ2, wQ3, wR, boxE, partsOf, ↓reduceIte, n1w, n2w, n3w, n4w, n5w, n6w, reduceCtorEq, i1w, i2w, i3w, i4w, i5w, hxa, hxb, hF, hc, hs]
    exact hQ b a _ _ (.inr rfl) (.inl rfl) (by simp [upd]; rfl) (fun i hi => by simp [upd, hi])
  · simp +contextual -implicitDefEqProofs (maxSteps := 2000000) only [↓wP, wQ, wQ1, wQ2, wQ3, wR, boxE, partsOf, ↓reduceIte, n1w, n2w, n3w, n4w, n5w, n6w, reduceCtorEq, i1w, i2w, i3w, i4w, i5w, hxa, hxb, hF, hc, hs]
    exact hQ a b _ _ (.inl rfl) (.inr rfl) hs (fun i hi => rfl)
theorem raw127 (F : Nat) (hF : CmpF F) (d : Array Rw) (a b c : Nat) (s : Int) (sid n : Nat) (σ : Sto) (ha : a < d.size) (hb : b < d.size) (hc : c < d.size) (hs : σ sid = some (.row 1 [.int .i64 s])) {Q : V → Sto → Nat → Prop}
    (hQ : ∀ (x : Nat) (s' : Int) (σ' : Sto), (x = a ∨ x = b ∨ x = c) → σ' sid = some (.row 1 [.int .i64 s']) → (∀ i, i ≠ sid → σ' i = σ i) → Q (.int .i64 (x : Int)) σ' n) :
    run T (.raw 127 [.sl 2 (rw' d), .int .i64 (a : Int), .int .i64 (b : Int), .int .i64 (c : Int), .ptr sid 1 0 0, .fn F []] σ n 0) (memQ Q) := by
  refine run_rawE (fn := g127) rfl rfl ?_
  simp only [g127, b127, oO, oN, mV, lD, gO, pP, qQ, cI, aR]
  simp +contextual -implicitDefEqProofs (maxSteps := 2000000) only [↓wP, wQ, wQ1, wQ2, wQ3, wR, boxE, partsOf, ↓reduceIte, n1w, n2w, n3w, n4w, n5w, n6w, reduceCtorEq, i1w, i2w, i3w, i4w, i5w]
  refine stepW_raw (by decide) (raw128 F hF d a b s sid n σ ha hb hs fun x y s1 σ1 hx hy h1 h2 => ?_)
  simp +contextual -implicitDefEqProofs (maxSteps := 2000000) only [↓wP, wQ, wQ1, wQ2, wQ3, wR, boxE, partsOf, ↓reduceIte, n1w, n2w, n3w, n4w, n5w, n6w, reduceCtorEq, i1w, i2w, i3w, i4w, i5w]
  have hy' : y < d.size := by rcases hy with rfl | rfl <;> assumption
  have hx' : x < d.size := by rcases hx with rfl | rfl <;> assumption
  refine stepW_raw (by decide) (raw128 F hF d y c s1 sid n σ1 hy' hc h1 fun x2 y2 s2 σ2 hx2 hy2 h3 h4 => ?_)
  simp +contextual -implicitDefEqProofs (maxSteps := 2000000) only [↓wP, wQ, wQ1, wQ2, wQ3, wR, boxE, partsOf, ↓reduceIte, n1w, n2w, n3w, n4w, n5w, n6w, reduceCtorEq, i1w, i2w, i3w, i4w, i5w]
  have hx2' : x2 < d.size := by rcases hx2 with rfl | rfl <;> assumption
  refine stepW_raw (by decide) (raw128 F hF d x x2 s2 sid n σ2 hx' hx2' h3 fun x3 y3 s3 σ3 hx3 hy3 h5 h6 => ?_)
  simp +contextual -implicitDefEqProofs (maxSteps := 2000000) only [↓wP, wQ, wQ1, wQ2, wQ3, wR, boxE, partsOf, ↓reduceIte, n1w, n2w, n3w, n4w, n5w, n6w, reduceCtorEq, i1w, i2w, i3w, i4w, i5w]
  refine hQ y3 s3 σ3 ?_ h5 (fun i hi => by rw [h6 i hi, h4 i hi, h2 i hi])
  rcases hy3 with rfl | rfl
  · rcases hx with rfl | rfl <;> simp
  · rcases hx2 with rfl | rfl
    · rcases hy with rfl | rfl <;> simp
    · simp
theorem raw126 (F : Nat) (hF : CmpF F) (d : Array Rw) (a : Nat) (s : Int) (sid n : Nat) (σ : Sto) (ha : 1 ≤ a) (hb : a + 1 < d.size) (hn : d.size < 1000000) (hs : σ sid = some (.row 1 [.int .i64 s])) {Q : V → Sto → Nat → Prop}
    (hQ : ∀ (x : Nat) (s' : Int) (σ' : Sto), (x = a - 1 ∨ x = a ∨ x = a + 1) → σ' sid = some (.row 1 [.int .i64 s']) → (∀ i, i ≠ sid → σ' i = σ i) → Q (.int .i64 (x : Int)) σ' n) :
    run T (.raw 126 [.sl 2 (rw' d), .int .i64 (a : Int), .ptr sid 1 0 0, .fn F []] σ n 0) (memQ Q) := by
  refine run_rawE (fn := g126) rfl rfl ?_
  simp only [g126, b126, oO, oN, mV, lD, gO, pP, qQ, cI, aR]
  have w1 : IntKind.i64.wrap ((a : Int) - 1) = ((a - 1 : Nat) : Int) := by rw [wrap_i64] <;> omega
  have w2 : IntKind.i64.wrap ((a : Int) + 1) = ((a + 1 : Nat) : Int) := by rw [wrap_i64] <;> omega
  simp +contextual -implicitDefEqProofs (maxSteps := 2000000) only [↓wP, wQ, wQ1, wQ2, wQ3, wR, boxE, partsOf, ↓reduceIte, n1w, n2w, n3w, n4w, n5w, n6w, reduceCtorEq, i1w, i2w, i3w, i4w, i5w, w1, w2]
  refine stepW_raw (by decide) (raw127 F hF d (a - 1) a (a + 1) s sid n σ (by omega) (by omega) (by omega) hs fun x s' σ' hx h1 h2 => ?_)
  simp +contextual -implicitDefEqProofs (maxSteps := 2000000) only [↓wP, wQ, wQ1, wQ2, wQ3, wR, boxE, partsOf, ↓reduceIte, n1w, n2w, n3w, n4w, n5w, n6w, reduceCtorEq, i1w, i2w, i3w, i4w, i5w]
  exact hQ x s' σ' hx h1 h2
theorem r115 (F : Nat) (hF : CmpF F) (d : Array Rw) (a b : Nat) (hab : a < b) (hb : b ≤ d.size) (hn : d.size < 1000000) :
    ∃ (p : Nat) (h : Int), a ≤ p ∧ p < b ∧ (h = 0 ∨ h = 1 ∨ h = 2) ∧ res T 115 [.sl 2 (rw' d), .int .i64 (a : Int), .int .i64 (b : Int), .fn F []] = some (.tup [.int .i64 (p : Int), .int .i64 h]) := by
  obtain ⟨r, hr, p, h, h1, h2, h3, rfl⟩ := res_pure (T := T) (f := 115) (args := [.sl 2 (rw' d), .int .i64 (a : Int), .int .i64 (b : Int), .fn F []])
      (R := fun r => ∃ (p : Nat) (h : Int), a ≤ p ∧ p < b ∧ (h = 0 ∨ h = 1 ∨ h = 2) ∧ r = .tup [.int .i64 (p : Int), .int .i64 h]) (fn := g115) rfl rfl (by decide) (by
    simp only [g115, b115, oO, oN, mV, lD, gO, pP, qQ, cI, aR]
    have w1 : IntKind.i64.wrap ((b : Int) - (a : Int)) = ((b - a : Nat) : Int) := by rw [wrap_i64] <;> omega
    have q4 := bin_quo4 (b - a) (by omega)
    have w2 : IntKind.i64.wrap ((((b - a) / 4 : Nat) : Int) * 1) = (((b - a) / 4 : Nat) : Int) := by rw [wrap_i64] <;> omega
    have w3 : IntKind.i64.wrap ((((b - a) / 4 : Nat) : Int) * 2) = (((b - a) / 4 * 2 : Nat) : Int) := by rw [wrap_i64] <;> omega
    have w4 : IntKind.i64.wrap ((((b - a) / 4 : Nat) : Int) * 3) = (((b - a) / 4 * 3 : Nat) : Int) := by rw [wrap_i64] <;> omega
    have w5 : IntKind.i64.wrap ((a : Int) + (((b - a) / 4 : Nat) : Int)) = ((a + (b - a) / 4 : Nat) : Int) := by rw [wrap_i64] <;> omega
    have w6 : IntKind.i64.wrap ((a : Int) + (((b - a) / 4 * 2 : Nat) : Int)) = ((a + (b - a) / 4 * 2 : Nat) : Int) := by rw [wrap_i64] <;> omega
    have w7 : IntKind.i64.wrap ((a : Int) + (((b - a) / 4 * 3 : Nat) : Int)) = ((a + (b - a) / 4 * 3 : Nat) : Int) := by rw [wrap_i64] <;> omega
    by_cases c8 : (8 : Int) ≤ ((b - a : Nat) : Int)
    · by_cases c50 : (50 : Int) ≤ ((b - a : Nat) : Int)
      · simp +contextual -implicitDefEqProofs (maxSteps := 2000000) only [↓wP, wQ, wQ1, wQ2, wQ3, wR, boxE, partsOf, ↓reduceIte, n1w, n2w, n3w, n4w, n5w, n6w, reduceCtorEq, i1w, i2w, i3w, i4w, i5w, w1, q4, w2, w3, w4, w5, w6, w7, c8, c50]
        obtain ⟨q, hq⟩ : ∃ q, q = (b - a) / 4 := ⟨_, rfl⟩
        have hq1 : 12 ≤ q := by omega
        have hq2 : q * 4 ≤ b - a := by omega
        rw [← hq]
        clear w1 q4 w2 w3 w4 w5 w6 w7 c8 c50
        have l1 : a + q + 1 < b := by omega
        have l2 : a + q * 2 + 1 < b := by omega
        have l3 : a + q * 3 + 1 < b := by omega
        have l4 : a + 1 ≤ a + q := by omega
        have l5 : a + 1 ≤ a + q * 2 := by omega
        have l6 : a + 1 ≤ a + q * 3 := by omega
        clear hq hq1 hq2
        generalize a + q = i1 at *
        generalize a + q * 2 = i2 at *
        generalize a + q * 3 = i3 at *
        refine stepW_raw (by decide) (raw126 F hF d i1 0 0 1 _ (by omega) (by omega) hn (by simp [upd]) fun x1 s1 σ1 hx1 g1 g2 => ?_)
        have b1 : a ≤ x1 ∧ x1 < b := by omega
        clear hx1
        simp +contextual -implicitDefEqProofs (maxSteps := 2000000) only [↓wP, wQ, wQ1, wQ2, wQ3, wR, boxE, partsOf, ↓reduceIte, n1w, n2w, n3w, n4w, n5w, n6w, reduceCtorEq, i1w, i2w, i3w, i4w, i5w]
        refine stepW_raw (by decide) (raw126 F hF d i2 s1 0 1 σ1 (by omega) (by omega) hn g1 fun x2 s2 σ2 hx2 g3 g4 => ?_)
        have b2 : a ≤ x2 ∧ x2 < b := by omega
        clear hx2
        simp +contextual -implicitDefEqProofs (maxSteps := 2000000) only [↓wP, wQ, wQ1, wQ2, wQ3, wR, boxE, partsOf, ↓reduceIte, n1w, n2w, n3w, n4w, n5w, n6w, reduceCtorEq, i1w, i2w, i3w, i4w, i5w]
        refine stepW_raw (by decide) (raw126 F hF d i3 s2 0 1 σ2 (by omega) (by omega) hn g3 fun x3 s3 σ3 hx3 g5 g6 => ?_)
        have b3 : a ≤ x3 ∧ x3 < b := by omega
        clear hx3
        simp +contextual -implicitDefEqProofs (maxSteps := 2000000) only [↓wP, wQ, wQ1, wQ2, wQ3, wR, boxE, partsOf, ↓reduceIte, n1w, n2w, n3w, n4w, n5w, n6w, reduceCtorEq, i1w, i2w, i3w, i4w, i5w]
        refine stepW_raw (by decide) (raw127 F hF d x1 x2 x3 s3 0 1 σ3 (by omega) (by omega) (by omega) g5 fun x s' σ' hx h1 h2 => ?_)
        have hx' : a ≤ x ∧ x < b := by omega
        by_cases e0 : s' = 0
        · simp +contextual -implicitDefEqProofs (maxSteps := 2000000) only [↓wP, wQ, wQ1, wQ2, wQ3, wR, boxE, partsOf, ↓reduceIte, n1w, n2w, n3w, n4w, n5w, n6w, reduceCtorEq, i1w, i2w, i3w, i4w, i5w, h1, e0]
          exact ⟨x, 1, hx'.1, hx'.2, by simp, rfl⟩
        · have d0 : (s' == 0) = false := by simpa using e0
          by_cases e12 : s' = 12
          · simp +contextual -implicitDefEqProofs (maxSteps := 2000000) only [↓wP, wQ, wQ1, wQ2, wQ3, wR, boxE, partsOf, ↓reduceIte, n1w, n2w, n3w, n4w, n5w, n6w, reduceCtorEq, i1w, i2w, i3w, i4w, i5w, h1, e12]
            exact ⟨x, 2, hx'.1, hx'.2, by simp, rfl⟩
          · have d12 : (s' == 12) = false := by simpa using e12
            simp +contextual -implicitDefEqProofs (maxSteps := 2000000) only [↓wP, wQ, wQ1, wQ2, wQ3, wR, boxE, partsOf, ↓reduceIte, n1w, n2w, n3w, n4w, n5w, n6w, reduceCtorEq, i1w, i2w, i3w, i4w, i5w, h1, d0, d12]
            exact ⟨x, 0, hx'.1, hx'.2, by simp, rfl⟩
      · simp +contextual -implicitDefEqProofs (maxSteps := 2000000) only [↓wP, wQ, wQ1, wQ2, wQ3, wR, boxE, partsOf, ↓reduceIte, n1w, n2w, n3w, n4w, n5w, n6w, reduceCtorEq, i1w, i2w, i3w, i4w, i5w, w1, q4, w2, w3, w4, w5, w6, w7, c8, c50]
        refine stepW_raw (by decide) (raw127 F hF d _ _ _ 0 0 1 _ (by omega) (by omega) (by omega) (by simp [upd]) fun x s' σ' hx h1 h2 => ?_)
        have hx' : a ≤ x ∧ x < b := by omega
        by_cases e0 : s' = 0
        · simp +contextual -implicitDefEqProofs (maxSteps := 2000000) only [↓wP, wQ, wQ1, wQ2, wQ3, wR, boxE, partsOf, ↓reduceIte, n1w, n2w, n3w, n4w, n5w, n6w, reduceCtorEq, i1w, i2w, i3w, i4w, i5w, h1, e0]
          exact ⟨x, 1, hx'.1, hx'.2, by simp, rfl⟩
        · have d0 : (s' == 0) = false := by simpa using e0
          by_cases e12 : s' = 12
          · simp +contextual -implicitDefEqProofs (maxSteps := 2000000) only [↓wP, wQ, wQ1, wQ2, wQ3, wR, boxE, partsOf, ↓reduceIte, n1w, n2w, n3w, n4w, n5w, n6w, reduceCtorEq, i1w, i2w, i3w, i4w, i5w, h1, e12]
            exact ⟨x, 2, hx'.1, hx'.2, by simp, rfl⟩
          · have d12 : (s' == 12) = false := by simpa using e12
            simp +contextual -implicitDefEqProofs (maxSteps := 2000000) only [↓wP, wQ, wQ1, wQ2, wQ3, wR, boxE, partsOf, ↓reduceIte, n1w, n2w, n3w, n4w, n5w, n6w, reduceCtorEq, i1w, i2w, i3w, i4w, i5w, h1, d0, d12]
            exact ⟨x, 0, hx'.1, hx'.2, by simp, rfl⟩
    · simp +contextual -implicitDefEqProofs (maxSteps := 2000000) only [↓wP, wQ, wQ1, wQ2, wQ3, wR, boxE, partsOf, ↓reduceIte, n1w, n2w, n3w, n4w, n5w, n6w, reduceCtorEq, i1w, i2w, i3w, i4w, i5w, w1, q4, w2, w3, w4, w5, w6, w7, c8]
      exact ⟨a + (b - a) / 4 * 2, 1, by omega, by omega, by simp, rfl⟩)
  exact ⟨p, h, h1, h2, h3, hr⟩
end Go.Q.SB
end

section
/- Small sorts, a part turned round, patterns broken. -/
set_option linter.unusedSimpArgs false
set_option linter.unusedVariables false
namespace Go.Q.SB
open Go.Q Go.Sort
open Nat renaming reduceEqDiff → n1w, reduceAdd → n2w, reduceSub → n3w, reduceLeDiff → n4w, reduceLT → n5w, reduceMul → n6w
open Int renaming reduceBNe → i1w, reduceBEq → i2w, reduceLT → i3w, reduceLE → i4w, reduceGT → i5w
def At (σ σ0 : Sto) (id : Nat) (d : Array Rw) : Prop := σ id = some (.row 2 (rw' d)) ∧ ∀ i, i ≠ id → σ i = σ0 i
theorem rw_set {d : Array Rw} {i : Nat} {x : Rw} : (rw' d).set i (.agg [.int .u64 x.id, slV 1 i32V x.v]) = rw' (d.setIfInBounds i x) := by
  unfold rw'
  rw [Array.toList_setIfInBounds, List.map_set]
  rfl
theorem rw_set_at {d : Array Rw} {i j : Nat} {x : Rw} (hj : j < d.size) : ∃ (u : Int) (w : Vc), ((rw' d).set i (.agg [.int .u64 x.id, slV 1 i32V x.v]))[j]? = some (.agg [.int .u64 u, slV 1 i32V w]) := by
  rw [rw_set, rw_at (by simpa using hj)]
  exact ⟨_, _, rfl⟩
theorem rw_swp (d : Array Rw) (i j : Nat) : ((rw' d).set i (.agg [.int .u64 (d[j]!).id, slV 1 i32V (d[j]!).v])).set j (.agg [.int .u64 (d[i]!).id, slV 1 i32V (d[i]!).v]) = rw' (swp d i j) := by
  rw [rw_set, rw_set]
  rfl
theorem At.swp {σ σ0 : Sto} {id : Nat} {d : Array Rw} (h : At σ σ0 id d) (i j : Nat) :
    At (upd (upd σ id (some (.row 2 ((rw' d).set i (.agg [.int .u64 (d[j]!).id, slV 1 i32V (d[j]!).v]))))) id
      (some (.row 2 (((rw' d).set i (.agg [.int .u64 (d[j]!).id, slV 1 i32V (d[j]!).v])).set j (.agg [.int .u64 (d[i]!).id, slV 1 i32V (d[i]!).v]))))) σ0 id (swp d i j) := by
  refine ⟨?_, fun k hk => ?_⟩
  · simp only [upd, if_true, rw_swp]
  · simp only [upd, hk, if_false, h.2 k hk]
theorem At.refl {σ : Sto} {id : Nat} {d : Array Rw} (h : σ id = some (.row 2 (rw' d))) : At σ σ id d := ⟨h, fun _ _ => rfl⟩
theorem insIn_lt {lt : Rw → Rw → Bool} {a j : Nat} {d : Array Rw} (h : a < j + 1) (hl : lt d[j + 1]! d[j]! = true) : insInner lt a (j + 1) d = insInner lt a j (Go.Sort.swp d (j + 1) j) := by
  rw [insInner]; simp [h, hl]
theorem insIn_stop {lt : Rw → Rw → Bool} {a j : Nat} {d : Array Rw} (h : j ≤ a ∨ (0 < j ∧ lt d[j]! d[j - 1]! = false)) : insInner lt a j d = d := by
  cases j with
  | zero => rfl
  | succ j =>
    rw [insInner]
    rcases h with h | h
    · have : ¬ a < j + 1 := by omega
      simp [this]
    · simp only [Nat.add_sub_cancel] at h
      simp [h.2]
theorem raw112 (F : Nat) (hF : CmpF F) (d : Array Rw) (a b id n : Nat) (σ : Sto) (hab : a ≤ b) (hb : b ≤ d.size) (hn : d.size < 1000000) (hσ : σ id = some (.row 2 (rw' d))) {Q : V → Sto → Nat → Prop}
    (hQ : ∀ σ', At σ' σ id (insertionSort ahR d a b) → Q .undef σ' n) :
    run T (.raw 112 [.ref id 0 d.size 2, .int .i64 (a : Int), .int .i64 (b : Int), .fn F []] σ n 0) (memQ Q) := by
  refine run_rawE (fn := g112) rfl rfl ?_
  simp only [g112, b112, oO, oN, mV, lD, gO, pP, qQ, cI, aR]
  have w1 : IntKind.i64.wrap ((a : Int) + 1) = ((a + 1 : Nat) : Int) := by rw [wrap_i64] <;> omega
  generalize hsz : d.size = N at *
  simp +contextual -implicitDefEqProofs (maxSteps := 2000000) only [↓wP, wQ, wQ1, wQ2, wQ3, wR, boxE, partsOf, ↓reduceIte, n1w, n2w, n3w, n4w, n5w, n6w, reduceCtorEq, i1w, i2w, i3w, i4w, i5w, w1]
  refine WC_loopI 0 (fun (s : Nat × Array Rw) env σ' n' => n' = n ∧ env 0 = .ref id 0 N 2 ∧ env 1 = .int .i64 (a : Int) ∧ env 2 = .int .i64 (b : Int) ∧ env 3 = .fn F [] ∧ env 8 = .int .i64 (s.1 : Int) ∧
      a < s.1 ∧ (s.1 ≤ b ∨ s.1 = a + 1) ∧ s.2.size = N ∧ At σ' σ id s.2 ∧ insOuter ahR a b s.1 s.2 = insertionSort ahR d a b) (fun s => b + 1 - s.1) ?_ (a + 1, d) _ _ _ ?_
  · intro ⟨i, e⟩ env σ1 n1 ⟨h1, h2, h3, h4, h5, h6, h7, h8, h9, h10, h11⟩
    subst h1
    simp only at h6 h7 h8 h9 h10 h11
    by_cases hlt : i < b
    · have w2 : IntKind.i64.wrap ((i : Int) + 1) = ((i + 1 : Nat) : Int) := by rw [wrap_i64] <;> omega
      have hlt' : (i : Int) < (b : Int) := by omega
      rw [insOuter, if_pos hlt] at h11
      simp +contextual -implicitDefEqProofs (maxSteps := 2000000) only [↓wP, wQ, wQ1, wQ2, wQ3, wR, boxE, partsOf, ↓reduceIte, n1w, n2w, n3w, n4w, n5w, n6w, reduceCtorEq, i1w, i2w, i3w, i4w, i5w, h2, h3, h4, h5, h6, hlt']
      refine WC_loopI 0 (fun (s : Nat × Array Rw) env σ' n' => n' = n1 ∧ env 0 = .ref id 0 N 2 ∧ env 1 = .int .i64 (a : Int) ∧ env 2 = .int .i64 (b : Int) ∧ env 3 = .fn F [] ∧ env 8 = .int .i64 (i : Int) ∧ env 9 = .int .i64 (s.1 : Int) ∧
          s.1 ≤ i ∧ s.2.size = N ∧ At σ' σ id s.2 ∧ insInner ahR a s.1 s.2 = insInner ahR a i e) (fun s => s.1) ?_ (i, e) _ _ _ ?_
      · clear h2 h3 h4 h5 h6 h10
        intro ⟨j, g⟩ env σ2 n2 ⟨k1, k2, k3, k4, k5, k6, k7, k8, k9, k10, k11⟩
        subst k1
        simp only at k7 k8 k9 k10 k11
        have hat := k10.1
        by_cases hja : a < j
        · obtain ⟨j, rfl⟩ : ∃ j', j = j' + 1 := ⟨j - 1, by omega⟩
          have hja' : (a : Int) < ((j + 1 : Nat) : Int) := by omega
          have w3 : IntKind.i64.wrap (((j + 1 : Nat) : Int) - 1) = (j : Int) := by rw [wrap_i64] <;> omega
          have x1 := rw_at (d := g) (i := j + 1) (by omega)
          have x2 := rw_at (d := g) (i := j) (by omega)
          have l1 : j + 1 < N := by omega
          have l2 : j < N := by omega
          by_cases hc : cmpU (g[j + 1]!).id (g[j]!).id < 0
          · have hah : ahR g[j + 1]! g[j]! = true := by rw [← cmp_lt]; simpa using hc
            obtain ⟨u, v, x3⟩ := rw_set_at (d := g) (i := j + 1) (j := j) (x := g[j]!) (by omega)
            simp +contextual -implicitDefEqProofs (maxSteps := 2000000) only [↓wP, wQ, wQ1, wQ2, wQ3, wR, boxE, partsOf, ↓reduceIte, n1w, n2w, n3w, n4w, n5w, n6w, reduceCtorEq, i1w, i2w, i3w, i4w, i5w, k2, k3, k4, k5, k6, k7, hja', w3, hat, l1, l2, x1, x2, x3, hF, hc]
            refine ⟨(j, swp g (j + 1) j), by dsimp only; omega, rfl, by dsimp only; omega, by rw [swp_size, k9], k10.swp _ _, ?_⟩
            dsimp only
            rw [← insIn_lt hja hah]
            exact k11
          · have hah : ahR g[j + 1]! g[j]! = false := by rw [← cmp_lt]; simpa using hc
            simp +contextual -implicitDefEqProofs (maxSteps := 2000000) only [↓wP, wQ, wQ1, wQ2, wQ3, wR, boxE, partsOf, ↓reduceIte, n1w, n2w, n3w, n4w, n5w, n6w, reduceCtorEq, i1w, i2w, i3w, i4w, i5w, k2, k3, k4, k5, k6, k7, hja', w3, hat, l1, l2, x1, x2, hF, hc, w2]
            refine ⟨(i + 1, g), by dsimp only; omega, rfl, by dsimp only; omega, by dsimp only; omega, k9, k10, ?_⟩
            dsimp only
            rw [insIn_stop (.inr ⟨by omega, hah⟩)] at k11
            rw [k11]
            exact h11
        · have hja' : ¬ (a : Int) < (j : Int) := by omega
          simp +contextual -implicitDefEqProofs (maxSteps := 2000000) only [↓wP, wQ, wQ1, wQ2, wQ3, wR, boxE, partsOf, ↓reduceIte, n1w, n2w, n3w, n4w, n5w, n6w, reduceCtorEq, i1w, i2w, i3w, i4w, i5w, k2, k3, k4, k5, k6, k7, hja', w2]
          refine ⟨(i + 1, g), by dsimp only; omega, rfl, by dsimp only; omega, by dsimp only; omega, k9, k10, ?_⟩
          dsimp only
          rw [insIn_stop (.inl (by omega))] at k11
          rw [k11]
          exact h11
      · simp +contextual -implicitDefEqProofs (maxSteps := 2000000) only [↓wP, wQ, wQ1, wQ2, wQ3, wR, boxE, partsOf, ↓reduceIte, n1w, n2w, n3w, n4w, n5w, n6w, reduceCtorEq, i1w, i2w, i3w, i4w, i5w, h2, h3, h4, h5, h6]
        exact ⟨h9, h10⟩
    · have hlt' : ¬ (i : Int) < (b : Int) := by omega
      rw [insOuter, if_neg hlt] at h11
      simp +contextual -implicitDefEqProofs (maxSteps := 2000000) only [↓wP, wQ, wQ1, wQ2, wQ3, wR, boxE, partsOf, ↓reduceIte, n1w, n2w, n3w, n4w, n5w, n6w, reduceCtorEq, i1w, i2w, i3w, i4w, i5w, h2, h3, h4, h5, h6, hlt']
      refine hQ _ ?_
      rw [← h11]
      exact h10
  · simp +contextual -implicitDefEqProofs (maxSteps := 2000000) only [↓wP, wQ, wQ1, wQ2, wQ3, wR, boxE, partsOf, ↓reduceIte, n1w, n2w, n3w, n4w, n5w, n6w, reduceCtorEq, i1w, i2w, i3w, i4w, i5w]
    exact ⟨by omega, .inr trivial, hsz, At.refl hσ, rfl⟩
theorem raw116 (F : Nat) (hF : CmpF F) (d : Array Rw) (a b id n : Nat) (σ : Sto) (hab : a < b) (hb : b ≤ d.size) (hn : d.size < 1000000) (hσ : σ id = some (.row 2 (rw' d))) {Q : V → Sto → Nat → Prop}
    (hQ : ∀ σ' d', At σ' σ id d' → PermIn a b d d' → Q .undef σ' n) :
    run T (.raw 116 [.ref id 0 d.size 2, .int .i64 (a : Int), .int .i64 (b : Int), .fn F []] σ n 0) (memQ Q) := by
  refine run_rawE (fn := g116) rfl rfl ?_
  simp only [g116, b116, oO, oN, mV, lD, gO, pP, qQ, cI, aR]
  have w1 : IntKind.i64.wrap ((b : Int) - 1) = ((b - 1 : Nat) : Int) := by rw [wrap_i64] <;> omega
  have hp : ∀ d' : Array Rw, PermIn a b d d' → d'.size = d.size := fun d' h => h.1
  generalize hsz : d.size = N at *
  simp +contextual -implicitDefEqProofs (maxSteps := 2000000) only [↓wP, wQ, wQ1, wQ2, wQ3, wR, boxE, partsOf, ↓reduceIte, n1w, n2w, n3w, n4w, n5w, n6w, reduceCtorEq, i1w, i2w, i3w, i4w, i5w, w1]
  refine WC_loopI 0 (fun (s : (Nat × Nat) × Array Rw) env σ' n' => n' = n ∧ env 0 = .ref id 0 N 2 ∧ env 8 = .int .i64 (s.1.1 : Int) ∧ env 9 = .int .i64 (s.1.2 : Int) ∧
      a ≤ s.1.1 ∧ s.1.2 < b ∧ At σ' σ id s.2 ∧ PermIn a b d s.2) (fun s => s.1.2) ?_ ((a, b - 1), d) _ _ _ ?_
  · intro ⟨⟨i, j⟩, e⟩ env σ1 n1 ⟨h1, h2, h3, h4, h5, h6, h7, h8⟩
    subst h1
    simp only at h3 h4 h5 h6 h7 h8
    by_cases hlt : i < j
    · obtain ⟨j, rfl⟩ : ∃ j', j = j' + 1 := ⟨j - 1, by omega⟩
      have hlt' : (i : Int) < ((j + 1 : Nat) : Int) := by omega
      have w2 : IntKind.i64.wrap ((i : Int) + 1) = ((i + 1 : Nat) : Int) := by rw [wrap_i64] <;> omega
      have w3 : IntKind.i64.wrap (((j + 1 : Nat) : Int) - 1) = (j : Int) := by rw [wrap_i64] <;> omega
      have he := hp e h8
      have x1 := rw_at (d := e) (i := i) (by omega)
      have x2 := rw_at (d := e) (i := j + 1) (by omega)
      obtain ⟨u, v, x3⟩ := rw_set_at (d := e) (i := i) (j := j + 1) (x := e[j + 1]!) (by omega)
      have l1 : i < N := by omega
      have l2 : j + 1 < N := by omega
      have hat := h7.1
      simp +contextual -implicitDefEqProofs (maxSteps := 2000000) only [↓wP, wQ, wQ1, wQ2, wQ3, wR, boxE, partsOf, ↓reduceIte, n1w, n2w, n3w, n4w, n5w, n6w, reduceCtorEq, i1w, i2w, i3w, i4w, i5w, h2, h3, h4, hlt', w2, w3, x1, x2, x3, l1, l2, hat]
      refine ⟨((i + 1, j), swp e i (j + 1)), by dsimp only; omega, rfl, rfl, by dsimp only; omega, by dsimp only; omega, h7.swp _ _, ?_⟩
      exact permIn_trans _ _ _ _ _ h8 (swp_permIn e a b i (j + 1) h5 (by omega) (by omega) h6 (by omega))
    · have hlt' : ¬ (i : Int) < (j : Int) := by omega
      simp +contextual -implicitDefEqProofs (maxSteps := 2000000) only [↓wP, wQ, wQ1, wQ2, wQ3, wR, boxE, partsOf, ↓reduceIte, n1w, n2w, n3w, n4w, n5w, n6w, reduceCtorEq, i1w, i2w, i3w, i4w, i5w, h2, h3, h4, hlt']
      exact hQ _ _ h7 h8
  · simp +contextual -implicitDefEqProofs (maxSteps := 2000000) only [↓wP, wQ, wQ1, wQ2, wQ3, wR, boxE, partsOf, ↓reduceIte, n1w, n2w, n3w, n4w, n5w, n6w, reduceCtorEq, i1w, i2w, i3w, i4w, i5w]
    exact ⟨by omega, At.refl hσ, permIn_refl _ _ _⟩
theorem bin_shl (k : IntKind) (x : Int) (m : Nat) : ∃ y, binV .shl (.int k x) (.int .u64 (m : Int)) = some (.int k y) := by
  refine ⟨k.wrap (x * 2 ^ (min (m : Int).toNat k.bits)), ?_⟩
  have : ¬ ((m : Int) < 0) := by omega
  simp [binV, pureV, Go.binOp, Op.shift, this]
  rfl
theorem bin_shr (k : IntKind) (x : Int) (m : Nat) : ∃ y, binV .shr (.int k x) (.int .u64 (m : Int)) = some (.int k y) := by
  refine ⟨x.fdiv (2 ^ (min (m : Int).toNat k.bits)), ?_⟩
  have : ¬ ((m : Int) < 0) := by omega
  simp [binV, pureV, Go.binOp, Op.shift, this]
  rfl
theorem bin_and64 (x : Int) (m : Nat) (hm : m < 18446744073709551616) : ∃ y : Nat, y ≤ m ∧ binV .and (.int .u64 x) (.int .u64 (m : Int)) = some (.int .u64 (y : Int)) := by
  have hle : (BitVec.ofInt 64 x &&& BitVec.ofInt 64 (m : Int)).toNat ≤ m := by
    rw [BitVec.toNat_and]
    refine Nat.le_trans Nat.and_le_right ?_
    simp
    exact Nat.mod_le _ _
  refine ⟨(BitVec.ofInt 64 x &&& BitVec.ofInt 64 (m : Int)).toNat, hle, ?_⟩
  have hw : IntKind.u64.wrap ((BitVec.ofInt 64 x &&& BitVec.ofInt 64 (m : Int)).toNat : Int) = ((BitVec.ofInt 64 x &&& BitVec.ofInt 64 (m : Int)).toNat : Int) := by rw [wrap_u64] <;> omega
  have := bin_and .u64 x (m : Int)
  rw [this]
  congr 2
theorem raw125 (F : Nat) (hF : CmpF F) (r : Int) (sid n : Nat) (σ : Sto) (hs : σ sid = some (.row 1 [.int .u64 r])) {Q : V → Sto → Nat → Prop}
    (hQ : ∀ (r' : Int) (σ' : Sto), σ' sid = some (.row 1 [.int .u64 r']) → (∀ i, i ≠ sid → σ' i = σ i) → Q (.int .u64 r') σ' n) :
    run T (.raw 125 [.ptr sid 1 0 0] σ n 0) (memQ Q) := by
  refine run_rawE (fn := g125) rfl rfl ?_
  simp only [g125, b125, oO, oN, mV, lD, gO, pP, qQ, cI, aR]
  obtain ⟨y1, e1⟩ := bin_shl .u64 r 13
  have x1 := bin_xor .u64 r y1
  generalize IntKind.u64.wrap ↑(BitVec.ofInt IntKind.u64.bits r ^^^ BitVec.ofInt IntKind.u64.bits y1).toNat = r1 at x1
  obtain ⟨y2, e2⟩ := bin_shr .u64 r1 7
  have x2 := bin_xor .u64 r1 y2
  generalize IntKind.u64.wrap ↑(BitVec.ofInt IntKind.u64.bits r1 ^^^ BitVec.ofInt IntKind.u64.bits y2).toNat = r2 at x2
  obtain ⟨y3, e3⟩ := bin_shl .u64 r2 17
  have x3 := bin_xor .u64 r2 y3
  generalize IntKind.u64.wrap ↑(BitVec.ofInt IntKind.u64.bits r2 ^^^ BitVec.ofInt IntKind.u64.bits y3).toNat = r3 at x3
  simp only [show ((13 : Nat) : Int) = 13 from rfl, show ((7 : Nat) : Int) = 7 from rfl, show ((17 : Nat) : Int) = 17 from rfl] at e1 e2 e3
  simp +contextual -implicitDefEqProofs (maxSteps := 2000000) only [↓wP, wQ, wQ1, wQ2, wQ3, wR, boxE, partsOf, ↓reduceIte, n1w, n2w, n3w, n4w, n5w, n6w, reduceCtorEq, i1w, i2w, i3w, i4w, i5w, hs, e1, x1, e2, x2, e3, x3]
  exact hQ _ _ (by simp [upd]) (fun i hi => by simp [upd, hi])
def chk124 (m : Nat) : Bool := match exJob T 60 (.pure 124 [.int .i64 (m : Int)]) with
  | some (.val (.int .u64 M)) => decide (0 < M ∧ M ≤ 2 * (m : Int))
  | _ => false
theorem all124 : (List.range 130).all (fun m => decide (m < 8) || chk124 m) = true := by decide +kernel
theorem r124 (m : Nat) (h8 : 8 ≤ m) (h60 : m < 130) : ∃ M : Nat, 0 < M ∧ M ≤ 2 * m ∧ res T 124 [.int .i64 (m : Int)] = some (.int .u64 (M : Int)) := by
  have h := List.all_eq_true.1 all124 m (List.mem_range.2 h60)
  have h8' : ¬ m < 8 := by omega
  simp only [h8', decide_false, Bool.false_or] at h
  unfold chk124 at h
  split at h
  · rename_i M hM
    simp only [decide_eq_true_eq] at h
    refine ⟨M.toNat, by omega, by omega, ?_⟩
    rw [show ((M.toNat : Nat) : Int) = M by omega]
    exact run_res (exJob_sound 60 _ _ hM)
  · cases h
theorem raw114 (F : Nat) (hF : CmpF F) (d : Array Rw) (a b id n : Nat) (σ : Sto) (h8 : 8 ≤ b - a) (h60 : b - a < 130) (hb : b ≤ d.size) (hn : d.size < 1000000) (hid : id < n) (hσ : σ id = some (.row 2 (rw' d))) {Q : V → Sto → Nat → Prop}
    (hQ : ∀ σ' d' n', n ≤ n' → σ' id = some (.row 2 (rw' d')) → (∀ i, i ≠ id → i < n → σ' i = σ i) → PermIn a b d d' → Q .undef σ' n') :
    run T (.raw 114 [.ref id 0 d.size 2, .int .i64 (a : Int), .int .i64 (b : Int), .fn F []] σ n 0) (memQ Q) := by
  refine run_rawE (fn := g114) rfl rfl ?_
  simp only [g114, b114, oO, oN, mV, lD, gO, pP, qQ, cI, aR]
  have hp : ∀ d' : Array Rw, PermIn a b d d' → d'.size = d.size := fun d' h => h.1
  obtain ⟨L, hL⟩ : ∃ L, L = b - a := ⟨_, rfl⟩
  have w1 : IntKind.i64.wrap ((b : Int) - (a : Int)) = (L : Int) := by rw [wrap_i64] <;> omega
  have c8 : (8 : Int) ≤ (L : Int) := by omega
  obtain ⟨M, hM1, hM2, hM⟩ := r124 L (by omega) (by omega)
  have f124 := callE_tr (fs := true) (by decide) hM (by simp [Tr]) rfl
  have q4 := bin_quo4 L (by omega)
  have wu : IntKind.u64.wrap (L : Int) = (L : Int) := by rw [wrap_u64] <;> omega
  have w2 : IntKind.i64.wrap (((L / 4 : Nat) : Int) * 2) = ((L / 4 * 2 : Nat) : Int) := by rw [wrap_i64] <;> omega
  obtain ⟨t, ht⟩ : ∃ t, t = a + L / 4 * 2 := ⟨_, rfl⟩
  have w3 : IntKind.i64.wrap ((a : Int) + ((L / 4 * 2 : Nat) : Int)) = (t : Int) := by rw [wrap_i64] <;> omega
  have w4 : IntKind.i64.wrap ((t : Int) - 1) = ((t - 1 : Nat) : Int) := by rw [wrap_i64] <;> omega
  have w5 : IntKind.i64.wrap ((t : Int) + 1) = ((t + 1 : Nat) : Int) := by rw [wrap_i64] <;> omega
  have wm : IntKind.u64.wrap ((M : Int) - 1) = ((M - 1 : Nat) : Int) := by rw [wrap_u64] <;> omega
  have hidn : (id = n) = False := by simp; omega
  generalize hsz : d.size = N at *
  simp +contextual -implicitDefEqProofs (maxSteps := 2000000) only [↓wP, wQ, wQ1, wQ2, wQ3, wR, boxE, partsOf, ↓reduceIte, n1w, n2w, n3w, n4w, n5w, n6w, reduceCtorEq, i1w, i2w, i3w, i4w, i5w, w1, c8, wu, f124, q4, w2, w3, w4, w5]
  refine WC_loopI 0 (fun (s : Nat × (Array Rw × Int)) env σ' n' => n' = n + 1 ∧ env 0 = .ref id 0 N 2 ∧ env 1 = .int .i64 (a : Int) ∧ env 8 = .int .i64 (L : Int) ∧ env 9 = .ptr n 1 0 0 ∧ env 10 = .int .u64 (M : Int) ∧ env 11 = .int .i64 (s.1 : Int) ∧
      a ≤ s.1 ∧ s.1 ≤ t + 2 ∧ σ' id = some (.row 2 (rw' s.2.1)) ∧ σ' n = some (.row 1 [.int .u64 s.2.2]) ∧ (∀ i, i ≠ id → i < n → σ' i = σ i) ∧ PermIn a b d s.2.1) (fun s => t + 3 - s.1) ?_ (t - 1, (d, (L : Int))) _ _ _ ?_
  · intro ⟨i, e, r⟩ env σ1 n1 ⟨h1, h2, h3, h4, h5, h6, h7, h8', h9, h10, h11, h12, h13⟩
    subst h1
    simp only at h7 h8' h9 h10 h11 h13
    have he := hp e h13
    by_cases hlt : i ≤ t + 1
    · have hlt' : (i : Int) ≤ ((t + 1 : Nat) : Int) := by omega
      have wi : IntKind.i64.wrap ((i : Int) + 1) = ((i + 1 : Nat) : Int) := by rw [wrap_i64] <;> omega
      simp +contextual -implicitDefEqProofs (maxSteps := 2000000) only [↓wP, wQ, wQ1, wQ2, wQ3, wR, boxE, partsOf, ↓reduceIte, n1w, n2w, n3w, n4w, n5w, n6w, reduceCtorEq, i1w, i2w, i3w, i4w, i5w, h2, h3, h4, h5, h6, h7, q4, w2, w3, w5, hlt']
      refine stepW_raw (by decide) (raw125 F hF r n (n + 1) σ1 h11 fun r' σ2 g1 g2 => ?_)
      obtain ⟨y, hy, ey⟩ := bin_and64 r' (M - 1) (by omega)
      have hg : σ2 id = some (.row 2 (rw' e)) := by rw [g2 id (by omega), h10]
      have wy : IntKind.i64.wrap (y : Int) = (y : Int) := by rw [wrap_i64] <;> omega
      have x1 := rw_at (d := e) (i := i) (by omega)
      have l1 : i < N := by omega
      by_cases hge : L ≤ y
      · have hge' : (L : Int) ≤ (y : Int) := by omega
        have wd : IntKind.i64.wrap ((y : Int) - (L : Int)) = ((y - L : Nat) : Int) := by rw [wrap_i64] <;> omega
        have wa : IntKind.i64.wrap ((a : Int) + ((y - L : Nat) : Int)) = ((a + (y - L) : Nat) : Int) := by rw [wrap_i64] <;> omega
        have x2 := rw_at (d := e) (i := a + (y - L)) (by omega)
        have l2 : a + (y - L) < N := by omega
        obtain ⟨u, v, x3⟩ := rw_set_at (d := e) (i := i) (j := a + (y - L)) (x := e[a + (y - L)]!) (by omega)
        simp +contextual -implicitDefEqProofs (maxSteps := 2000000) only [↓wP, wQ, wQ1, wQ2, wQ3, wR, boxE, partsOf, ↓reduceIte, n1w, n2w, n3w, n4w, n5w, n6w, reduceCtorEq, i1w, i2w, i3w, i4w, i5w, h2, h3, h4, h5, h6, h7, wm, ey, wy, hge', wd, wa, hg, x1, x2, x3, l1, l2, wi, hidn]
        refine ⟨(i + 1, (swp e i (a + (y - L)), r')), by dsimp only; omega, rfl, by dsimp only; omega, by dsimp only; omega, ?_, ?_, ?_, ?_⟩
        · dsimp only; rw [rw_swp]
        · have a1 : n ≠ id := by omega
          simp only [a1, if_false]; exact g1
        · intro k hk hkn
          rw [g2 k (by omega), h12 k hk hkn]
        · exact permIn_trans _ _ _ _ _ h13 (swp_permIn e a b i (a + (y - L)) h8' (by omega) (by omega) (by omega) (by omega))
      · have hge' : ¬ (L : Int) ≤ (y : Int) := by omega
        have wa : IntKind.i64.wrap ((a : Int) + (y : Int)) = ((a + y : Nat) : Int) := by rw [wrap_i64] <;> omega
        have x2 := rw_at (d := e) (i := a + y) (by omega)
        have l2 : a + y < N := by omega
        obtain ⟨u, v, x3⟩ := rw_set_at (d := e) (i := i) (j := a + y) (x := e[a + y]!) (by omega)
        simp +contextual -implicitDefEqProofs (maxSteps := 2000000) only [↓wP, wQ, wQ1, wQ2, wQ3, wR, boxE, partsOf, ↓reduceIte, n1w, n2w, n3w, n4w, n5w, n6w, reduceCtorEq, i1w, i2w, i3w, i4w, i5w, h2, h3, h4, h5, h6, h7, wm, ey, wy, hge', wa, hg, x1, x2, x3, l1, l2, wi, hidn]
        refine ⟨(i + 1, (swp e i (a + y), r')), by dsimp only; omega, rfl, by dsimp only; omega, by dsimp only; omega, ?_, ?_, ?_, ?_⟩
        · dsimp only; rw [rw_swp]
        · have a1 : n ≠ id := by omega
          simp only [a1, if_false]; exact g1
        · intro k hk hkn
          rw [g2 k (by omega), h12 k hk hkn]
        · exact permIn_trans _ _ _ _ _ h13 (swp_permIn e a b i (a + y) h8' (by omega) (by omega) (by omega) (by omega))
    · have hlt' : ¬ (i : Int) ≤ ((t + 1 : Nat) : Int) := by omega
      simp +contextual -implicitDefEqProofs (maxSteps := 2000000) only [↓wP, wQ, wQ1, wQ2, wQ3, wR, boxE, partsOf, ↓reduceIte, n1w, n2w, n3w, n4w, n5w, n6w, reduceCtorEq, i1w, i2w, i3w, i4w, i5w, h2, h3, h4, h5, h6, h7, q4, w2, w3, w5, hlt']
      exact hQ _ e _ (by omega) h10 h12 h13
  · simp +contextual -implicitDefEqProofs (maxSteps := 2000000) only [↓wP, wQ, wQ1, wQ2, wQ3, wR, boxE, partsOf, ↓reduceIte, n1w, n2w, n3w, n4w, n5w, n6w, reduceCtorEq, i1w, i2w, i3w, i4w, i5w, hidn]
    refine ⟨by omega, by omega, hσ, fun i h1 h2 => ?_, permIn_refl _ _ _⟩
    have a1 : i ≠ n := by omega
    simp only [a1, if_false]
end Go.Q.SB
end

/- The compact code of this seat's functions, printed by a program. -/
import Derived.Test.YtppdkahgmojipaaQD
import Derived.Sort.AssemblyPlain
import Derived.Test.YtppdkahgmojipaaProg
import Derived.KernelRfl
set_option linter.unusedVariables false
set_option linter.unusedSimpArgs false
set_option linter.unusedSectionVars false
set_option linter.defProp false
section
namespace Go.Q.SU
def zO (d : Nat) (x : AI) : AOp := ⟨some d, none, x⟩
def zN (x : AI) : AOp := ⟨none, none, x⟩
def zM (d s : Nat) : AOp := ⟨some d, none, .mov (.tmp s)⟩
def zL (d s : Nat) : AOp := ⟨some d, none, .load false 1 (.tmp s)⟩
def zG (d g : Nat) (b : Bool) (x : AI) : AOp := ⟨some d, some (g, b), x⟩
def zP (x : AOp) : DOp := ⟨x, true, false, false, 0, [], none⟩
def zQ (x : AOp) : DOp := ⟨x, false, false, false, 0, [], none⟩
def zI (n : Int) : Opd := .con (.int .i64 n)
def zA (x : List AOp) (y : AC) : AC := .seq (.reg x) y
def zT (n : Nat) : Opd := .tmp n
def zF : Opd := .con (.bool false)
def zB (d s : Nat) : DOp := zP (zM d s)
def zC (d : Nat) (n : Int) : AOp := zO d (.mov (zI n))
def zD (d s n : Nat) : AOp := zO d (.faddr (zT s) n)
def zE (d n s : Nat) : AOp := zO d (.load true n (zT s))
def zH (d s : Nat) : AOp := zO d (.len (zT s))
def zJ (d s : Nat) (n : Int) : AOp := zO d (.bin .add (zT s) (zI n))
def zK (d s : Nat) : AOp := zO d (.box (zT s))
def b6 : AC :=
 (zA [zO 4 (.mov zF)]
 (.seq (zA [zO 32 (.prim 8 []),
 zO 33 (.un .not (zT 32))]
 (.cond (zT 33)
 (zA [zO 4 (.mov zF)]
 .ret)
 .skip))
 (zA [zM 34 0,
 zO 35 (.call 14 [(zT 34)]),
 zM 5 35]
 (zA [zO 6 (.mov (.con .nilS))]
 (.seq (zA [zM 37 5,
 zO 38 (.call 15 [(.con .nilS), (zI 0), (zT 37)]),
 zM 36 38,
 zO 39 (.ext (zT 36) 0),
 zO 40 (.ext (zT 36) 1),
 zM 7 39,
 zM 8 40]
 (zA [zM 41 8,
 zO 42 (.bin .neq (zT 41) (zI 0))]
 (.cond (zT 42)
 (zA [zO 4 (.mov (.con (.bool true)))]
 .ret)
 .skip)))
 (.seq (zA [zM 43 1,
 zH 44 43,
 zC 45 0]
 (.block 0 (.loop (zA [zO 46 (.bin .lss (zT 45) (zT 44))]
 (.seq (.cond (zT 46)
 .skip
 (.exit 0))
 (.seq (.block 1 (zA [zM 47 45,
 zO 48 (.iaddr 5 (zT 43) (zT 45)),
 zE 49 5 48,
 zO 10 (.alloc (.agg [(.bool false), (.bool false), (.int .i64 0), (.int .u64 0), .nilS])),
 zM 9 47,
 zN (.store 5 (zT 10) (zT 49))]
 (.seq (zA [zM 50 9,
 zO 51 (.bin .eql (zT 50) (zI 30)),
 zM 52 51,
 zG 53 52 false (.faddr (zT 10) 2),
 zG 54 52 false (.load false 1 (zT 53)),
 zG 55 52 false (.bin .lss (zT 54) (zI 0)),
 zO 56 (.pick (zT 52) (.con (.bool true)) (zT 55)),
 zM 57 56,
 zG 58 57 false (.faddr (zT 10) 2),
 zG 59 57 false (.load false 1 (zT 58)),
 zG 60 57 false (.bin .geq (zT 59) (zI 3)),
 zO 61 (.pick (zT 57) (.con (.bool true)) (zT 60))]
 (.cond (zT 61)
 (.exit 0)
 .skip))
 (zA [zO 11 (.alloc (.agg [.nilS, .nilS, .nilS]))]
 (.seq (zA [zC 62 0]
 (.block 2 (.loop (zA [zO 63 (.bin .lss (zT 62) (zI 3))]
 (.seq (.cond (zT 63)
 .skip
 (.exit 2))
 (.seq (.block 3 (zA [zM 64 62,
 zM 12 64]
 (zA [zM 66 6,
 zM 67 12,
 zM 68 5,
 zM 69 12,
 zO 70 (.call 23 [(zT 68), (zT 69)]),
 zO 71 (.call 15 [(zT 66), (zT 67), (zT 70)]),
 zM 65 71,
 zO 72 (.ext (zT 65) 0),
 zO 73 (.ext (zT 65) 1),
 zM 13 72,
 zM 14 73]
 (.seq (zA [zM 74 14,
 zO 75 (.bin .neq (zT 74) (zI 0))]
 (.cond (zT 75)
 (zA [zO 4 (.mov zF)]
 .ret)
 .skip))
 (.reg [zM 76 12,
 zM 77 13,
 zO 78 (.iaddrA 3 1 (zT 11) (zT 76)),
 zN (.store 1 (zT 78) (zT 77))])))))
 (.reg [zJ 79 62 1,
 zM 62 79])))))))
 (.seq (.regd [⟨[zB 81 5,
 zP (zD 82 10 2),
 ⟨zL 83 82, false, false, false, 0, [0], none⟩,
 ⟨zO 84 (.call 23 [(zT 81), (zT 83)]), false, false, false, 0, [0], none⟩,
 zP (zD 85 10 3),
 ⟨zL 86 85, false, false, false, 0, [0], none⟩,
 ⟨zO 87 (.call 24 [(zT 84), (zT 86)]), false, false, false, 0, [0], none⟩,
 zB 80 87,
 zP (zO 88 (.ext (zT 80) 0)),
 zP (zO 89 (.ext (zT 80) 1)),
 ⟨zO 15 (.alloc (.agg [(.int .u64 0), .nilS])), false, false, true, 0, [], none⟩,
 ⟨zN (.store 2 (zT 15) (zT 88)), false, true, false, 1, [], none⟩], 1, [zM 16 89]⟩])
 (zA [zM 90 16,
 zD 91 10 1,
 zN (.store 1 (zT 91) (zT 90))]
 (zA [zE 93 5 10,
 zM 94 6,
 zO 95 (.call 11 [(zT 93), (zT 94)]),
 zM 92 95,
 zO 96 (.ext (zT 92) 0),
 zO 97 (.ext (zT 92) 1),
 zM 17 96,
 zM 18 97]
 (.seq (.regd [⟨[zP (zD 99 10 2),
 ⟨zL 100 99, false, false, false, 0, [0], none⟩,
 zP (zO 101 (.iaddrA 3 1 (zT 11) (zT 100))),
 ⟨zL 102 101, false, false, false, 0, [0], none⟩,
 zP (zD 103 10 3),
 ⟨zL 104 103, false, false, false, 0, [0], none⟩,
 ⟨zO 105 (.call 24 [(zT 102), (zT 104)]), false, false, false, 0, [0], none⟩,
 zB 98 105,
 zP (zO 106 (.ext (zT 98) 0)),
 zP (zO 107 (.ext (zT 98) 1)),
 ⟨zO 19 (.alloc (.agg [(.int .u64 0), .nilS])), false, false, true, 0, [], none⟩,
 ⟨zN (.store 2 (zT 19) (zT 106)), false, true, false, 1, [], none⟩], 1, [zM 20 107]⟩])
 (.seq (zA [zM 108 18,
 zO 109 (.bin .neq (zT 108) (zI 0))]
 (.cond (zT 109)
 (.seq (zA [zD 110 10 0,
 zL 111 110,
 zM 112 111,
 zG 113 112 true (.mov (zT 20)),
 zG 114 112 true (.un .not (zT 113)),
 zO 115 (.pick (zT 112) (zT 114) zF),
 zM 116 115,
 zG 117 116 true (.mov (zT 18)),
 zG 118 116 true (.bin .neq (zT 117) (zI 4)),
 zO 119 (.pick (zT 116) (zT 118) zF),
 zM 120 119,
 zG 121 120 false (.mov (zT 18)),
 zG 122 120 false (.bin .eql (zT 121) (zI 6)),
 zG 123 120 false (.mov (zT 122)),
 zG 124 123 true (.mov (zT 6)),
 zG 125 123 true (.len (zT 124)),
 zG 126 123 true (.bin .neq (zT 125) (zI 12)),
 zG 127 120 false (.pick (zT 123) (zT 126) zF),
 zO 128 (.pick (zT 120) (.con (.bool true)) (zT 127)),
 zM 129 128,
 zG 130 129 false (.faddr (zT 10) 0),
 zG 131 129 false (.load false 1 (zT 130)),
 zG 132 129 false (.un .not (zT 131)),
 zG 133 129 false (.mov (zT 132)),
 zG 134 133 true (.mov (zT 18)),
 zG 135 133 true (.bin .eql (zT 134) (zI 4)),
 zG 136 129 false (.pick (zT 133) (zT 135) zF),
 zO 137 (.pick (zT 129) (.con (.bool true)) (zT 136))]
 (.cond (zT 137)
 (zA [zO 4 (.mov zF)]
 .ret)
 .skip))
 (.exit 1))
 .skip))
 (.seq (zA [zD 138 10 0,
 zL 139 138,
 zM 140 139,
 zG 141 140 true (.mov (zT 20)),
 zG 142 140 true (.un .not (zT 141)),
 zO 143 (.pick (zT 140) (zT 142) zF),
 zM 144 143,
 zG 145 144 false (.mov (zT 17)),
 zG 146 144 false (.call 25 [(zT 145)]),
 zG 147 144 false (.bin .neq (zT 146) (zI 0)),
 zO 148 (.pick (zT 144) (.con (.bool true)) (zT 147))]
 (.cond (zT 148)
 (zA [zO 4 (.mov zF)]
 .ret)
 .skip))
 (.seq (zA [zC 149 0]
 (.block 4 (.loop (zA [zO 150 (.bin .lss (zT 149) (zI 3))]
 (.seq (.cond (zT 150)
 .skip
 (.exit 4))
 (.seq (.block 5 (zA [zM 151 149,
 zM 21 151]
 (zA [zM 153 17,
 zM 154 21,
 zM 155 5,
 zM 156 21,
 zO 157 (.call 23 [(zT 155), (zT 156)]),
 zO 158 (.call 15 [(zT 153), (zT 154), (zT 157)]),
 zM 152 158,
 zO 159 (.ext (zT 152) 0),
 zO 160 (.ext (zT 152) 1),
 zM 22 159,
 zM 23 160]
 (.seq (zA [zM 161 23,
 zO 162 (.bin .neq (zT 161) (zI 0))]
 (.cond (zT 162)
 (zA [zO 4 (.mov zF)]
 .ret)
 .skip))
 (.seq (zA [zM 163 21,
 zD 164 10 2,
 zL 165 164,
 zO 166 (.bin .neq (zT 163) (zT 165))]
 (.cond (zT 166)
 (.seq (zA [zM 167 22,
 zM 168 21,
 zO 169 (.iaddrA 3 1 (zT 11) (zT 168)),
 zL 170 169,
 zO 171 (.call 22 [(zT 167), (zT 170)]),
 zO 172 (.un .not (zT 171))]
 (.cond (zT 172)
 (zA [zO 4 (.mov zF)]
 .ret)
 .skip))
 (.exit 5))
 .skip))
 (zA [zM 174 22,
 zD 175 10 3,
 zL 176 175,
 zO 177 (.call 24 [(zT 174), (zT 176)]),
 zM 173 177,
 zO 178 (.ext (zT 173) 0),
 zO 179 (.ext (zT 173) 1),
 zO 24 (.alloc (.agg [(.int .u64 0), .nilS])),
 zN (.store 2 (zT 24) (zT 178)),
 zM 25 179]
 (.seq (.seq (.regd [⟨[zB 180 25,
 zP (zD 181 10 0),
 zQ (zL 182 181)], 0, [zO 183 (.eqB false (zT 180) (zT 182)),
 zM 184 183,
 zG 185 184 false (.mov (zT 25)),
 zG 186 184 false (.mov (zT 185))]⟩,
 ⟨[⟨zG 187 186 true (.load true 2 (zT 24)), false, false, false, 0, [0], none⟩,
 zP (zG 188 186 true (.faddr (zT 10) 3)),
 ⟨zG 189 186 true (.load false 1 (zT 188)), false, false, false, 0, [0], none⟩,
 zP (zG 190 186 true (.faddr (zT 10) 4)),
 zQ (zG 191 186 true (.load false 1 (zT 190))),
 ⟨zG 192 186 true (.call 27 [(zT 191)]), false, false, true, 0, [], none⟩,
 ⟨zG 193 186 true (.build [(.int .u64 0), .nilS] [(0, 1, (zT 189)), (1, 1, (zT 192))]), true, false, false, 1, [], none⟩], 1, [zG 194 186 true (.call 26 [(zT 187), (zT 193)]),
 zG 195 186 true (.un .not (zT 194)),
 zG 196 184 false (.pick (zT 186) (zT 195) zF),
 zO 197 (.pick (zT 184) (.con (.bool true)) (zT 196))]⟩])
 (.cond (zT 197)
 (zA [zO 4 (.mov zF)]
 .ret)
 .skip))
 (.seq (zA [zM 198 21,
 zO 199 (.iaddrA 3 1 (zT 11) (zT 198)),
 zL 200 199,
 zH 201 200,
 zC 202 0]
 (.block 6 (.loop (zA [zO 203 (.bin .lss (zT 202) (zT 201))]
 (.seq (.cond (zT 203)
 .skip
 (.exit 6))
 (.seq (.block 7 (zA [zO 204 (.iaddr 2 (zT 200) (zT 202)),
 zE 205 2 204,
 zO 27 (.alloc (.agg [(.int .u64 0), .nilS])),
 zN (.store 2 (zT 27) (zT 205))]
 (zA [zM 207 22,
 zD 208 27 0,
 zL 209 208,
 zO 210 (.call 24 [(zT 207), (zT 209)]),
 zM 206 210,
 zO 211 (.ext (zT 206) 0),
 zO 212 (.ext (zT 206) 1),
 zO 28 (.alloc (.agg [(.int .u64 0), .nilS])),
 zN (.store 2 (zT 28) (zT 211)),
 zM 29 212]
 (zA [zD 213 27 0,
 zL 214 213,
 zD 215 10 3,
 zL 216 215,
 zO 217 (.bin .neq (zT 214) (zT 216)),
 zM 218 217,
 zG 219 218 true (.mov (zT 29)),
 zG 220 218 true (.un .not (zT 219)),
 zG 221 218 true (.mov (zT 220)),
 zG 222 221 false (.load true 2 (zT 27)),
 zG 223 221 false (.load true 2 (zT 28)),
 zG 224 221 false (.call 26 [(zT 222), (zT 223)]),
 zG 225 221 false (.un .not (zT 224)),
 zG 226 218 true (.pick (zT 221) (.con (.bool true)) (zT 225)),
 zO 227 (.pick (zT 218) (zT 226) zF)]
 (.cond (zT 227)
 (zA [zO 4 (.mov zF)]
 .ret)
 .skip)))))
 (.reg [zJ 228 202 1,
 zM 202 228])))))))
 (zA [zM 229 22,
 zH 230 229,
 zM 231 21,
 zO 232 (.iaddrA 3 1 (zT 11) (zT 231)),
 zL 233 232,
 zH 234 233,
 zJ 235 234 1,
 zO 236 (.bin .gtr (zT 230) (zT 235))]
 (.cond (zT 236)
 (zA [zO 4 (.mov zF)]
 .ret)
 .skip))))))))))
 (.reg [zJ 237 149 1,
 zM 149 237])))))))
 (.seq (zA [zM 239 17,
 zD 240 10 2,
 zL 241 240,
 zD 242 10 3,
 zL 243 242,
 zO 244 (.call 28 [(zT 239), (zT 241), (zT 243)]),
 zM 238 244,
 zO 245 (.ext (zT 238) 0),
 zO 246 (.ext (zT 238) 1),
 zO 30 (.alloc (.agg [(.int .i64 0), (.int .u64 0), (.bool false), .nilS])),
 zN (.store 4 (zT 30) (zT 245)),
 zM 31 246]
 (zA [zM 247 31,
 zM 248 247,
 zG 249 248 true (.faddr (zT 30) 2),
 zG 250 248 true (.load false 1 (zT 249)),
 zO 251 (.pick (zT 248) (zT 250) zF),
 zM 252 251,
 zG 253 252 true (.mov (zT 16)),
 zG 254 252 true (.un .not (zT 253)),
 zO 255 (.pick (zT 252) (zT 254) zF)]
 (.cond (zT 255)
 (zA [zO 4 (.mov zF)]
 .ret)
 .skip)))
 (.reg [zM 256 17,
 zM 6 256]))))))))))))))
 (.reg [zJ 257 45 1,
 zM 45 257])))))))
 (zA [zO 4 (.mov (.con (.bool true)))]
 .ret)))))))
def g6 : Fn := ⟨2, 258, [.tmp 4], b6⟩
def b11 : AC :=
 (zA [zK 2 0,
 zO 4 (.mov (.con .nilS)),
 zC 5 0]
 (.seq (zA [zD 10 2 0,
 zL 11 10]
 (.cond (zT 11)
 (.seq (.regd [⟨[zB 12 1,
 zP (zD 13 2 2),
 ⟨zL 14 13, false, false, false, 0, [0], none⟩,
 zP (zD 15 2 3),
 ⟨zL 16 15, false, false, false, 0, [0], none⟩,
 zP (zD 17 2 4),
 zQ (zL 18 17),
 ⟨zO 19 (.call 27 [(zT 18)]), false, false, true, 0, [], none⟩,
 ⟨zO 20 (.build [(.int .i64 0), (.int .u64 0), (.bool false), .nilS] [(0, 1, (zT 14)), (1, 1, (zT 16)), (3, 1, (zT 19))]), true, false, false, 1, [], none⟩,
 ⟨zD 21 2 1, true, false, false, 1, [], none⟩,
 ⟨zL 22 21, false, false, false, 1, [0], none⟩], 1, [zO 23 (.call 33 [(zT 12), (zT 20), (zT 22)])]⟩,
 ⟨[zP (zO 24 (.ext (zT 23) 0)),
 zP (zO 25 (.ext (zT 23) 1))], 0, [zM 4 24,
 zM 5 25]⟩])
 .ret)
 .skip))
 (zA [zD 26 2 4,
 zL 27 26,
 zO 28 (.call 27 [(zT 27)]),
 zM 6 28]
 (zA [zM 30 1,
 zD 31 2 2,
 zL 32 31,
 zD 33 2 3,
 zL 34 33,
 zM 35 6,
 zO 36 (.build [(.int .u64 0), .nilS] [(0, 1, (zT 34)), (1, 1, (zT 35))]),
 zO 37 (.call 32 [(zT 30), (zT 32), (zT 36)]),
 zM 29 37,
 zO 38 (.ext (zT 29) 0),
 zO 39 (.ext (zT 29) 1),
 zM 7 38,
 zM 8 39]
 (.seq (zA [zM 40 6,
 zH 41 40,
 zC 42 0]
 (.block 0 (.loop (zA [zO 43 (.bin .lss (zT 42) (zT 41))]
 (.seq (.cond (zT 43)
 .skip
 (.exit 0))
 (.seq (.block 1 (zA [zM 44 42,
 zM 9 44]
 (.reg [zM 45 6,
 zM 46 9,
 zO 47 (.iaddr 1 (zT 45) (zT 46)),
 zL 48 47,
 zO 49 (.bin .xor (zT 48) (.con (.int .i32 85))),
 zO 50 (.iaddr 1 (zT 45) (zT 46)),
 zN (.store 1 (zT 50) (zT 49))])))
 (.reg [zJ 51 42 1,
 zM 42 51])))))))
 (zA [zM 52 7,
 zM 53 8,
 zM 4 52,
 zM 5 53]
 .ret))))))
def g11 : Fn := ⟨2, 54, [.tmp 4, .tmp 5], b11⟩
def b14 : AC :=
 (zA [zO 2 (.mov (.con .nilS))]
 (zA [zO 3 (.mov (.con .nilS))]
 (.seq (zA [zM 6 0,
 zH 7 6,
 zC 8 0]
 (.block 0 (.loop (zA [zO 9 (.bin .lss (zT 8) (zT 7))]
 (.seq (.cond (zT 9)
 .skip
 (.exit 0))
 (.seq (.block 1 (zA [zM 10 8,
 zO 11 (.iaddr 2 (zT 6) (zT 8)),
 zE 12 2 11,
 zO 5 (.alloc (.agg [(.int .u64 0), .nilS])),
 zM 4 10,
 zN (.store 2 (zT 5) (zT 12))]
 (zA [zM 13 4,
 zO 14 (.bin .lss (zT 13) (zI 40))]
 (.cond (zT 14)
 (.regd [⟨[zB 15 3,
 zP (zD 16 5 0),
 ⟨zL 17 16, false, false, false, 0, [0], none⟩,
 zP (zD 18 5 1),
 zQ (zL 19 18),
 ⟨zO 20 (.call 27 [(zT 19)]), false, false, true, 0, [], none⟩,
 ⟨zO 21 (.build [(.int .u64 0), .nilS] [(0, 1, (zT 17)), (1, 1, (zT 20))]), true, false, false, 1, [], none⟩,
 ⟨zO 22 (.lit 2 [(zT 21)]), false, false, true, 1, [], none⟩], 2, [zO 23 (.append 2 32 (zT 15) (zT 22)),
 zM 3 23]⟩])
 .skip))))
 (.reg [zJ 24 8 1,
 zM 8 24])))))))
 (zA [zM 25 3,
 zM 2 25]
 .ret))))
def g14 : Fn := ⟨1, 26, [.tmp 2], b14⟩
def b15 : AC :=
 (zA [zO 6 (.mov (.con .nilS)),
 zC 7 0]
 (.seq (zA [zM 13 0,
 zO 14 (.call 25 [(zT 13)]),
 zM 8 14]
 (zA [zM 15 8,
 zO 16 (.bin .neq (zT 15) (zI 0))]
 (.cond (zT 16)
 (zA [zM 17 8,
 zO 6 (.mov (.con .nilS)),
 zM 7 17]
 .ret)
 .skip)))
 (.seq (zA [zM 18 1,
 zO 19 (.call 37 [(zT 18)]),
 zO 20 (.un .not (zT 19))]
 (.cond (zT 20)
 (zA [zO 6 (.mov (.con .nilS)),
 zC 7 2]
 .ret)
 .skip))
 (.seq (zA [zM 21 2,
 zH 22 21,
 zC 23 0]
 (.block 0 (.loop (zA [zO 24 (.bin .lss (zT 23) (zT 22))]
 (.seq (.cond (zT 24)
 .skip
 (.exit 0))
 (.seq (.block 1 (zA [zM 25 23,
 zO 26 (.iaddr 2 (zT 21) (zT 23)),
 zE 27 2 26,
 zO 10 (.alloc (.agg [(.int .u64 0), .nilS])),
 zM 9 25,
 zN (.store 2 (zT 10) (zT 27))]
 (.seq (.regd [⟨[], 0, [zD 28 10 1,
 zL 29 28,
 zO 30 (.call 38 [(zT 29)]),
 zO 31 (.bin .neq (zT 30) (zI 0)),
 zM 32 31,
 zG 33 32 false (.mov (zT 9)),
 zG 34 32 false (.bin .gtr (zT 33) (zI 0)),
 zG 35 32 false (.mov (zT 34))]⟩,
 ⟨[zP (zG 36 35 true (.mov (zT 2))),
 zP (zG 37 35 true (.mov (zT 9))),
 zP (zG 38 35 true (.bin .sub (zT 37) (zI 1))),
 zP (zG 39 35 true (.iaddr 2 (zT 36) (zT 38))),
 zP (zG 40 35 true (.faddr (zT 39) 0)),
 zQ (zG 41 35 true (.load false 1 (zT 40))),
 zP (zG 42 35 true (.faddr (zT 10) 0)),
 zQ (zG 43 35 true (.load false 1 (zT 42)))], 0, [zG 44 35 true (.bin .geq (zT 41) (zT 43)),
 zG 45 32 false (.pick (zT 35) (zT 44) zF),
 zO 46 (.pick (zT 32) (.con (.bool true)) (zT 45))]⟩])
 (.cond (zT 46)
 (zA [zO 6 (.mov (.con .nilS)),
 zC 7 170]
 .ret)
 .skip))))
 (.reg [zJ 47 23 1,
 zM 23 47])))))))
 (zA [zO 11 (.alloc .nilS)]
 (.seq (zA [zM 48 0,
 zM 49 1,
 zO 50 (.call 21 [(zT 48), (zT 49)]),
 zM 51 2,
 zO 52 (.call 39 [(zT 50), (zT 51)])]
 (.block 2 (.rangeF (zT 52) [53]
 (.reg [zO 12 (.alloc (.agg [(.int .u64 0), .nilS])),
 zN (.store 2 (zT 12) (zT 53))])
 (.block 3 (.regd [⟨[⟨zL 54 11, false, false, false, 0, [0, 1], none⟩,
 zP (zD 55 12 0),
 ⟨zL 56 55, false, false, false, 0, [0], none⟩,
 zP (zD 57 12 1),
 zQ (zL 58 57),
 ⟨zO 59 (.call 40 [(zT 58)]), false, false, true, 0, [], none⟩,
 ⟨zO 60 (.build [(.int .u64 0), .nilS] [(0, 1, (zT 56)), (1, 1, (zT 59))]), true, false, false, 1, [], none⟩,
 ⟨zO 61 (.lit 2 [(zT 60)]), false, false, true, 1, [], none⟩], 2, [zO 62 (.append 2 32 (zT 54) (zT 61)),
 zN (.store 1 (zT 11) (zT 62))]⟩])))))
 (zA [zL 63 11,
 zO 64 (.call 41 [(zT 63), (.con (.fn 42 []))])]
 (zA [zL 65 11,
 zM 6 65,
 zC 7 0]
 .ret))))))))
def g15 : Fn := ⟨3, 66, [.tmp 6, .tmp 7], b15⟩
def b21 : AC :=
 (zA [zO 4 (.mov (.con .nilS))]
 (.seq (zA [zM 8 0,
 zO 9 (.call 25 [(zT 8)]),
 zO 10 (.bin .neq (zT 9) (zI 0))]
 (.cond (zT 10)
 (zA [zO 4 (.mov (.con .nilS))]
 .ret)
 .skip))
 (zA [zO 5 (.mov (.con .nilS))]
 (.seq (zA [zM 11 0,
 zH 12 11,
 zC 13 0]
 (.block 0 (.loop (zA [zO 14 (.bin .lss (zT 13) (zT 12))]
 (.seq (.cond (zT 14)
 .skip
 (.exit 0))
 (.seq (.block 1 (zA [zO 15 (.iaddr 4 (zT 11) (zT 13)),
 zE 16 4 15,
 zO 7 (.alloc (.agg [(.int .i64 0), (.int .u64 0), (.bool false), .nilS])),
 zN (.store 4 (zT 7) (zT 16))]
 (zA [zD 17 7 0,
 zL 18 17,
 zM 19 1,
 zO 20 (.bin .eql (zT 18) (zT 19))]
 (.cond (zT 20)
 (.reg [zM 21 5,
 zE 22 4 7,
 zO 23 (.lit 4 [(zT 22)]),
 zO 24 (.append 4 48 (zT 21) (zT 23)),
 zM 5 24])
 .skip))))
 (.reg [zJ 25 13 1,
 zM 13 25])))))))
 (zA [zM 26 5,
 zM 4 26]
 .ret)))))
def g21 : Fn := ⟨2, 27, [.tmp 4], b21⟩
def b22 : AC :=
 (zA [zO 4 (.mov zF)]
 (.seq (zA [zM 6 0,
 zH 7 6,
 zM 8 1,
 zH 9 8,
 zO 10 (.bin .neq (zT 7) (zT 9))]
 (.cond (zT 10)
 (zA [zO 4 (.mov zF)]
 .ret)
 .skip))
 (.seq (zA [zM 11 0,
 zH 12 11,
 zC 13 0]
 (.block 0 (.loop (zA [zO 14 (.bin .lss (zT 13) (zT 12))]
 (.seq (.cond (zT 14)
 .skip
 (.exit 0))
 (.seq (.block 1 (zA [zM 15 13,
 zM 5 15]
 (.seq (.regd [⟨[zB 16 0,
 zB 17 5,
 zP (zO 18 (.iaddr 2 (zT 16) (zT 17))),
 zQ (zE 19 2 18),
 zB 20 1,
 zB 21 5,
 zP (zO 22 (.iaddr 2 (zT 20) (zT 21))),
 zQ (zE 23 2 22)], 0, [zO 24 (.call 26 [(zT 19), (zT 23)]),
 zO 25 (.un .not (zT 24))]⟩])
 (.cond (zT 25)
 (zA [zO 4 (.mov zF)]
 .ret)
 .skip))))
 (.reg [zJ 26 13 1,
 zM 13 26])))))))
 (zA [zO 4 (.mov (.con (.bool true)))]
 .ret))))
def g22 : Fn := ⟨2, 27, [.tmp 4], b22⟩
def b23 : AC :=
 (zA [zO 4 (.mov (.con .nilS))]
 (zA [zO 5 (.mov (.con .nilS))]
 (.seq (zA [zM 8 0,
 zH 9 8,
 zC 10 0]
 (.block 0 (.loop (zA [zO 11 (.bin .lss (zT 10) (zT 9))]
 (.seq (.cond (zT 11)
 .skip
 (.exit 0))
 (.seq (.block 1 (zA [zO 12 (.iaddr 2 (zT 8) (zT 10)),
 zE 13 2 12,
 zO 7 (.alloc (.agg [(.int .u64 0), .nilS])),
 zN (.store 2 (zT 7) (zT 13))]
 (zA [zD 14 7 0,
 zL 15 14,
 zO 16 (.bin .rem (zT 15) (.con (.int .u64 3))),
 zM 17 1,
 zO 18 (.conv .u64 (zT 17)),
 zO 19 (.bin .eql (zT 16) (zT 18))]
 (.cond (zT 19)
 (.reg [zM 20 5,
 zE 21 2 7,
 zO 22 (.lit 2 [(zT 21)]),
 zO 23 (.append 2 32 (zT 20) (zT 22)),
 zM 5 23])
 .skip))))
 (.reg [zJ 24 10 1,
 zM 10 24])))))))
 (zA [zM 25 5,
 zM 4 25]
 .ret))))
def g23 : Fn := ⟨2, 26, [.tmp 4], b23⟩
def b24 : AC :=
 (zA [zO 4 (.alloc (.agg [(.int .u64 0), .nilS])),
 zO 5 (.mov zF)]
 (.seq (zA [zM 8 0,
 zH 9 8,
 zC 10 0]
 (.block 0 (.loop (zA [zO 11 (.bin .lss (zT 10) (zT 9))]
 (.seq (.cond (zT 11)
 .skip
 (.exit 0))
 (.seq (.block 1 (zA [zO 12 (.iaddr 2 (zT 8) (zT 10)),
 zE 13 2 12,
 zO 7 (.alloc (.agg [(.int .u64 0), .nilS])),
 zN (.store 2 (zT 7) (zT 13))]
 (zA [zD 14 7 0,
 zL 15 14,
 zM 16 1,
 zO 17 (.bin .eql (zT 15) (zT 16))]
 (.cond (zT 17)
 (zA [zE 18 2 7,
 zN (.store 2 (zT 4) (zT 18)),
 zO 5 (.mov (.con (.bool true)))]
 .ret)
 .skip))))
 (.reg [zJ 19 10 1,
 zM 10 19])))))))
 (zA [zO 20 (.build [(.int .u64 0), .nilS] []),
 zN (.store 2 (zT 4) (zT 20)),
 zO 5 (.mov zF)]
 .ret)))
def g24 : Fn := ⟨2, 21, [.cell 4 true 2, .tmp 5], b24⟩
def b25 : AC :=
 (zA [zC 2 0]
 (zA [zM 6 0,
 zH 7 6,
 zO 8 (.bin .leq (zT 7) (zI 12)),
 zM 3 8]
 (.seq (zA [zM 9 0,
 zH 10 9,
 zC 11 0]
 (.block 0 (.loop (zA [zO 12 (.bin .lss (zT 11) (zT 10))]
 (.seq (.cond (zT 12)
 .skip
 (.exit 0))
 (.seq (.block 1 (zA [zM 13 11,
 zO 14 (.iaddr 4 (zT 9) (zT 11)),
 zE 15 4 14,
 zO 5 (.alloc (.agg [(.int .i64 0), (.int .u64 0), (.bool false), .nilS])),
 zM 4 13,
 zN (.store 4 (zT 5) (zT 15))]
 (.regd [⟨[], 0, [zM 16 3,
 zM 17 16,
 zG 18 17 true (.load true 4 (zT 5)),
 zG 19 17 true (.call 46 [(zT 18)]),
 zO 20 (.pick (zT 17) (zT 19) zF),
 zM 21 20,
 zG 22 21 true (.mov (zT 4)),
 zG 23 21 true (.bin .eql (zT 22) (zI 0)),
 zG 24 21 true (.mov (zT 23))]⟩,
 ⟨[zP (zG 25 24 false (.mov (zT 0))),
 zP (zG 26 24 false (.mov (zT 4))),
 zP (zG 27 24 false (.bin .sub (zT 26) (zI 1))),
 zP (zG 28 24 false (.iaddr 4 (zT 25) (zT 27))),
 zQ (zG 29 24 false (.load true 4 (zT 28))),
 zQ (zG 30 24 false (.load true 4 (zT 5)))], 0, [zG 31 24 false (.call 47 [(zT 29), (zT 30)]),
 zG 32 24 false (.bin .lss (zT 31) (zI 0)),
 zG 33 21 true (.pick (zT 24) (.con (.bool true)) (zT 32)),
 zO 34 (.pick (zT 21) (zT 33) zF),
 zM 3 34]⟩])))
 (.reg [zJ 35 11 1,
 zM 11 35])))))))
 (.seq (zA [zM 36 3,
 zO 37 (.un .not (zT 36))]
 (.cond (zT 37)
 (zA [zC 2 260]
 .ret)
 .skip))
 (zA [zC 2 0]
 .ret)))))
def g25 : Fn := ⟨1, 38, [.tmp 2], b25⟩
def b26 : AC :=
 (zA [zK 2 0,
 zK 3 1,
 zO 4 (.mov zF)]
 (zA [zD 5 2 0,
 zL 6 5,
 zD 7 3 0,
 zL 8 7,
 zO 9 (.bin .eql (zT 6) (zT 8)),
 zM 10 9,
 zG 11 10 true (.faddr (zT 2) 1),
 zG 12 10 true (.load false 1 (zT 11)),
 zG 13 10 true (.faddr (zT 3) 1),
 zG 14 10 true (.load false 1 (zT 13)),
 zG 15 10 true (.call 48 [(zT 12), (zT 14)]),
 zO 16 (.pick (zT 10) (zT 15) zF),
 zM 4 16]
 .ret))
def g26 : Fn := ⟨2, 17, [.tmp 4], b26⟩
def b27 : AC :=
 (zA [zO 2 (.mov (.con .nilS))]
 (zA [zO 3 (.lit 1 []),
 zM 4 0,
 zM 5 0,
 zH 6 5,
 zO 7 (.min [(zT 6), (zI 5)]),
 zO 8 (.slice 1 (zT 4) none (some (zT 7))),
 zO 9 (.append 1 4 (zT 3) (zT 8)),
 zM 2 9]
 .ret))
def g27 : Fn := ⟨1, 10, [.tmp 2], b27⟩
def b28 : AC :=
 (zA [zO 6 (.alloc (.agg [(.int .i64 0), (.int .u64 0), (.bool false), .nilS])),
 zO 7 (.mov zF)]
 (zA [zM 11 0,
 zM 12 1,
 zM 13 2,
 zO 14 (.build [(.int .i64 0), (.int .u64 0), (.bool false), .nilS] [(0, 1, (zT 12)), (1, 1, (zT 13))]),
 zO 15 (.call 49 [(zT 11), (zT 14), (.con (.fn 47 []))]),
 zM 10 15,
 zO 16 (.ext (zT 10) 0),
 zO 17 (.ext (zT 10) 1),
 zM 8 16,
 zM 9 17]
 (.seq (zA [zM 18 9,
 zO 19 (.un .not (zT 18)),
 zM 20 19,
 zG 21 20 false (.mov (zT 0)),
 zG 22 20 false (.call 25 [(zT 21)]),
 zG 23 20 false (.bin .neq (zT 22) (zI 0)),
 zO 24 (.pick (zT 20) (.con (.bool true)) (zT 23))]
 (.cond (zT 24)
 (zA [zO 25 (.build [(.int .i64 0), (.int .u64 0), (.bool false), .nilS] []),
 zN (.store 4 (zT 6) (zT 25)),
 zO 7 (.mov zF)]
 .ret)
 .skip))
 (zA [zM 26 0,
 zM 27 8,
 zO 28 (.iaddr 4 (zT 26) (zT 27)),
 zE 29 4 28,
 zN (.store 4 (zT 6) (zT 29)),
 zO 7 (.mov (.con (.bool true)))]
 .ret))))
def g28 : Fn := ⟨3, 30, [.cell 6 true 4, .tmp 7], b28⟩
def b32 : AC :=
 (zA [zK 5 2,
 zO 6 (.mov (.con .nilS)),
 zC 7 0]
 (.seq (.regd [⟨[zB 9 1,
 zP (zD 10 5 0),
 ⟨zL 11 10, false, false, false, 0, [0, 1], none⟩,
 zP (zD 12 5 1),
 ⟨zL 13 12, false, false, false, 0, [1], none⟩,
 ⟨zO 14 (.call 40 [(zT 13)]), false, false, true, 0, [1], none⟩,
 ⟨zO 15 (.build [(.int .i64 0), (.int .u64 0), (.bool false), .nilS] [(0, 1, (zT 9)), (1, 1, (zT 11)), (3, 1, (zT 14))]), true, false, false, 1, [], none⟩,
 ⟨zO 8 (.alloc (.agg [(.int .i64 0), (.int .u64 0), (.bool false), .nilS])), false, false, true, 1, [0], none⟩], 2, [zN (.store 4 (zT 8) (zT 15))]⟩])
 (zA [zM 16 0,
 zE 17 4 8,
 zO 18 (.mkfn 53 [(zT 5), (zT 8)]),
 zO 19 (.call 52 [(zT 16), (zT 17), (zT 18)]),
 zO 20 (.ext (zT 19) 0),
 zO 21 (.ext (zT 19) 1),
 zM 6 20,
 zM 7 21]
 .ret)))
def g32 : Fn := ⟨3, 22, [.tmp 6, .tmp 7], b32⟩
def b33 : AC :=
 (zA [zK 4 1,
 zK 5 2,
 zO 6 (.mov (.con .nilS)),
 zC 7 0]
 (zA [zM 8 0,
 zE 9 4 4,
 zO 10 (.mkfn 55 [(zT 5), (zT 4)]),
 zO 11 (.call 52 [(zT 8), (zT 9), (zT 10)]),
 zO 12 (.ext (zT 11) 0),
 zO 13 (.ext (zT 11) 1),
 zM 6 12,
 zM 7 13]
 .ret))
def g33 : Fn := ⟨3, 14, [.tmp 6, .tmp 7], b33⟩
def b37 : AC :=
 (zA [zO 2 (.mov zF)]
 (zA [zM 3 0,
 zO 4 (.bin .geq (zT 3) (zI 0)),
 zM 5 4,
 zG 6 5 true (.mov (zT 0)),
 zG 7 5 true (.bin .lss (zT 6) (zI 3)),
 zO 8 (.pick (zT 5) (zT 7) zF),
 zM 2 8]
 .ret))
def g37 : Fn := ⟨1, 9, [.tmp 2], b37⟩
def b38 : AC :=
 (zA [zC 2 0]
 (zA [zO 3 (.mov (.con (.fn 59 [])))]
 (.seq (zA [zM 4 0,
 zH 5 4,
 zO 6 (.bin .lss (zT 5) (zI 1)),
 zM 7 6,
 zG 8 7 false (.mov (zT 0)),
 zG 9 7 false (.len (zT 8)),
 zG 10 7 false (.bin .gtr (zT 9) (zI 4)),
 zO 11 (.pick (zT 7) (.con (.bool true)) (zT 10)),
 zM 12 11,
 zG 13 12 false (.mov (zT 0)),
 zG 14 12 false (.mov (zT 3)),
 zG 15 12 false (.call 60 [(zT 13), (zT 14)]),
 zO 16 (.pick (zT 12) (.con (.bool true)) (zT 15))]
 (.cond (zT 16)
 (zA [zC 2 150]
 .ret)
 .skip))
 (zA [zC 2 0]
 .ret))))
def g38 : Fn := ⟨1, 17, [.tmp 2], b38⟩
def b39 : AC :=
 (zA [zK 2 0,
 zK 3 1,
 zO 4 (.mov (.con .nilF))]
 (zA [zO 8 (.mkmap),
 zO 5 (.alloc .nilM),
 zN (.store 1 (zT 5) (zT 8))]
 (.seq (zA [zL 9 2,
 zH 10 9,
 zC 11 0]
 (.block 0 (.loop (zA [zO 12 (.bin .lss (zT 11) (zT 10))]
 (.seq (.cond (zT 12)
 .skip
 (.exit 0))
 (.seq (.block 1 (zA [zO 13 (.iaddr 4 (zT 9) (zT 11)),
 zE 14 4 13,
 zO 7 (.alloc (.agg [(.int .i64 0), (.int .u64 0), (.bool false), .nilS])),
 zN (.store 4 (zT 7) (zT 14))]
 (.reg [zL 15 5,
 zD 16 7 1,
 zL 17 16,
 zN (.mupd (.one .int) (zT 15) (zT 17) (.con (.bool true)))])))
 (.reg [zJ 18 11 1,
 zM 11 18])))))))
 (zA [zO 19 (.mkfn 61 [(zT 3), (zT 5), (zT 2)]),
 zM 4 19]
 .ret))))
def g39 : Fn := ⟨2, 20, [.tmp 4], b39⟩
def b40 : AC :=
 (zA [zO 2 (.mov (.con .nilS))]
 (.seq (zA [zM 3 0,
 zO 4 (.eqN false (zT 3))]
 (.cond (zT 4)
 (zA [zO 2 (.mov (.con .nilS))]
 .ret)
 .skip))
 (zA [zO 5 (.lit 1 []),
 zM 6 0,
 zO 7 (.append 1 4 (zT 5) (zT 6)),
 zM 2 7]
 .ret)))
def g40 : Fn := ⟨1, 8, [.tmp 2], b40⟩
def b41 : AC :=
 (zA [zM 5 0,
 zH 6 5,
 zM 4 6]
 (.reg [zM 7 0,
 zM 8 4,
 zM 9 4,
 zO 10 (.conv .u64 (zT 9)),
 zO 11 (.call 63 [(zT 10)]),
 zM 12 1,
 zO 13 (.call 62 [(zT 7), (zI 0), (zT 8), (zT 11), (zT 12)])]))
def g41 : Fn := ⟨2, 14, [], b41⟩
def b42 : AC :=
 (zA [zK 2 0,
 zK 3 1,
 zC 4 0]
 (zA [zD 5 2 0,
 zL 6 5,
 zD 7 3 0,
 zL 8 7,
 zO 9 (.call 43 [(zT 6), (zT 8)]),
 zM 4 9]
 .ret))
def g42 : Fn := ⟨2, 10, [.tmp 4], b42⟩
def b43 : AC :=
 (zA [zC 4 0]
 (zA [zM 7 0,
 zO 8 (.call 64 [(zT 7)]),
 zM 5 8]
 (zA [zM 9 1,
 zO 10 (.call 64 [(zT 9)]),
 zM 6 10]
 (.seq (zA [zM 11 5]
 (.cond (zT 11)
 (.seq (zA [zM 12 6]
 (.cond (zT 12)
 (zA [zC 4 0]
 .ret)
 .skip))
 (zA [zC 4 (-1)]
 .ret))
 .skip))
 (.seq (zA [zM 13 6]
 (.cond (zT 13)
 (zA [zC 4 1]
 .ret)
 .skip))
 (.seq (zA [zM 14 0,
 zM 15 1,
 zO 16 (.bin .lss (zT 14) (zT 15))]
 (.cond (zT 16)
 (zA [zC 4 (-1)]
 .ret)
 .skip))
 (.seq (zA [zM 17 0,
 zM 18 1,
 zO 19 (.bin .gtr (zT 17) (zT 18))]
 (.cond (zT 19)
 (zA [zC 4 1]
 .ret)
 .skip))
 (zA [zC 4 0]
 .ret))))))))
def g43 : Fn := ⟨2, 20, [.tmp 4], b43⟩
def b46 : AC :=
 (zA [zK 1 0,
 zO 2 (.mov zF)]
 (zA [zD 3 1 0,
 zL 4 3,
 zO 5 (.call 37 [(zT 4)]),
 zM 6 5,
 zG 7 6 true (.faddr (zT 1) 2),
 zG 8 6 true (.load false 1 (zT 7)),
 zG 9 6 true (.mov (zT 8)),
 zG 10 9 true (.faddr (zT 1) 3),
 zG 11 9 true (.load false 1 (zT 10)),
 zG 12 9 true (.len (zT 11)),
 zG 13 9 true (.bin .eql (zT 12) (zI 0)),
 zG 14 6 true (.pick (zT 9) (zT 13) zF),
 zG 15 6 true (.mov (zT 14)),
 zG 16 15 false (.faddr (zT 1) 2),
 zG 17 15 false (.load false 1 (zT 16)),
 zG 18 15 false (.un .not (zT 17)),
 zG 19 15 false (.mov (zT 18)),
 zG 20 19 true (.faddr (zT 1) 3),
 zG 21 19 true (.load false 1 (zT 20)),
 zG 22 19 true (.call 38 [(zT 21)]),
 zG 23 19 true (.bin .eql (zT 22) (zI 0)),
 zG 24 15 false (.pick (zT 19) (zT 23) zF),
 zG 25 6 true (.pick (zT 15) (.con (.bool true)) (zT 24)),
 zO 26 (.pick (zT 6) (zT 25) zF),
 zM 2 26]
 .ret))
def g46 : Fn := ⟨1, 27, [.tmp 2], b46⟩
def b47 : AC :=
 (zA [zK 2 0,
 zK 3 1,
 zC 4 0]
 (.seq (.regd [⟨[zP (zD 5 2 0),
 zQ (zL 6 5),
 zP (zD 7 3 0),
 zQ (zL 8 7),
 zQ (zO 9 (.call 66 [(zT 6), (zT 8)])),
 zP (zD 10 2 1),
 zQ (zL 11 10),
 zP (zD 12 3 1),
 zQ (zL 13 12)], 0, [zO 14 (.call 43 [(zT 11), (zT 13)]),
 zO 15 (.lit 1 [(zT 9), (zT 14)]),
 zO 16 (.call 65 [(zT 15)]),
 zM 4 16]⟩])
 .ret))
def g47 : Fn := ⟨2, 17, [.tmp 4], b47⟩
def b48 : AC :=
 (zA [zO 4 (.mov zF)]
 (zA [zM 5 0,
 zM 6 1,
 zO 7 (.call 67 [(zT 5), (zT 6)]),
 zM 4 7]
 .ret))
def g48 : Fn := ⟨2, 8, [.tmp 4], b48⟩
def b49 : AC :=
 (zA [zK 4 1,
 zC 6 0,
 zO 7 (.mov zF)]
 (zA [zM 12 0,
 zH 13 12,
 zM 8 13]
 (zA [zM 14 8,
 zC 9 0,
 zM 10 14]
 (.seq (.block 0 (.loop (.seq (zA [zM 15 9,
 zM 16 10,
 zO 17 (.bin .lss (zT 15) (zT 16))]
 (.cond (zT 17)
 .skip
 (.exit 0)))
 (.block 1 (zA [zM 18 9,
 zM 19 10,
 zO 20 (.bin .add (zT 18) (zT 19)),
 zO 21 (.conv .u64 (zT 20)),
 zO 22 (.bin .shr (zT 21) (.con (.int .u64 1))),
 zO 23 (.conv .i64 (zT 22)),
 zM 11 23]
 (.seq (.regd [⟨[zB 24 2,
 zB 25 0,
 zB 26 11,
 zP (zO 27 (.iaddr 4 (zT 25) (zT 26))),
 zQ (zE 28 4 27),
 zQ (zE 29 4 4)], 0, [zO 30 (.callv (zT 24) [(zT 28), (zT 29)]),
 zO 31 (.bin .lss (zT 30) (zI 0))]⟩])
 (.cond (zT 31)
 (.reg [zM 32 11,
 zJ 33 32 1,
 zM 9 33])
 (.reg [zM 34 11,
 zM 10 34]))))))))
 (.seq (.regd [⟨[zB 35 9,
 zB 36 9,
 zB 37 8,
 zP (zO 38 (.bin .lss (zT 36) (zT 37))),
 zB 39 38,
 zP (zG 40 39 true (.mov (zT 2))),
 zP (zG 41 39 true (.mov (zT 0))),
 zP (zG 42 39 true (.mov (zT 9))),
 zP (zG 43 39 true (.iaddr 4 (zT 41) (zT 42))),
 zQ (zG 44 39 true (.load true 4 (zT 43))),
 zQ (zG 45 39 true (.load true 4 (zT 4))),
 zQ (zG 46 39 true (.callv (zT 40) [(zT 44), (zT 45)])),
 zP (zG 47 39 true (.bin .eql (zT 46) (zI 0))),
 zP (zO 48 (.pick (zT 39) (zT 47) zF)),
 zB 6 35], 0, [zM 7 48]⟩])
 .ret)))))
def g49 : Fn := ⟨3, 49, [.tmp 6, .tmp 7], b49⟩
def b52 : AC :=
 (zA [zK 4 1,
 zO 6 (.mov (.con .nilS)),
 zC 7 0]
 (.seq (zA [zM 12 0,
 zO 13 (.call 25 [(zT 12)]),
 zM 8 13]
 (zA [zM 14 8,
 zO 15 (.bin .neq (zT 14) (zI 0))]
 (.cond (zT 15)
 (zA [zM 16 8,
 zO 6 (.mov (.con .nilS)),
 zM 7 16]
 .ret)
 .skip)))
 (.seq (zA [zD 17 4 0,
 zL 18 17,
 zO 19 (.call 37 [(zT 18)]),
 zO 20 (.un .not (zT 19))]
 (.cond (zT 20)
 (zA [zO 6 (.mov (.con .nilS)),
 zC 7 2]
 .ret)
 .skip))
 (zA [zM 21 0,
 zO 22 (.call 68 [(zT 21)]),
 zO 23 (.build [.nilS, (.int .i64 0), (.bool false)] [(0, 1, (zT 22))]),
 zK 24 23,
 zM 9 24]
 (.seq (zA [zM 25 9,
 zO 26 (.nilck (zT 25)),
 zD 27 26 0,
 zL 28 27,
 zH 29 28,
 zC 30 0]
 (.block 0 (.loop (zA [zO 31 (.bin .lss (zT 30) (zT 29))]
 (.seq (.cond (zT 31)
 .skip
 (.exit 0))
 (.seq (.block 1 (zA [zM 32 30,
 zM 10 32]
 (.regd [⟨[zB 33 9,
 zP (zO 34 (.nilck (zT 33))),
 zP (zD 35 34 0),
 ⟨zL 36 35, false, false, false, 0, [0], none⟩,
 zB 37 10,
 zB 38 9,
 zP (zO 39 (.nilck (zT 38))),
 zP (zD 40 39 0),
 zQ (zL 41 40),
 zB 42 10,
 zP (zO 43 (.iaddr 4 (zT 41) (zT 42))),
 zP (zD 44 43 3),
 zQ (zL 45 44),
 ⟨zO 46 (.call 40 [(zT 45)]), false, false, true, 0, [], none⟩], 1, [zO 47 (.iaddr 4 (zT 36) (zT 37)),
 zD 48 47 3,
 zN (.store 1 (zT 48) (zT 46))]⟩])))
 (.reg [zJ 49 30 1,
 zM 30 49])))))))
 (.seq (.regd [⟨[zB 51 9,
 zB 52 9,
 zB 53 9,
 zP (zO 54 (.nilck (zT 53))),
 zP (zD 55 54 0),
 zQ (zL 56 55),
 zQ (zE 57 4 4),
 zQ (zO 58 (.call 49 [(zT 56), (zT 57), (.con (.fn 47 []))])),
 zB 50 58,
 zP (zO 59 (.ext (zT 50) 0)),
 zP (zO 60 (.ext (zT 50) 1)),
 zP (zO 61 (.nilck (zT 51))),
 zP (zD 62 61 1),
 ⟨zN (.store 1 (zT 62) (zT 59)), false, true, false, 0, [], none⟩], 0, [zO 63 (.nilck (zT 52)),
 zD 64 63 2,
 zN (.store 1 (zT 64) (zT 60))]⟩])
 (.seq (zA [zM 65 2,
 zM 66 9,
 zO 67 (.callv (zT 65) [(zT 66)]),
 zM 11 67]
 (zA [zM 68 11,
 zO 69 (.bin .neq (zT 68) (zI 0))]
 (.cond (zT 69)
 (zA [zM 70 11,
 zO 6 (.mov (.con .nilS)),
 zM 7 70]
 .ret)
 .skip)))
 (zA [zM 71 9,
 zO 72 (.nilck (zT 71)),
 zD 73 72 0,
 zL 74 73,
 zM 6 74,
 zC 7 0]
 .ret))))))))
def g52 : Fn := ⟨3, 75, [.tmp 6, .tmp 7], b52⟩
def b53 : AC :=
 (zA [zC 4 0]
 (.seq (zA [zD 6 1 1,
 zL 7 6,
 zO 8 (.call 38 [(zT 7)]),
 zM 5 8]
 (zA [zM 9 5,
 zO 10 (.bin .neq (zT 9) (zI 0))]
 (.cond (zT 10)
 (zA [zM 11 5,
 zM 4 11]
 .ret)
 .skip)))
 (zA [zM 12 0,
 zE 13 4 2,
 zO 14 (.call 54 [(zT 12), (zT 13)]),
 zM 4 14]
 .ret)))
def g53 : Fn := ⟨3, 15, [.tmp 4], b53⟩
def b54 : AC :=
 (zA [zK 3 1,
 zC 4 0]
 (.seq (.block 0 (zA [zM 20 0,
 zO 21 (.nilck (zT 20)),
 zD 22 21 2,
 zL 23 22,
 zM 19 23]
 (.cond (zT 19)
 (.regd [⟨[zB 24 0,
 zP (zO 25 (.nilck (zT 24))),
 zP (zD 26 25 0),
 zQ (zL 27 26),
 zB 28 0,
 zP (zO 29 (.nilck (zT 28))),
 zP (zD 30 29 1),
 zQ (zL 31 30),
 zQ (zE 32 4 3)], 0, [zO 33 (.iaddr 4 (zT 27) (zT 31)),
 zN (.store 4 (zT 33) (zT 32))]⟩])
 (zA [zM 35 0,
 zO 36 (.nilck (zT 35)),
 zD 37 36 0,
 zL 38 37,
 zH 39 38,
 zO 40 (.bin .eql (zT 39) (zI 12)),
 zM 34 40]
 (.cond (zT 34)
 (zA [zC 4 6]
 .ret)
 (.regd [⟨[zB 5 0,
 zB 6 0,
 zP (zO 7 (.nilck (zT 6))),
 zP (zD 8 7 0),
 ⟨zL 9 8, false, false, false, 0, [0], none⟩,
 zB 10 0,
 zP (zO 11 (.nilck (zT 10))),
 zP (zD 12 11 1),
 ⟨zL 13 12, false, false, false, 0, [0], none⟩,
 zQ (zE 14 4 3),
 ⟨zO 15 (.lit 4 [(zT 14)]), false, false, true, 0, [], none⟩,
 ⟨zO 16 (.prim 69 [(zT 9), (zT 13), (zT 15)]), false, true, true, 1, [], none⟩], 2, [zO 17 (.nilck (zT 5)),
 zD 18 17 0,
 zN (.store 1 (zT 18) (zT 16))]⟩]))))))
 (zA [zC 4 0]
 .ret)))
def g54 : Fn := ⟨2, 41, [.tmp 4], b54⟩
def b55 : AC :=
 (zA [zC 4 0]
 (zA [zL 6 1,
 zM 5 6]
 (.seq (zA [zM 7 0,
 zO 8 (.nilck (zT 7)),
 zD 9 8 2,
 zL 10 9]
 (.cond (zT 10)
 (.regd [⟨[zB 11 0,
 zP (zO 12 (.nilck (zT 11))),
 zP (zD 13 12 0),
 zQ (zL 14 13),
 zB 15 0,
 zP (zO 16 (.nilck (zT 15))),
 zP (zD 17 16 1),
 zQ (zL 18 17)], 0, [zO 19 (.iaddr 4 (zT 14) (zT 18)),
 zD 20 19 2,
 zL 21 20,
 zO 22 (.un .not (zT 21)),
 zM 5 22]⟩])
 .skip))
 (.seq (.block 0 (zA [zM 24 5,
 zO 25 (.un .not (zT 24)),
 zM 23 25]
 (.cond (zT 23)
 (zA [zC 4 4]
 .ret)
 (zA [zL 27 1,
 zO 28 (.un .not (zT 27)),
 zM 26 28]
 (.cond (zT 26)
 (.seq (.regd [⟨[zB 29 0,
 zB 30 0,
 zP (zO 31 (.nilck (zT 30))),
 zP (zD 32 31 0),
 zQ (zL 33 32),
 zB 34 0,
 zP (zO 35 (.nilck (zT 34))),
 zP (zD 36 35 1),
 zQ (zL 37 36),
 zB 38 0,
 zP (zO 39 (.nilck (zT 38))),
 zP (zD 40 39 1),
 zQ (zL 41 40),
 zP (zJ 42 41 1),
 ⟨zO 43 (.prim 56 [(zT 33), (zT 37), (zT 42)]), false, true, true, 0, [], none⟩], 1, [zO 44 (.nilck (zT 29)),
 zD 45 44 0,
 zN (.store 1 (zT 45) (zT 43))]⟩])
 (zA [zC 4 0]
 .ret))
 .skip)))))
 (zA [zM 46 0,
 zD 47 2 0,
 zL 48 47,
 zD 49 2 1,
 zL 50 49,
 zO 51 (.build [(.int .i64 0), (.int .u64 0), (.bool false), .nilS] [(0, 1, (zT 48)), (1, 1, (zT 50)), (2, 1, (.con (.bool true)))]),
 zO 52 (.call 54 [(zT 46), (zT 51)]),
 zM 4 52]
 .ret)))))
def g55 : Fn := ⟨3, 53, [.tmp 4], b55⟩
def b59 : AC :=
 (zA [zO 2 (.mov zF)]
 (zA [zM 3 0,
 zO 4 (.bin .lss (zT 3) (.con (.int .i32 (-1073741823)))),
 zM 5 4,
 zG 6 5 false (.mov (zT 0)),
 zG 7 5 false (.bin .gtr (zT 6) (.con (.int .i32 1073741823))),
 zO 8 (.pick (zT 5) (.con (.bool true)) (zT 7)),
 zM 2 8]
 .ret))
def g59 : Fn := ⟨1, 9, [.tmp 2], b59⟩
def b60 : AC :=
 (zA [zO 4 (.mov zF)]
 (zA [zM 5 0,
 zM 6 1,
 zO 7 (.call 70 [(zT 5), (zT 6)]),
 zO 8 (.bin .geq (zT 7) (zI 0)),
 zM 4 8]
 .ret))
def g60 : Fn := ⟨2, 9, [.tmp 4], b60⟩
def b61 : AC :=
 (.seq (zA [zL 9 1,
 zH 10 9,
 zC 11 0]
 (.block 0 (.loop (zA [zO 12 (.bin .lss (zT 11) (zT 10))]
 (.seq (.cond (zT 12)
 .skip
 (.exit 0))
 (.seq (.block 1 (zA [zO 13 (.iaddr 2 (zT 9) (zT 11)),
 zE 14 2 13,
 zO 6 (.alloc (.agg [(.int .u64 0), .nilS])),
 zN (.store 2 (zT 6) (zT 14))]
 (zA [zL 15 2,
 zD 16 6 0,
 zL 17 16,
 zO 18 (.mget false (.one .int) (.bool false) (zT 15) (zT 17)),
 zO 19 (.un .not (zT 18)),
 zM 20 19,
 zG 21 20 true (.mov (zT 0)),
 zG 22 20 true (.load true 2 (zT 6)),
 zG 23 20 true (.callv (zT 21) [(zT 22)]),
 zG 24 20 true (.un .not (zT 23)),
 zO 25 (.pick (zT 20) (zT 24) zF)]
 (.cond (zT 25)
 .ret
 .skip))))
 (.reg [zJ 26 11 1,
 zM 11 26])))))))
 (zA [zL 27 3,
 zH 28 27,
 zC 29 0]
 (.block 2 (.loop (zA [zO 30 (.bin .lss (zT 29) (zT 28))]
 (.seq (.cond (zT 30)
 .skip
 (.exit 2))
 (.seq (.block 3 (zA [zO 31 (.iaddr 4 (zT 27) (zT 29)),
 zE 32 4 31,
 zO 8 (.alloc (.agg [(.int .i64 0), (.int .u64 0), (.bool false), .nilS])),
 zN (.store 4 (zT 8) (zT 32))]
 (zA [zD 33 8 2,
 zL 34 33,
 zO 35 (.un .not (zT 34)),
 zM 36 35,
 zG 37 36 true (.mov (zT 0)),
 zG 38 36 true (.faddr (zT 8) 1),
 zG 39 36 true (.load false 1 (zT 38)),
 zG 40 36 true (.faddr (zT 8) 3),
 zG 41 36 true (.load false 1 (zT 40)),
 zG 42 36 true (.build [(.int .u64 0), .nilS] [(0, 1, (zT 39)), (1, 1, (zT 41))]),
 zG 43 36 true (.callv (zT 37) [(zT 42)]),
 zG 44 36 true (.un .not (zT 43)),
 zO 45 (.pick (zT 36) (zT 44) zF)]
 (.cond (zT 45)
 .ret
 .skip))))
 (.reg [zJ 46 29 1,
 zM 29 46]))))))))
def g61 : Fn := ⟨4, 47, [], b61⟩
def b62 : AC :=
 (zA [zO 10 (.mov (.con (.bool true)))]
 (zA [zO 11 (.mov (.con (.bool true)))]
 (.block 0 (.loop (.block 1 (zA [zM 21 2,
 zM 22 1,
 zO 23 (.bin .sub (zT 21) (zT 22)),
 zM 12 23]
 (.seq (zA [zM 24 12,
 zO 25 (.bin .leq (zT 24) (zI 12))]
 (.cond (zT 25)
 (zA [zM 26 0,
 zM 27 1,
 zM 28 2,
 zM 29 4,
 zO 30 (.call 71 [(zT 26), (zT 27), (zT 28), (zT 29)])]
 .ret)
 .skip))
 (.seq (zA [zM 31 3,
 zO 32 (.bin .eql (zT 31) (zI 0))]
 (.cond (zT 32)
 (zA [zM 33 0,
 zM 34 1,
 zM 35 2,
 zM 36 4,
 zO 37 (.call 72 [(zT 33), (zT 34), (zT 35), (zT 36)])]
 .ret)
 .skip))
 (.seq (zA [zM 38 10,
 zO 39 (.un .not (zT 38))]
 (.cond (zT 39)
 (zA [zM 40 0,
 zM 41 1,
 zM 42 2,
 zM 43 4,
 zO 44 (.call 73 [(zT 40), (zT 41), (zT 42), (zT 43)])]
 (.reg [zM 45 3,
 zO 46 (.bin .sub (zT 45) (zI 1)),
 zM 3 46]))
 .skip))
 (zA [zM 48 0,
 zM 49 1,
 zM 50 2,
 zM 51 4,
 zO 52 (.call 74 [(zT 48), (zT 49), (zT 50), (zT 51)]),
 zM 47 52,
 zO 53 (.ext (zT 47) 0),
 zO 54 (.ext (zT 47) 1),
 zM 13 53,
 zM 14 54]
 (.seq (zA [zM 55 14,
 zO 56 (.bin .eql (zT 55) (zI 2))]
 (.cond (zT 56)
 (zA [zM 57 0,
 zM 58 1,
 zM 59 2,
 zM 60 4,
 zO 61 (.call 75 [(zT 57), (zT 58), (zT 59), (zT 60)])]
 (zA [zM 62 2,
 zO 63 (.bin .sub (zT 62) (zI 1)),
 zM 64 13,
 zM 65 1,
 zO 66 (.bin .sub (zT 64) (zT 65)),
 zO 67 (.bin .sub (zT 63) (zT 66)),
 zM 13 67]
 (.reg [zC 14 1])))
 .skip))
 (.seq (zA [zM 68 10,
 zM 69 68,
 zG 70 69 true (.mov (zT 11)),
 zO 71 (.pick (zT 69) (zT 70) zF),
 zM 72 71,
 zG 73 72 true (.mov (zT 14)),
 zG 74 72 true (.bin .eql (zT 73) (zI 1)),
 zO 75 (.pick (zT 72) (zT 74) zF)]
 (.cond (zT 75)
 (zA [zM 76 0,
 zM 77 1,
 zM 78 2,
 zM 79 4,
 zO 80 (.call 76 [(zT 76), (zT 77), (zT 78), (zT 79)])]
 (.cond (zT 80)
 .ret
 .skip))
 .skip))
 (.seq (.seq (.regd [⟨[], 0, [zM 81 1,
 zO 82 (.bin .gtr (zT 81) (zI 0)),
 zM 83 82]⟩,
 ⟨[zP (zG 84 83 true (.mov (zT 4))),
 zP (zG 85 83 true (.mov (zT 0))),
 zP (zG 86 83 true (.mov (zT 1))),
 zP (zG 87 83 true (.bin .sub (zT 86) (zI 1))),
 zP (zG 88 83 true (.iaddr 2 (zT 85) (zT 87))),
 zQ (zG 89 83 true (.load true 2 (zT 88))),
 zP (zG 90 83 true (.mov (zT 0))),
 zP (zG 91 83 true (.mov (zT 13))),
 zP (zG 92 83 true (.iaddr 2 (zT 90) (zT 91))),
 zQ (zG 93 83 true (.load true 2 (zT 92)))], 0, [zG 94 83 true (.callv (zT 84) [(zT 89), (zT 93)]),
 zG 95 83 true (.bin .lss (zT 94) (zI 0)),
 zG 96 83 true (.un .not (zT 95)),
 zO 97 (.pick (zT 83) (zT 96) zF)]⟩])
 (.cond (zT 97)
 (zA [zM 98 0,
 zM 99 1,
 zM 100 2,
 zM 101 13,
 zM 102 4,
 zO 103 (.call 77 [(zT 98), (zT 99), (zT 100), (zT 101), (zT 102)]),
 zM 15 103]
 (zA [zM 104 15,
 zM 1 104]
 (.exit 1)))
 .skip))
 (zA [zM 106 0,
 zM 107 1,
 zM 108 2,
 zM 109 13,
 zM 110 4,
 zO 111 (.call 78 [(zT 106), (zT 107), (zT 108), (zT 109), (zT 110)]),
 zM 105 111,
 zO 112 (.ext (zT 105) 0),
 zO 113 (.ext (zT 105) 1),
 zM 16 112,
 zM 17 113]
 (zA [zM 114 17,
 zM 11 114]
 (zA [zM 115 16,
 zM 116 1,
 zO 117 (.bin .sub (zT 115) (zT 116)),
 zM 118 2,
 zM 119 16,
 zO 120 (.bin .sub (zT 118) (zT 119)),
 zM 18 117,
 zM 19 120]
 (zA [zM 121 12,
 zO 122 (.bin .quo (zT 121) (zI 8)),
 zM 20 122]
 (zA [zM 123 18,
 zM 124 19,
 zO 125 (.bin .lss (zT 123) (zT 124))]
 (.cond (zT 125)
 (zA [zM 126 18,
 zM 127 20,
 zO 128 (.bin .geq (zT 126) (zT 127)),
 zM 10 128]
 (zA [zM 129 0,
 zM 130 1,
 zM 131 16,
 zM 132 3,
 zM 133 4,
 zO 134 (.call 62 [(zT 129), (zT 130), (zT 131), (zT 132), (zT 133)])]
 (.reg [zM 135 16,
 zJ 136 135 1,
 zM 1 136])))
 (zA [zM 137 19,
 zM 138 20,
 zO 139 (.bin .geq (zT 137) (zT 138)),
 zM 10 139]
 (zA [zM 140 0,
 zM 141 16,
 zJ 142 141 1,
 zM 143 2,
 zM 144 3,
 zM 145 4,
 zO 146 (.call 62 [(zT 140), (zT 142), (zT 143), (zT 144), (zT 145)])]
 (.reg [zM 147 16,
 zM 2 147]))))))))))))))))))))))
def g62 : Fn := ⟨5, 148, [], b62⟩
def b63 : AC :=
 (zA [zC 2 0]
 (.seq (.cond zF
 (zA [zM 3 0,
 zO 4 (.conv .u32 (zT 3)),
 zO 5 (.call 79 [(zT 4)]),
 zM 2 5]
 .ret)
 .skip)
 (zA [zM 6 0,
 zO 7 (.call 80 [(zT 6)]),
 zM 2 7]
 .ret)))
def g63 : Fn := ⟨1, 8, [.tmp 2], b63⟩
def b64 : AC :=
 (zA [zO 2 (.mov zF)]
 (zA [zM 3 0,
 zM 4 0,
 zO 5 (.bin .neq (zT 3) (zT 4)),
 zM 2 5]
 .ret))
def g64 : Fn := ⟨1, 6, [.tmp 2], b64⟩
def b65 : AC :=
 (zA [zC 2 0]
 (zA [zC 3 0]
 (.seq (zA [zM 6 0,
 zH 7 6,
 zC 8 0]
 (.block 0 (.loop (zA [zO 9 (.bin .lss (zT 8) (zT 7))]
 (.seq (.cond (zT 9)
 .skip
 (.exit 0))
 (.seq (.block 1 (zA [zO 10 (.iaddr 1 (zT 6) (zT 8)),
 zL 11 10,
 zM 5 11]
 (zA [zM 12 5,
 zM 13 3,
 zO 14 (.bin .neq (zT 12) (zT 13))]
 (.cond (zT 14)
 (zA [zM 15 5,
 zM 2 15]
 .ret)
 .skip))))
 (.reg [zJ 16 8 1,
 zM 8 16])))))))
 (zA [zM 17 3,
 zM 2 17]
 .ret))))
def g65 : Fn := ⟨1, 18, [.tmp 2], b65⟩
def b66 : AC :=
 (zA [zC 4 0]
 (zA [zM 7 0,
 zO 8 (.call 81 [(zT 7)]),
 zM 5 8]
 (zA [zM 9 1,
 zO 10 (.call 81 [(zT 9)]),
 zM 6 10]
 (.seq (zA [zM 11 5]
 (.cond (zT 11)
 (.seq (zA [zM 12 6]
 (.cond (zT 12)
 (zA [zC 4 0]
 .ret)
 .skip))
 (zA [zC 4 (-1)]
 .ret))
 .skip))
 (.seq (zA [zM 13 6]
 (.cond (zT 13)
 (zA [zC 4 1]
 .ret)
 .skip))
 (.seq (zA [zM 14 0,
 zM 15 1,
 zO 16 (.bin .lss (zT 14) (zT 15))]
 (.cond (zT 16)
 (zA [zC 4 (-1)]
 .ret)
 .skip))
 (.seq (zA [zM 17 0,
 zM 18 1,
 zO 19 (.bin .gtr (zT 17) (zT 18))]
 (.cond (zT 19)
 (zA [zC 4 1]
 .ret)
 .skip))
 (zA [zC 4 0]
 .ret))))))))
def g66 : Fn := ⟨2, 20, [.tmp 4], b66⟩
def b67 : AC :=
 (zA [zO 4 (.mov zF)]
 (.seq (zA [zM 6 0,
 zH 7 6,
 zM 8 1,
 zH 9 8,
 zO 10 (.bin .neq (zT 7) (zT 9))]
 (.cond (zT 10)
 (zA [zO 4 (.mov zF)]
 .ret)
 .skip))
 (.seq (zA [zM 11 0,
 zH 12 11,
 zC 13 0]
 (.block 0 (.loop (zA [zO 14 (.bin .lss (zT 13) (zT 12))]
 (.seq (.cond (zT 14)
 .skip
 (.exit 0))
 (.seq (.block 1 (zA [zM 15 13,
 zM 5 15]
 (.seq (.regd [⟨[zB 16 0,
 zB 17 5,
 zP (zO 18 (.iaddr 1 (zT 16) (zT 17))),
 zQ (zL 19 18),
 zB 20 1,
 zB 21 5,
 zP (zO 22 (.iaddr 1 (zT 20) (zT 21))),
 zQ (zL 23 22)], 0, [zO 24 (.bin .neq (zT 19) (zT 23))]⟩])
 (.cond (zT 24)
 (zA [zO 4 (.mov zF)]
 .ret)
 .skip))))
 (.reg [zJ 25 13 1,
 zM 13 25])))))))
 (zA [zO 4 (.mov (.con (.bool true)))]
 .ret))))
def g67 : Fn := ⟨2, 26, [.tmp 4], b67⟩
def b68 : AC :=
 (zA [zO 2 (.mov (.con .nilS))]
 (.seq (zA [zM 3 0,
 zO 4 (.eqN false (zT 3))]
 (.cond (zT 4)
 (zA [zO 2 (.mov (.con .nilS))]
 .ret)
 .skip))
 (zA [zO 5 (.lit 4 []),
 zM 6 0,
 zO 7 (.append 4 48 (zT 5) (zT 6)),
 zM 2 7]
 .ret)))
def g68 : Fn := ⟨1, 8, [.tmp 2], b68⟩
def b70 : AC :=
 (zA [zC 4 0]
 (.seq (zA [zM 6 0,
 zH 7 6,
 zC 8 0]
 (.block 0 (.loop (zA [zO 9 (.bin .lss (zT 8) (zT 7))]
 (.seq (.cond (zT 9)
 .skip
 (.exit 0))
 (.seq (.block 1 (zA [zM 10 8,
 zM 5 10]
 (zA [zM 11 1,
 zM 12 0,
 zM 13 5,
 zO 14 (.iaddr 1 (zT 12) (zT 13)),
 zL 15 14,
 zO 16 (.callv (zT 11) [(zT 15)])]
 (.cond (zT 16)
 (zA [zM 17 5,
 zM 4 17]
 .ret)
 .skip))))
 (.reg [zJ 18 8 1,
 zM 8 18])))))))
 (zA [zC 4 (-1)]
 .ret)))
def g70 : Fn := ⟨2, 19, [.tmp 4], b70⟩
def b71 : AC :=
 (zA [zM 10 1,
 zJ 11 10 1,
 zM 8 11]
 (.block 0 (.loop (.seq (zA [zM 12 8,
 zM 13 2,
 zO 14 (.bin .lss (zT 12) (zT 13))]
 (.cond (zT 14)
 .skip
 (.exit 0)))
 (.seq (.block 1 (zA [zM 17 8,
 zM 9 17]
 (.block 2 (.loop (.seq (.seq (.regd [⟨[zB 18 9,
 zB 19 1], 0, [zO 20 (.bin .gtr (zT 18) (zT 19)),
 zM 21 20]⟩,
 ⟨[zP (zG 22 21 true (.mov (zT 3))),
 zP (zG 23 21 true (.mov (zT 0))),
 zP (zG 24 21 true (.mov (zT 9))),
 zP (zG 25 21 true (.iaddr 2 (zT 23) (zT 24))),
 zQ (zG 26 21 true (.load true 2 (zT 25))),
 zP (zG 27 21 true (.mov (zT 0))),
 zP (zG 28 21 true (.mov (zT 9))),
 zP (zG 29 21 true (.bin .sub (zT 28) (zI 1))),
 zP (zG 30 21 true (.iaddr 2 (zT 27) (zT 29))),
 zQ (zG 31 21 true (.load true 2 (zT 30)))], 0, [zG 32 21 true (.callv (zT 22) [(zT 26), (zT 31)]),
 zG 33 21 true (.bin .lss (zT 32) (zI 0)),
 zO 34 (.pick (zT 21) (zT 33) zF)]⟩])
 (.cond (zT 34)
 .skip
 (.exit 2)))
 (.seq (.block 3 (.regd [⟨[zB 37 0,
 zB 38 9,
 zB 39 0,
 zB 40 9,
 zP (zO 41 (.bin .sub (zT 40) (zI 1))),
 zB 42 0,
 zB 43 9,
 zP (zO 44 (.bin .sub (zT 43) (zI 1))),
 zP (zO 45 (.iaddr 2 (zT 42) (zT 44))),
 zQ (zE 46 2 45),
 zB 47 0,
 zB 48 9,
 zP (zO 49 (.iaddr 2 (zT 47) (zT 48))),
 zQ (zE 50 2 49),
 zP (zO 51 (.iaddr 2 (zT 37) (zT 38))),
 ⟨zN (.store 2 (zT 51) (zT 46)), false, true, false, 0, [], none⟩], 0, [zO 52 (.iaddr 2 (zT 39) (zT 41)),
 zN (.store 2 (zT 52) (zT 50))]⟩]))
 (.reg [zM 35 9,
 zO 36 (.bin .sub (zT 35) (zI 1)),
 zM 9 36])))))))
 (.reg [zM 15 8,
 zJ 16 15 1,
 zM 8 16]))))))
def g71 : Fn := ⟨4, 53, [], b71⟩
def b72 : AC :=
 (zA [zM 13 1,
 zM 8 13]
 (zA [zC 9 0]
 (zA [zM 14 2,
 zM 15 1,
 zO 16 (.bin .sub (zT 14) (zT 15)),
 zM 10 16]
 (.seq (zA [zM 17 10,
 zO 18 (.bin .sub (zT 17) (zI 1)),
 zO 19 (.bin .quo (zT 18) (zI 2)),
 zM 11 19]
 (.block 0 (.loop (.seq (zA [zM 20 11,
 zO 21 (.bin .geq (zT 20) (zI 0))]
 (.cond (zT 21)
 .skip
 (.exit 0)))
 (.seq (.block 1 (.reg [zM 24 0,
 zM 25 11,
 zM 26 10,
 zM 27 8,
 zM 28 3,
 zO 29 (.call 84 [(zT 24), (zT 25), (zT 26), (zT 27), (zT 28)])]))
 (.reg [zM 22 11,
 zO 23 (.bin .sub (zT 22) (zI 1)),
 zM 11 23]))))))
 (zA [zM 30 10,
 zO 31 (.bin .sub (zT 30) (zI 1)),
 zM 12 31]
 (.block 2 (.loop (.seq (zA [zM 32 12,
 zO 33 (.bin .geq (zT 32) (zI 0))]
 (.cond (zT 33)
 .skip
 (.exit 2)))
 (.seq (.block 3 (.seq (.regd [⟨[zB 36 0,
 zB 37 8,
 zB 38 0,
 zB 39 8,
 zB 40 12,
 zP (zO 41 (.bin .add (zT 39) (zT 40))),
 zB 42 0,
 zB 43 8,
 zB 44 12,
 zP (zO 45 (.bin .add (zT 43) (zT 44))),
 zP (zO 46 (.iaddr 2 (zT 42) (zT 45))),
 zQ (zE 47 2 46),
 zB 48 0,
 zB 49 8,
 zP (zO 50 (.iaddr 2 (zT 48) (zT 49))),
 zQ (zE 51 2 50),
 zP (zO 52 (.iaddr 2 (zT 36) (zT 37))),
 ⟨zN (.store 2 (zT 52) (zT 47)), false, true, false, 0, [], none⟩], 0, [zO 53 (.iaddr 2 (zT 38) (zT 41)),
 zN (.store 2 (zT 53) (zT 51))]⟩])
 (.reg [zM 54 0,
 zM 55 9,
 zM 56 12,
 zM 57 8,
 zM 58 3,
 zO 59 (.call 84 [(zT 54), (zT 55), (zT 56), (zT 57), (zT 58)])])))
 (.reg [zM 34 12,
 zO 35 (.bin .sub (zT 34) (zI 1)),
 zM 12 35]))))))))))
def g72 : Fn := ⟨4, 60, [], b72⟩
def b73 : AC :=
 (zA [zM 13 2,
 zM 14 1,
 zO 15 (.bin .sub (zT 13) (zT 14)),
 zM 8 15]
 (zA [zM 16 8,
 zO 17 (.bin .geq (zT 16) (zI 8))]
 (.cond (zT 17)
 (zA [zM 18 8,
 zO 19 (.conv .u64 (zT 18)),
 zO 9 (.alloc (.int .u64 0)),
 zN (.store 1 (zT 9) (zT 19))]
 (zA [zM 20 8,
 zO 21 (.call 85 [(zT 20)]),
 zM 10 21]
 (zA [zM 22 1,
 zM 23 8,
 zO 24 (.bin .quo (zT 23) (zI 4)),
 zO 25 (.bin .mul (zT 24) (zI 2)),
 zO 26 (.bin .add (zT 22) (zT 25)),
 zO 27 (.bin .sub (zT 26) (zI 1)),
 zM 11 27]
 (.block 0 (.loop (.seq (zA [zM 28 11,
 zM 29 1,
 zM 30 8,
 zO 31 (.bin .quo (zT 30) (zI 4)),
 zO 32 (.bin .mul (zT 31) (zI 2)),
 zO 33 (.bin .add (zT 29) (zT 32)),
 zJ 34 33 1,
 zO 35 (.bin .leq (zT 28) (zT 34))]
 (.cond (zT 35)
 .skip
 (.exit 0)))
 (.seq (.block 1 (zA [zO 38 (.call 86 [(zT 9)]),
 zM 39 10,
 zO 40 (.bin .sub (zT 39) (.con (.int .u64 1))),
 zO 41 (.bin .and (zT 38) (zT 40)),
 zO 42 (.conv .i64 (zT 41)),
 zM 12 42]
 (.seq (zA [zM 43 12,
 zM 44 8,
 zO 45 (.bin .geq (zT 43) (zT 44))]
 (.cond (zT 45)
 (.reg [zM 46 12,
 zM 47 8,
 zO 48 (.bin .sub (zT 46) (zT 47)),
 zM 12 48])
 .skip))
 (.regd [⟨[zB 49 0,
 zB 50 11,
 zB 51 0,
 zB 52 1,
 zB 53 12,
 zP (zO 54 (.bin .add (zT 52) (zT 53))),
 zB 55 0,
 zB 56 1,
 zB 57 12,
 zP (zO 58 (.bin .add (zT 56) (zT 57))),
 zP (zO 59 (.iaddr 2 (zT 55) (zT 58))),
 zQ (zE 60 2 59),
 zB 61 0,
 zB 62 11,
 zP (zO 63 (.iaddr 2 (zT 61) (zT 62))),
 zQ (zE 64 2 63),
 zP (zO 65 (.iaddr 2 (zT 49) (zT 50))),
 ⟨zN (.store 2 (zT 65) (zT 60)), false, true, false, 0, [], none⟩], 0, [zO 66 (.iaddr 2 (zT 51) (zT 54)),
 zN (.store 2 (zT 66) (zT 64))]⟩]))))
 (.reg [zM 36 11,
 zJ 37 36 1,
 zM 11 37]))))))))
 .skip)))
def g73 : Fn := ⟨4, 67, [], b73⟩
def b74 : AC :=
 (zA [zC 8 0,
 zC 9 0]
 (zA [zM 15 2,
 zM 16 1,
 zO 17 (.bin .sub (zT 15) (zT 16)),
 zM 10 17]
 (zA [zO 11 (.alloc (.int .i64 0))]
 (zA [zM 18 1,
 zM 19 10,
 zO 20 (.bin .quo (zT 19) (zI 4)),
 zO 21 (.bin .mul (zT 20) (zI 1)),
 zO 22 (.bin .add (zT 18) (zT 21)),
 zM 12 22]
 (zA [zM 23 1,
 zM 24 10,
 zO 25 (.bin .quo (zT 24) (zI 4)),
 zO 26 (.bin .mul (zT 25) (zI 2)),
 zO 27 (.bin .add (zT 23) (zT 26)),
 zM 13 27]
 (zA [zM 28 1,
 zM 29 10,
 zO 30 (.bin .quo (zT 29) (zI 4)),
 zO 31 (.bin .mul (zT 30) (zI 3)),
 zO 32 (.bin .add (zT 28) (zT 31)),
 zM 14 32]
 (.seq (zA [zM 33 10,
 zO 34 (.bin .geq (zT 33) (zI 8))]
 (.cond (zT 34)
 (.seq (zA [zM 35 10,
 zO 36 (.bin .geq (zT 35) (zI 50))]
 (.cond (zT 36)
 (zA [zM 37 0,
 zM 38 12,
 zM 39 3,
 zO 40 (.call 87 [(zT 37), (zT 38), (zT 11), (zT 39)]),
 zM 12 40]
 (zA [zM 41 0,
 zM 42 13,
 zM 43 3,
 zO 44 (.call 87 [(zT 41), (zT 42), (zT 11), (zT 43)]),
 zM 13 44]
 (.reg [zM 45 0,
 zM 46 14,
 zM 47 3,
 zO 48 (.call 87 [(zT 45), (zT 46), (zT 11), (zT 47)]),
 zM 14 48])))
 .skip))
 (.reg [zM 49 0,
 zM 50 12,
 zM 51 13,
 zM 52 14,
 zM 53 3,
 zO 54 (.call 88 [(zT 49), (zT 50), (zT 51), (zT 52), (zT 11), (zT 53)]),
 zM 13 54]))
 .skip))
 (zA [zL 55 11]
 (.block 0 (zA [zO 58 (.bin .eql (zT 55) (zI 0)),
 zM 57 58]
 (.cond (zT 57)
 (zA [zM 59 13,
 zM 8 59,
 zC 9 1]
 .ret)
 (zA [zO 61 (.bin .eql (zT 55) (zI 12)),
 zM 60 61]
 (.cond (zT 60)
 (zA [zM 62 13,
 zM 8 62,
 zC 9 2]
 .ret)
 (zA [zM 56 13,
 zM 8 56,
 zC 9 0]
 .ret))))))))))))))
def g74 : Fn := ⟨4, 63, [.tmp 8, .tmp 9], b74⟩
def b75 : AC :=
 (zA [zM 10 1,
 zM 8 10]
 (zA [zM 11 2,
 zO 12 (.bin .sub (zT 11) (zI 1)),
 zM 9 12]
 (.block 0 (.loop (.seq (zA [zM 13 8,
 zM 14 9,
 zO 15 (.bin .lss (zT 13) (zT 14))]
 (.cond (zT 15)
 .skip
 (.exit 0)))
 (.block 1 (.seq (.regd [⟨[zB 16 0,
 zB 17 8,
 zB 18 0,
 zB 19 9,
 zB 20 0,
 zB 21 9,
 zP (zO 22 (.iaddr 2 (zT 20) (zT 21))),
 zQ (zE 23 2 22),
 zB 24 0,
 zB 25 8,
 zP (zO 26 (.iaddr 2 (zT 24) (zT 25))),
 zQ (zE 27 2 26),
 zP (zO 28 (.iaddr 2 (zT 16) (zT 17))),
 ⟨zN (.store 2 (zT 28) (zT 23)), false, true, false, 0, [], none⟩], 0, [zO 29 (.iaddr 2 (zT 18) (zT 19)),
 zN (.store 2 (zT 29) (zT 27))]⟩])
 (zA [zM 30 8,
 zJ 31 30 1,
 zM 8 31]
 (.reg [zM 32 9,
 zO 33 (.bin .sub (zT 32) (zI 1)),
 zM 9 33])))))))))
def g75 : Fn := ⟨4, 34, [], b75⟩
def b76 : AC :=
 (zA [zO 8 (.mov zF)]
 (zA [zM 13 1,
 zJ 14 13 1,
 zM 9 14]
 (.seq (zA [zC 10 0]
 (.block 0 (.loop (.seq (zA [zM 15 10,
 zO 16 (.bin .lss (zT 15) (zI 5))]
 (.cond (zT 16)
 .skip
 (.exit 0)))
 (.seq (.block 1 (.seq (.block 2 (.loop (.seq (.seq (.regd [⟨[zB 19 9,
 zB 20 2], 0, [zO 21 (.bin .lss (zT 19) (zT 20)),
 zM 22 21]⟩,
 ⟨[zP (zG 23 22 true (.mov (zT 3))),
 zP (zG 24 22 true (.mov (zT 0))),
 zP (zG 25 22 true (.mov (zT 9))),
 zP (zG 26 22 true (.iaddr 2 (zT 24) (zT 25))),
 zQ (zG 27 22 true (.load true 2 (zT 26))),
 zP (zG 28 22 true (.mov (zT 0))),
 zP (zG 29 22 true (.mov (zT 9))),
 zP (zG 30 22 true (.bin .sub (zT 29) (zI 1))),
 zP (zG 31 22 true (.iaddr 2 (zT 28) (zT 30))),
 zQ (zG 32 22 true (.load true 2 (zT 31)))], 0, [zG 33 22 true (.callv (zT 23) [(zT 27), (zT 32)]),
 zG 34 22 true (.bin .lss (zT 33) (zI 0)),
 zG 35 22 true (.un .not (zT 34)),
 zO 36 (.pick (zT 22) (zT 35) zF)]⟩])
 (.cond (zT 36)
 .skip
 (.exit 2)))
 (.block 3 (.reg [zM 37 9,
 zJ 38 37 1,
 zM 9 38])))))
 (.seq (zA [zM 39 9,
 zM 40 2,
 zO 41 (.bin .eql (zT 39) (zT 40))]
 (.cond (zT 41)
 (zA [zO 8 (.mov (.con (.bool true)))]
 .ret)
 .skip))
 (.seq (zA [zM 42 2,
 zM 43 1,
 zO 44 (.bin .sub (zT 42) (zT 43)),
 zO 45 (.bin .lss (zT 44) (zI 50))]
 (.cond (zT 45)
 (zA [zO 8 (.mov zF)]
 .ret)
 .skip))
 (.seq (.regd [⟨[zB 46 0,
 zB 47 9,
 zB 48 0,
 zB 49 9,
 zP (zO 50 (.bin .sub (zT 49) (zI 1))),
 zB 51 0,
 zB 52 9,
 zP (zO 53 (.bin .sub (zT 52) (zI 1))),
 zP (zO 54 (.iaddr 2 (zT 51) (zT 53))),
 zQ (zE 55 2 54),
 zB 56 0,
 zB 57 9,
 zP (zO 58 (.iaddr 2 (zT 56) (zT 57))),
 zQ (zE 59 2 58),
 zP (zO 60 (.iaddr 2 (zT 46) (zT 47))),
 ⟨zN (.store 2 (zT 60) (zT 55)), false, true, false, 0, [], none⟩], 0, [zO 61 (.iaddr 2 (zT 48) (zT 50)),
 zN (.store 2 (zT 61) (zT 59))]⟩])
 (.seq (zA [zM 62 9,
 zM 63 1,
 zO 64 (.bin .sub (zT 62) (zT 63)),
 zO 65 (.bin .geq (zT 64) (zI 2))]
 (.cond (zT 65)
 (zA [zM 66 9,
 zO 67 (.bin .sub (zT 66) (zI 1)),
 zM 11 67]
 (.block 4 (.loop (.seq (zA [zM 68 11,
 zO 69 (.bin .geq (zT 68) (zI 1))]
 (.cond (zT 69)
 .skip
 (.exit 4)))
 (.seq (.block 5 (.seq (.seq (.regd [⟨[zB 72 3,
 zB 73 0,
 zB 74 11,
 zP (zO 75 (.iaddr 2 (zT 73) (zT 74))),
 zQ (zE 76 2 75),
 zB 77 0,
 zB 78 11,
 zP (zO 79 (.bin .sub (zT 78) (zI 1))),
 zP (zO 80 (.iaddr 2 (zT 77) (zT 79))),
 zQ (zE 81 2 80)], 0, [zO 82 (.callv (zT 72) [(zT 76), (zT 81)]),
 zO 83 (.bin .lss (zT 82) (zI 0)),
 zO 84 (.un .not (zT 83))]⟩])
 (.cond (zT 84)
 (.exit 4)
 .skip))
 (.regd [⟨[zB 85 0,
 zB 86 11,
 zB 87 0,
 zB 88 11,
 zP (zO 89 (.bin .sub (zT 88) (zI 1))),
 zB 90 0,
 zB 91 11,
 zP (zO 92 (.bin .sub (zT 91) (zI 1))),
 zP (zO 93 (.iaddr 2 (zT 90) (zT 92))),
 zQ (zE 94 2 93),
 zB 95 0,
 zB 96 11,
 zP (zO 97 (.iaddr 2 (zT 95) (zT 96))),
 zQ (zE 98 2 97),
 zP (zO 99 (.iaddr 2 (zT 85) (zT 86))),
 ⟨zN (.store 2 (zT 99) (zT 94)), false, true, false, 0, [], none⟩], 0, [zO 100 (.iaddr 2 (zT 87) (zT 89)),
 zN (.store 2 (zT 100) (zT 98))]⟩])))
 (.reg [zM 70 11,
 zO 71 (.bin .sub (zT 70) (zI 1)),
 zM 11 71]))))))
 .skip))
 (zA [zM 101 2,
 zM 102 9,
 zO 103 (.bin .sub (zT 101) (zT 102)),
 zO 104 (.bin .geq (zT 103) (zI 2))]
 (.cond (zT 104)
 (zA [zM 105 9,
 zJ 106 105 1,
 zM 12 106]
 (.block 6 (.loop (.seq (zA [zM 107 12,
 zM 108 2,
 zO 109 (.bin .lss (zT 107) (zT 108))]
 (.cond (zT 109)
 .skip
 (.exit 6)))
 (.seq (.block 7 (.seq (.seq (.regd [⟨[zB 112 3,
 zB 113 0,
 zB 114 12,
 zP (zO 115 (.iaddr 2 (zT 113) (zT 114))),
 zQ (zE 116 2 115),
 zB 117 0,
 zB 118 12,
 zP (zO 119 (.bin .sub (zT 118) (zI 1))),
 zP (zO 120 (.iaddr 2 (zT 117) (zT 119))),
 zQ (zE 121 2 120)], 0, [zO 122 (.callv (zT 112) [(zT 116), (zT 121)]),
 zO 123 (.bin .lss (zT 122) (zI 0)),
 zO 124 (.un .not (zT 123))]⟩])
 (.cond (zT 124)
 (.exit 6)
 .skip))
 (.regd [⟨[zB 125 0,
 zB 126 12,
 zB 127 0,
 zB 128 12,
 zP (zO 129 (.bin .sub (zT 128) (zI 1))),
 zB 130 0,
 zB 131 12,
 zP (zO 132 (.bin .sub (zT 131) (zI 1))),
 zP (zO 133 (.iaddr 2 (zT 130) (zT 132))),
 zQ (zE 134 2 133),
 zB 135 0,
 zB 136 12,
 zP (zO 137 (.iaddr 2 (zT 135) (zT 136))),
 zQ (zE 138 2 137),
 zP (zO 139 (.iaddr 2 (zT 125) (zT 126))),
 ⟨zN (.store 2 (zT 139) (zT 134)), false, true, false, 0, [], none⟩], 0, [zO 140 (.iaddr 2 (zT 127) (zT 129)),
 zN (.store 2 (zT 140) (zT 138))]⟩])))
 (.reg [zM 110 12,
 zJ 111 110 1,
 zM 12 111]))))))
 .skip))))))))
 (.reg [zM 17 10,
 zJ 18 17 1,
 zM 10 18]))))))
 (zA [zO 8 (.mov zF)]
 .ret))))
def g76 : Fn := ⟨4, 141, [.tmp 8], b76⟩
def b77 : AC :=
 (zA [zC 10 0]
 (.seq (.regd [⟨[zB 13 0,
 zB 14 1,
 zB 15 0,
 zB 16 3,
 zB 17 0,
 zB 18 3,
 zP (zO 19 (.iaddr 2 (zT 17) (zT 18))),
 zQ (zE 20 2 19),
 zB 21 0,
 zB 22 1,
 zP (zO 23 (.iaddr 2 (zT 21) (zT 22))),
 zQ (zE 24 2 23),
 zP (zO 25 (.iaddr 2 (zT 13) (zT 14))),
 ⟨zN (.store 2 (zT 25) (zT 20)), false, true, false, 0, [], none⟩], 0, [zO 26 (.iaddr 2 (zT 15) (zT 16)),
 zN (.store 2 (zT 26) (zT 24))]⟩])
 (zA [zM 27 1,
 zJ 28 27 1,
 zM 29 2,
 zO 30 (.bin .sub (zT 29) (zI 1)),
 zM 11 28,
 zM 12 30]
 (.seq (.block 0 (.loop (.block 1 (.seq (.block 2 (.loop (.seq (.seq (.regd [⟨[zB 31 11,
 zB 32 12], 0, [zO 33 (.bin .leq (zT 31) (zT 32)),
 zM 34 33]⟩,
 ⟨[zP (zG 35 34 true (.mov (zT 4))),
 zP (zG 36 34 true (.mov (zT 0))),
 zP (zG 37 34 true (.mov (zT 1))),
 zP (zG 38 34 true (.iaddr 2 (zT 36) (zT 37))),
 zQ (zG 39 34 true (.load true 2 (zT 38))),
 zP (zG 40 34 true (.mov (zT 0))),
 zP (zG 41 34 true (.mov (zT 11))),
 zP (zG 42 34 true (.iaddr 2 (zT 40) (zT 41))),
 zQ (zG 43 34 true (.load true 2 (zT 42)))], 0, [zG 44 34 true (.callv (zT 35) [(zT 39), (zT 43)]),
 zG 45 34 true (.bin .lss (zT 44) (zI 0)),
 zG 46 34 true (.un .not (zT 45)),
 zO 47 (.pick (zT 34) (zT 46) zF)]⟩])
 (.cond (zT 47)
 .skip
 (.exit 2)))
 (.block 3 (.reg [zM 48 11,
 zJ 49 48 1,
 zM 11 49])))))
 (.seq (.block 4 (.loop (.seq (.seq (.regd [⟨[zB 50 11,
 zB 51 12], 0, [zO 52 (.bin .leq (zT 50) (zT 51)),
 zM 53 52]⟩,
 ⟨[zP (zG 54 53 true (.mov (zT 4))),
 zP (zG 55 53 true (.mov (zT 0))),
 zP (zG 56 53 true (.mov (zT 1))),
 zP (zG 57 53 true (.iaddr 2 (zT 55) (zT 56))),
 zQ (zG 58 53 true (.load true 2 (zT 57))),
 zP (zG 59 53 true (.mov (zT 0))),
 zP (zG 60 53 true (.mov (zT 12))),
 zP (zG 61 53 true (.iaddr 2 (zT 59) (zT 60))),
 zQ (zG 62 53 true (.load true 2 (zT 61)))], 0, [zG 63 53 true (.callv (zT 54) [(zT 58), (zT 62)]),
 zG 64 53 true (.bin .lss (zT 63) (zI 0)),
 zO 65 (.pick (zT 53) (zT 64) zF)]⟩])
 (.cond (zT 65)
 .skip
 (.exit 4)))
 (.block 5 (.reg [zM 66 12,
 zO 67 (.bin .sub (zT 66) (zI 1)),
 zM 12 67])))))
 (.seq (zA [zM 68 11,
 zM 69 12,
 zO 70 (.bin .gtr (zT 68) (zT 69))]
 (.cond (zT 70)
 (.exit 0)
 .skip))
 (.seq (.regd [⟨[zB 71 0,
 zB 72 11,
 zB 73 0,
 zB 74 12,
 zB 75 0,
 zB 76 12,
 zP (zO 77 (.iaddr 2 (zT 75) (zT 76))),
 zQ (zE 78 2 77),
 zB 79 0,
 zB 80 11,
 zP (zO 81 (.iaddr 2 (zT 79) (zT 80))),
 zQ (zE 82 2 81),
 zP (zO 83 (.iaddr 2 (zT 71) (zT 72))),
 ⟨zN (.store 2 (zT 83) (zT 78)), false, true, false, 0, [], none⟩], 0, [zO 84 (.iaddr 2 (zT 73) (zT 74)),
 zN (.store 2 (zT 84) (zT 82))]⟩])
 (zA [zM 85 11,
 zJ 86 85 1,
 zM 11 86]
 (.reg [zM 87 12,
 zO 88 (.bin .sub (zT 87) (zI 1)),
 zM 12 88])))))))))
 (zA [zM 89 11,
 zM 10 89]
 .ret)))))
def g77 : Fn := ⟨5, 90, [.tmp 10], b77⟩
def b78 : AC :=
 (zA [zC 10 0,
 zO 11 (.mov zF)]
 (.seq (.regd [⟨[zB 14 0,
 zB 15 1,
 zB 16 0,
 zB 17 3,
 zB 18 0,
 zB 19 3,
 zP (zO 20 (.iaddr 2 (zT 18) (zT 19))),
 zQ (zE 21 2 20),
 zB 22 0,
 zB 23 1,
 zP (zO 24 (.iaddr 2 (zT 22) (zT 23))),
 zQ (zE 25 2 24),
 zP (zO 26 (.iaddr 2 (zT 14) (zT 15))),
 ⟨zN (.store 2 (zT 26) (zT 21)), false, true, false, 0, [], none⟩], 0, [zO 27 (.iaddr 2 (zT 16) (zT 17)),
 zN (.store 2 (zT 27) (zT 25))]⟩])
 (zA [zM 28 1,
 zJ 29 28 1,
 zM 30 2,
 zO 31 (.bin .sub (zT 30) (zI 1)),
 zM 12 29,
 zM 13 31]
 (.seq (.block 0 (.loop (.seq (.seq (.regd [⟨[zB 32 12,
 zB 33 13], 0, [zO 34 (.bin .leq (zT 32) (zT 33)),
 zM 35 34]⟩,
 ⟨[zP (zG 36 35 true (.mov (zT 4))),
 zP (zG 37 35 true (.mov (zT 0))),
 zP (zG 38 35 true (.mov (zT 12))),
 zP (zG 39 35 true (.iaddr 2 (zT 37) (zT 38))),
 zQ (zG 40 35 true (.load true 2 (zT 39))),
 zP (zG 41 35 true (.mov (zT 0))),
 zP (zG 42 35 true (.mov (zT 1))),
 zP (zG 43 35 true (.iaddr 2 (zT 41) (zT 42))),
 zQ (zG 44 35 true (.load true 2 (zT 43)))], 0, [zG 45 35 true (.callv (zT 36) [(zT 40), (zT 44)]),
 zG 46 35 true (.bin .lss (zT 45) (zI 0)),
 zO 47 (.pick (zT 35) (zT 46) zF)]⟩])
 (.cond (zT 47)
 .skip
 (.exit 0)))
 (.block 1 (.reg [zM 48 12,
 zJ 49 48 1,
 zM 12 49])))))
 (.seq (.block 2 (.loop (.seq (.seq (.regd [⟨[zB 50 12,
 zB 51 13], 0, [zO 52 (.bin .leq (zT 50) (zT 51)),
 zM 53 52]⟩,
 ⟨[zP (zG 54 53 true (.mov (zT 4))),
 zP (zG 55 53 true (.mov (zT 0))),
 zP (zG 56 53 true (.mov (zT 13))),
 zP (zG 57 53 true (.iaddr 2 (zT 55) (zT 56))),
 zQ (zG 58 53 true (.load true 2 (zT 57))),
 zP (zG 59 53 true (.mov (zT 0))),
 zP (zG 60 53 true (.mov (zT 1))),
 zP (zG 61 53 true (.iaddr 2 (zT 59) (zT 60))),
 zQ (zG 62 53 true (.load true 2 (zT 61)))], 0, [zG 63 53 true (.callv (zT 54) [(zT 58), (zT 62)]),
 zG 64 53 true (.bin .lss (zT 63) (zI 0)),
 zG 65 53 true (.un .not (zT 64)),
 zO 66 (.pick (zT 53) (zT 65) zF)]⟩])
 (.cond (zT 66)
 .skip
 (.exit 2)))
 (.block 3 (.reg [zM 67 13,
 zO 68 (.bin .sub (zT 67) (zI 1)),
 zM 13 68])))))
 (.seq (zA [zM 69 12,
 zM 70 13,
 zO 71 (.bin .gtr (zT 69) (zT 70))]
 (.cond (zT 71)
 (.seq (.regd [⟨[zB 72 0,
 zB 73 13,
 zB 74 0,
 zB 75 1,
 zB 76 0,
 zB 77 1,
 zP (zO 78 (.iaddr 2 (zT 76) (zT 77))),
 zQ (zE 79 2 78),
 zB 80 0,
 zB 81 13,
 zP (zO 82 (.iaddr 2 (zT 80) (zT 81))),
 zQ (zE 83 2 82),
 zP (zO 84 (.iaddr 2 (zT 72) (zT 73))),
 ⟨zN (.store 2 (zT 84) (zT 79)), false, true, false, 0, [], none⟩], 0, [zO 85 (.iaddr 2 (zT 74) (zT 75)),
 zN (.store 2 (zT 85) (zT 83))]⟩])
 (zA [zM 86 13,
 zM 10 86,
 zO 11 (.mov (.con (.bool true)))]
 .ret))
 .skip))
 (.seq (.regd [⟨[zB 87 0,
 zB 88 12,
 zB 89 0,
 zB 90 13,
 zB 91 0,
 zB 92 13,
 zP (zO 93 (.iaddr 2 (zT 91) (zT 92))),
 zQ (zE 94 2 93),
 zB 95 0,
 zB 96 12,
 zP (zO 97 (.iaddr 2 (zT 95) (zT 96))),
 zQ (zE 98 2 97),
 zP (zO 99 (.iaddr 2 (zT 87) (zT 88))),
 ⟨zN (.store 2 (zT 99) (zT 94)), false, true, false, 0, [], none⟩], 0, [zO 100 (.iaddr 2 (zT 89) (zT 90)),
 zN (.store 2 (zT 100) (zT 98))]⟩])
 (zA [zM 101 12,
 zJ 102 101 1,
 zM 12 102]
 (zA [zM 103 13,
 zO 104 (.bin .sub (zT 103) (zI 1)),
 zM 13 104]
 (.seq (.block 4 (.loop (.block 5 (.seq (.block 6 (.loop (.seq (.seq (.regd [⟨[zB 105 12,
 zB 106 13], 0, [zO 107 (.bin .leq (zT 105) (zT 106)),
 zM 108 107]⟩,
 ⟨[zP (zG 109 108 true (.mov (zT 4))),
 zP (zG 110 108 true (.mov (zT 0))),
 zP (zG 111 108 true (.mov (zT 12))),
 zP (zG 112 108 true (.iaddr 2 (zT 110) (zT 111))),
 zQ (zG 113 108 true (.load true 2 (zT 112))),
 zP (zG 114 108 true (.mov (zT 0))),
 zP (zG 115 108 true (.mov (zT 1))),
 zP (zG 116 108 true (.iaddr 2 (zT 114) (zT 115))),
 zQ (zG 117 108 true (.load true 2 (zT 116)))], 0, [zG 118 108 true (.callv (zT 109) [(zT 113), (zT 117)]),
 zG 119 108 true (.bin .lss (zT 118) (zI 0)),
 zO 120 (.pick (zT 108) (zT 119) zF)]⟩])
 (.cond (zT 120)
 .skip
 (.exit 6)))
 (.block 7 (.reg [zM 121 12,
 zJ 122 121 1,
 zM 12 122])))))
 (.seq (.block 8 (.loop (.seq (.seq (.regd [⟨[zB 123 12,
 zB 124 13], 0, [zO 125 (.bin .leq (zT 123) (zT 124)),
 zM 126 125]⟩,
 ⟨[zP (zG 127 126 true (.mov (zT 4))),
 zP (zG 128 126 true (.mov (zT 0))),
 zP (zG 129 126 true (.mov (zT 13))),
 zP (zG 130 126 true (.iaddr 2 (zT 128) (zT 129))),
 zQ (zG 131 126 true (.load true 2 (zT 130))),
 zP (zG 132 126 true (.mov (zT 0))),
 zP (zG 133 126 true (.mov (zT 1))),
 zP (zG 134 126 true (.iaddr 2 (zT 132) (zT 133))),
 zQ (zG 135 126 true (.load true 2 (zT 134)))], 0, [zG 136 126 true (.callv (zT 127) [(zT 131), (zT 135)]),
 zG 137 126 true (.bin .lss (zT 136) (zI 0)),
 zG 138 126 true (.un .not (zT 137)),
 zO 139 (.pick (zT 126) (zT 138) zF)]⟩])
 (.cond (zT 139)
 .skip
 (.exit 8)))
 (.block 9 (.reg [zM 140 13,
 zO 141 (.bin .sub (zT 140) (zI 1)),
 zM 13 141])))))
 (.seq (zA [zM 142 12,
 zM 143 13,
 zO 144 (.bin .gtr (zT 142) (zT 143))]
 (.cond (zT 144)
 (.exit 4)
 .skip))
 (.seq (.regd [⟨[zB 145 0,
 zB 146 12,
 zB 147 0,
 zB 148 13,
 zB 149 0,
 zB 150 13,
 zP (zO 151 (.iaddr 2 (zT 149) (zT 150))),
 zQ (zE 152 2 151),
 zB 153 0,
 zB 154 12,
 zP (zO 155 (.iaddr 2 (zT 153) (zT 154))),
 zQ (zE 156 2 155),
 zP (zO 157 (.iaddr 2 (zT 145) (zT 146))),
 ⟨zN (.store 2 (zT 157) (zT 152)), false, true, false, 0, [], none⟩], 0, [zO 158 (.iaddr 2 (zT 147) (zT 148)),
 zN (.store 2 (zT 158) (zT 156))]⟩])
 (zA [zM 159 12,
 zJ 160 159 1,
 zM 12 160]
 (.reg [zM 161 13,
 zO 162 (.bin .sub (zT 161) (zI 1)),
 zM 13 162])))))))))
 (.seq (.regd [⟨[zB 163 0,
 zB 164 13,
 zB 165 0,
 zB 166 1,
 zB 167 0,
 zB 168 1,
 zP (zO 169 (.iaddr 2 (zT 167) (zT 168))),
 zQ (zE 170 2 169),
 zB 171 0,
 zB 172 13,
 zP (zO 173 (.iaddr 2 (zT 171) (zT 172))),
 zQ (zE 174 2 173),
 zP (zO 175 (.iaddr 2 (zT 163) (zT 164))),
 ⟨zN (.store 2 (zT 175) (zT 170)), false, true, false, 0, [], none⟩], 0, [zO 176 (.iaddr 2 (zT 165) (zT 166)),
 zN (.store 2 (zT 176) (zT 174))]⟩])
 (zA [zM 177 13,
 zM 10 177,
 zO 11 (.mov zF)]
 .ret))))))))))))
def g78 : Fn := ⟨5, 178, [.tmp 10, .tmp 11], b78⟩
def b79 : AC :=
 (zA [zC 2 0]
 (.seq (zA [zM 3 0,
 zO 4 (.bin .geq (zT 3) (.con (.int .u32 65536)))]
 (.cond (zT 4)
 (zA [zM 5 0,
 zO 6 (.bin .shr (zT 5) (.con (.int .u64 16))),
 zM 0 6]
 (.reg [zC 2 16]))
 .skip))
 (.seq (zA [zM 7 0,
 zO 8 (.bin .geq (zT 7) (.con (.int .u32 256)))]
 (.cond (zT 8)
 (zA [zM 9 0,
 zO 10 (.bin .shr (zT 9) (.con (.int .u64 8))),
 zM 0 10]
 (.reg [zM 11 2,
 zJ 12 11 8,
 zM 2 12]))
 .skip))
 (zA [zM 13 2,
 zM 14 0,
 zO 15 (.conv .u8 (zT 14)),
 ⟨(some 16), none, .idxS (.con (.str ⟨#[0, 1, 2, 2, 3, 3, 3, 3, 4, 4, 4, 4, 4, 4, 4, 4, 5, 5, 5, 5, 5, 5, 5, 5, 5, 5, 5, 5, 5, 5, 5, 5, 6, 6, 6, 6, 6, 6, 6, 6, 6, 6, 6, 6, 6, 6, 6, 6, 6, 6, 6, 6, 6, 6, 6, 6, 6, 6, 6, 6, 6, 6, 6, 6, 7, 7, 7, 7, 7, 7, 7, 7, 7, 7, 7, 7, 7, 7, 7, 7, 7, 7, 7, 7, 7, 7, 7, 7, 7, 7, 7, 7, 7, 7, 7, 7, 7, 7, 7, 7, 7, 7, 7, 7, 7, 7, 7, 7, 7, 7, 7, 7, 7, 7, 7, 7, 7, 7, 7, 7, 7, 7, 7, 7, 7, 7, 7, 7, 8, 8, 8, 8, 8, 8, 8, 8, 8, 8, 8, 8, 8, 8, 8, 8, 8, 8, 8, 8, 8, 8, 8, 8, 8, 8, 8, 8, 8, 8, 8, 8, 8, 8, 8, 8, 8, 8, 8, 8, 8, 8, 8, 8, 8, 8, 8, 8, 8, 8, 8, 8, 8, 8, 8, 8, 8, 8, 8, 8, 8, 8, 8, 8, 8, 8, 8, 8, 8, 8, 8, 8, 8, 8, 8, 8, 8, 8, 8, 8, 8, 8, 8, 8, 8, 8, 8, 8, 8, 8, 8, 8, 8, 8, 8, 8, 8, 8, 8, 8, 8, 8, 8, 8, 8, 8, 8, 8, 8, 8, 8, 8, 8, 8, 8, 8, 8, 8, 8, 8, 8, 8, 8, 8, 8, 8, 8, 8]⟩)) (zT 15)⟩,
 zO 17 (.conv .i64 (zT 16)),
 zO 18 (.bin .add (zT 13) (zT 17)),
 zM 2 18]
 .ret))))
def g79 : Fn := ⟨1, 19, [.tmp 2], b79⟩
def b80 : AC :=
 (zA [zC 2 0]
 (.seq (zA [zM 3 0,
 zO 4 (.bin .geq (zT 3) (.con (.int .u64 4294967296)))]
 (.cond (zT 4)
 (zA [zM 5 0,
 zO 6 (.bin .shr (zT 5) (.con (.int .u64 32))),
 zM 0 6]
 (.reg [zC 2 32]))
 .skip))
 (.seq (zA [zM 7 0,
 zO 8 (.bin .geq (zT 7) (.con (.int .u64 65536)))]
 (.cond (zT 8)
 (zA [zM 9 0,
 zO 10 (.bin .shr (zT 9) (.con (.int .u64 16))),
 zM 0 10]
 (.reg [zM 11 2,
 zJ 12 11 16,
 zM 2 12]))
 .skip))
 (.seq (zA [zM 13 0,
 zO 14 (.bin .geq (zT 13) (.con (.int .u64 256)))]
 (.cond (zT 14)
 (zA [zM 15 0,
 zO 16 (.bin .shr (zT 15) (.con (.int .u64 8))),
 zM 0 16]
 (.reg [zM 17 2,
 zJ 18 17 8,
 zM 2 18]))
 .skip))
 (zA [zM 19 2,
 zM 20 0,
 zO 21 (.conv .u8 (zT 20)),
 ⟨(some 22), none, .idxS (.con (.str ⟨#[0, 1, 2, 2, 3, 3, 3, 3, 4, 4, 4, 4, 4, 4, 4, 4, 5, 5, 5, 5, 5, 5, 5, 5, 5, 5, 5, 5, 5, 5, 5, 5, 6, 6, 6, 6, 6, 6, 6, 6, 6, 6, 6, 6, 6, 6, 6, 6, 6, 6, 6, 6, 6, 6, 6, 6, 6, 6, 6, 6, 6, 6, 6, 6, 7, 7, 7, 7, 7, 7, 7, 7, 7, 7, 7, 7, 7, 7, 7, 7, 7, 7, 7, 7, 7, 7, 7, 7, 7, 7, 7, 7, 7, 7, 7, 7, 7, 7, 7, 7, 7, 7, 7, 7, 7, 7, 7, 7, 7, 7, 7, 7, 7, 7, 7, 7, 7, 7, 7, 7, 7, 7, 7, 7, 7, 7, 7, 7, 8, 8, 8, 8, 8, 8, 8, 8, 8, 8, 8, 8, 8, 8, 8, 8, 8, 8, 8, 8, 8, 8, 8, 8, 8, 8, 8, 8, 8, 8, 8, 8, 8, 8, 8, 8, 8, 8, 8, 8, 8, 8, 8, 8, 8, 8, 8, 8, 8, 8, 8, 8, 8, 8, 8, 8, 8, 8, 8, 8, 8, 8, 8, 8, 8, 8, 8, 8, 8, 8, 8, 8, 8, 8, 8, 8, 8, 8, 8, 8, 8, 8, 8, 8, 8, 8, 8, 8, 8, 8, 8, 8, 8, 8, 8, 8, 8, 8, 8, 8, 8, 8, 8, 8, 8, 8, 8, 8, 8, 8, 8, 8, 8, 8, 8, 8, 8, 8, 8, 8, 8, 8, 8, 8, 8, 8, 8, 8]⟩)) (zT 21)⟩,
 zO 23 (.conv .i64 (zT 22)),
 zO 24 (.bin .add (zT 19) (zT 23)),
 zM 2 24]
 .ret)))))
def g80 : Fn := ⟨1, 25, [.tmp 2], b80⟩
def b81 : AC :=
 (zA [zO 2 (.mov zF)]
 (zA [zM 3 0,
 zM 4 0,
 zO 5 (.bin .neq (zT 3) (zT 4)),
 zM 2 5]
 .ret))
def g81 : Fn := ⟨1, 6, [.tmp 2], b81⟩
def b84 : AC :=
 (zA [zM 12 1,
 zM 10 12]
 (.block 0 (.loop (.block 1 (zA [zM 13 10,
 zO 14 (.bin .mul (zI 2) (zT 13)),
 zJ 15 14 1,
 zM 11 15]
 (.seq (zA [zM 16 11,
 zM 17 2,
 zO 18 (.bin .geq (zT 16) (zT 17))]
 (.cond (zT 18)
 (.exit 0)
 .skip))
 (.seq (.seq (.regd [⟨[zB 19 11,
 zP (zJ 20 19 1),
 zB 21 2], 0, [zO 22 (.bin .lss (zT 20) (zT 21)),
 zM 23 22]⟩,
 ⟨[zP (zG 24 23 true (.mov (zT 4))),
 zP (zG 25 23 true (.mov (zT 0))),
 zP (zG 26 23 true (.mov (zT 3))),
 zP (zG 27 23 true (.mov (zT 11))),
 zP (zG 28 23 true (.bin .add (zT 26) (zT 27))),
 zP (zG 29 23 true (.iaddr 2 (zT 25) (zT 28))),
 zQ (zG 30 23 true (.load true 2 (zT 29))),
 zP (zG 31 23 true (.mov (zT 0))),
 zP (zG 32 23 true (.mov (zT 3))),
 zP (zG 33 23 true (.mov (zT 11))),
 zP (zG 34 23 true (.bin .add (zT 32) (zT 33))),
 zP (zG 35 23 true (.bin .add (zT 34) (zI 1))),
 zP (zG 36 23 true (.iaddr 2 (zT 31) (zT 35))),
 zQ (zG 37 23 true (.load true 2 (zT 36)))], 0, [zG 38 23 true (.callv (zT 24) [(zT 30), (zT 37)]),
 zG 39 23 true (.bin .lss (zT 38) (zI 0)),
 zO 40 (.pick (zT 23) (zT 39) zF)]⟩])
 (.cond (zT 40)
 (.reg [zM 41 11,
 zJ 42 41 1,
 zM 11 42])
 .skip))
 (.seq (.seq (.regd [⟨[zB 43 4,
 zB 44 0,
 zB 45 3,
 zB 46 10,
 zP (zO 47 (.bin .add (zT 45) (zT 46))),
 zP (zO 48 (.iaddr 2 (zT 44) (zT 47))),
 zQ (zE 49 2 48),
 zB 50 0,
 zB 51 3,
 zB 52 11,
 zP (zO 53 (.bin .add (zT 51) (zT 52))),
 zP (zO 54 (.iaddr 2 (zT 50) (zT 53))),
 zQ (zE 55 2 54)], 0, [zO 56 (.callv (zT 43) [(zT 49), (zT 55)]),
 zO 57 (.bin .lss (zT 56) (zI 0)),
 zO 58 (.un .not (zT 57))]⟩])
 (.cond (zT 58)
 .ret
 .skip))
 (.seq (.regd [⟨[zB 59 0,
 zB 60 3,
 zB 61 10,
 zP (zO 62 (.bin .add (zT 60) (zT 61))),
 zB 63 0,
 zB 64 3,
 zB 65 11,
 zP (zO 66 (.bin .add (zT 64) (zT 65))),
 zB 67 0,
 zB 68 3,
 zB 69 11,
 zP (zO 70 (.bin .add (zT 68) (zT 69))),
 zP (zO 71 (.iaddr 2 (zT 67) (zT 70))),
 zQ (zE 72 2 71),
 zB 73 0,
 zB 74 3,
 zB 75 10,
 zP (zO 76 (.bin .add (zT 74) (zT 75))),
 zP (zO 77 (.iaddr 2 (zT 73) (zT 76))),
 zQ (zE 78 2 77),
 zP (zO 79 (.iaddr 2 (zT 59) (zT 62))),
 ⟨zN (.store 2 (zT 79) (zT 72)), false, true, false, 0, [], none⟩], 0, [zO 80 (.iaddr 2 (zT 63) (zT 66)),
 zN (.store 2 (zT 80) (zT 78))]⟩])
 (.reg [zM 81 11,
 zM 10 81]))))))))))
def g84 : Fn := ⟨5, 82, [], b84⟩
def b85 : AC :=
 (zA [zO 2 (.mov (.con (.int .u64 0)))]
 (zA [zM 3 0,
 zO 4 (.conv .u64 (zT 3)),
 zO 5 (.call 63 [(zT 4)]),
 zO 6 (.bin .shl (.con (.int .u64 1)) (zT 5)),
 zM 2 6]
 .ret))
def g85 : Fn := ⟨1, 7, [.tmp 2], b85⟩
def b86 : AC :=
 (zA [zO 2 (.mov (.con (.int .u64 0)))]
 (.seq (.regd [⟨[zB 3 0,
 zP (zO 4 (.nilck (zT 3))),
 zQ (zL 5 4),
 zB 6 0,
 zP (zO 7 (.nilck (zT 6))),
 zQ (zL 8 7),
 zP (zO 9 (.bin .shl (zT 8) (.con (.int .u64 13))))], 0, [zO 10 (.bin .xor (zT 5) (zT 9)),
 zO 11 (.nilck (zT 3)),
 zN (.store 1 (zT 11) (zT 10))]⟩])
 (.seq (.regd [⟨[zB 12 0,
 zP (zO 13 (.nilck (zT 12))),
 zQ (zL 14 13),
 zB 15 0,
 zP (zO 16 (.nilck (zT 15))),
 zQ (zL 17 16),
 zP (zO 18 (.bin .shr (zT 17) (.con (.int .u64 7))))], 0, [zO 19 (.bin .xor (zT 14) (zT 18)),
 zO 20 (.nilck (zT 12)),
 zN (.store 1 (zT 20) (zT 19))]⟩])
 (.seq (.regd [⟨[zB 21 0,
 zP (zO 22 (.nilck (zT 21))),
 zQ (zL 23 22),
 zB 24 0,
 zP (zO 25 (.nilck (zT 24))),
 zQ (zL 26 25),
 zP (zO 27 (.bin .shl (zT 26) (.con (.int .u64 17))))], 0, [zO 28 (.bin .xor (zT 23) (zT 27)),
 zO 29 (.nilck (zT 21)),
 zN (.store 1 (zT 29) (zT 28))]⟩])
 (zA [zM 30 0,
 zO 31 (.nilck (zT 30)),
 zL 32 31,
 zM 2 32]
 .ret)))))
def g86 : Fn := ⟨1, 33, [.tmp 2], b86⟩
def b87 : AC :=
 (zA [zC 8 0]
 (zA [zM 9 0,
 zM 10 1,
 zO 11 (.bin .sub (zT 10) (zI 1)),
 zM 12 1,
 zM 13 1,
 zJ 14 13 1,
 zM 15 2,
 zM 16 3,
 zO 17 (.call 88 [(zT 9), (zT 11), (zT 12), (zT 14), (zT 15), (zT 16)]),
 zM 8 17]
 .ret))
def g87 : Fn := ⟨4, 18, [.tmp 8], b87⟩
def b88 : AC :=
 (zA [zC 12 0]
 (zA [zM 14 0,
 zM 15 1,
 zM 16 2,
 zM 17 4,
 zM 18 5,
 zO 19 (.call 90 [(zT 14), (zT 15), (zT 16), (zT 17), (zT 18)]),
 zM 13 19,
 zO 20 (.ext (zT 13) 0),
 zO 21 (.ext (zT 13) 1),
 zM 1 20,
 zM 2 21]
 (zA [zM 23 0,
 zM 24 2,
 zM 25 3,
 zM 26 4,
 zM 27 5,
 zO 28 (.call 90 [(zT 23), (zT 24), (zT 25), (zT 26), (zT 27)]),
 zM 22 28,
 zO 29 (.ext (zT 22) 0),
 zO 30 (.ext (zT 22) 1),
 zM 2 29,
 zM 3 30]
 (zA [zM 32 0,
 zM 33 1,
 zM 34 2,
 zM 35 4,
 zM 36 5,
 zO 37 (.call 90 [(zT 32), (zT 33), (zT 34), (zT 35), (zT 36)]),
 zM 31 37,
 zO 38 (.ext (zT 31) 0),
 zO 39 (.ext (zT 31) 1),
 zM 1 38,
 zM 2 39]
 (zA [zM 40 2,
 zM 12 40]
 .ret)))))
def g88 : Fn := ⟨6, 41, [.tmp 12], b88⟩
def b90 : AC :=
 (zA [zC 10 0,
 zC 11 0]
 (.seq (.seq (.regd [⟨[zB 12 4,
 zB 13 0,
 zB 14 2,
 zP (zO 15 (.iaddr 2 (zT 13) (zT 14))),
 zQ (zE 16 2 15),
 zB 17 0,
 zB 18 1,
 zP (zO 19 (.iaddr 2 (zT 17) (zT 18))),
 zQ (zE 20 2 19)], 0, [zO 21 (.callv (zT 12) [(zT 16), (zT 20)]),
 zO 22 (.bin .lss (zT 21) (zI 0))]⟩])
 (.cond (zT 22)
 (zA [zM 23 3,
 zO 24 (.nilck (zT 23)),
 zL 25 24,
 zJ 26 25 1,
 zO 27 (.nilck (zT 23)),
 zN (.store 1 (zT 27) (zT 26))]
 (zA [zM 28 2,
 zM 29 1,
 zM 10 28,
 zM 11 29]
 .ret))
 .skip))
 (zA [zM 30 1,
 zM 31 2,
 zM 10 30,
 zM 11 31]
 .ret)))
def g90 : Fn := ⟨5, 32, [.tmp 10, .tmp 11], b90⟩
def fnOf : Nat → Option Fn
 | 6 => some g6
 | 11 => some g11
 | 14 => some g14
 | 15 => some g15
 | 21 => some g21
 | 22 => some g22
 | 23 => some g23
 | 24 => some g24
 | 25 => some g25
 | 26 => some g26
 | 27 => some g27
 | 28 => some g28
 | 32 => some g32
 | 33 => some g33
 | 37 => some g37
 | 38 => some g38
 | 39 => some g39
 | 40 => some g40
 | 41 => some g41
 | 42 => some g42
 | 43 => some g43
 | 46 => some g46
 | 47 => some g47
 | 48 => some g48
 | 49 => some g49
 | 52 => some g52
 | 53 => some g53
 | 54 => some g54
 | 55 => some g55
 | 59 => some g59
 | 60 => some g60
 | 61 => some g61
 | 62 => some g62
 | 63 => some g63
 | 64 => some g64
 | 65 => some g65
 | 66 => some g66
 | 67 => some g67
 | 68 => some g68
 | 70 => some g70
 | 71 => some g71
 | 72 => some g72
 | 73 => some g73
 | 74 => some g74
 | 75 => some g75
 | 76 => some g76
 | 77 => some g77
 | 78 => some g78
 | 79 => some g79
 | 80 => some g80
 | 81 => some g81
 | 84 => some g84
 | 85 => some g85
 | 86 => some g86
 | 87 => some g87
 | 88 => some g88
 | 90 => some g90
 | _ => none
def modeOf (f : Nat) : Mode := if f ∈ [68, 27, 40, 32, 33] then .own else if f ∈ [52, 39, 41, 62, 71, 72, 73, 75, 76, 77, 78, 84, 86, 87, 88, 90, 53, 54, 55] then .raw else .pure
def primOf : Nat → Option Prim
 | 69 => some (insP 4 48)
 | 56 => some (delP 4 48)
 | 8 => some (yesP)
 | _ => none
def T : Tab := { fn := fnOf, mode := modeOf, prim := primOf }
end Go.Q.SU
end

section
/- Small functions of seat 08. -/
namespace Go.Q.SU
open Go.Q
def i32V (x : Int) : V := .int .i32 x
def okI (x : Int) : Bool := decide (-1073741823 ≤ x) && decide (x ≤ 1073741823)
theorem r59 (x : Int) : res T 59 [.int .i32 x] = some (.bool (!okI x)) := by
 refine run_res (run_pure (fn := g59) rfl rfl (by decide) ?_)
 simp only [g59, b59, zO, zN, zM, zL, zG, zP, zQ, zI, zA, zT, zF, zB, zC, zD, zE, zH, zJ, zK]
 simp +contextual -implicitDefEqProofs (maxSteps := 2000000) only [↓wP, wS, seval]
 simp only [okI, Option.some.injEq, V.bool.injEq, Bool.not_and]
 congr 1 <;> simp only [← decide_not, Int.not_le]
def f59 (x : Int) := callE_tr (by decide) (r59 x) (by simp [Tr, Tr_slV]) rfl
def idxF {α : Type} (p : α → Bool) (l : List α) : Int := match l.findIdx? p with
 | some i => i
 | none => -1
theorem r70 (o : Option (List Int)) (F : Nat) (caps : List V) (p : Int → Bool) (hl : (lst o).length < 9223372036854775808)     (hp : ∀ x fs σ n lk, callE T fs F (i32V x :: caps) σ n lk = some (.bool (p x), σ, n)) : res T 70 [slV 1 i32V o, .fn F caps] = some (.int .i64 (idxF p (lst o))) := by
 refine run_res (run_pure (fn := g70) rfl rfl (by decide) ?_)
 simp only [g70, b70, zO, zN, zM, zL, zG, zP, zQ, zI, zA, zT, zF, zB, zC, zD, zE, zH, zJ, zK]
 simp +contextual -implicitDefEqProofs (maxSteps := 2000000) only [↓wP, wS, seval]
 refine WC_for (lst o).length 0 (fun (j : Nat) env _ _ => env 0 = slV 1 i32V o ∧ env 1 = .fn F caps ∧ (lst o).findIdx? p = (((lst o).drop j).findIdx? p).map (· + j)) (by omega) (by decide) (by decide) (fun _ _ => rfl) (fun _ _ _ => rfl) ?_ ?_ _ _ _ rfl rfl ?_
 ·intro j env σ n hj h1 h2 ⟨h3, h4, h5⟩
  simp only [vl_tmp] at h2
  have hx : (lst o)[j]? = some (lst o)[j] := List.getElem?_eq_getElem hj
  have hp' := hp (lst o)[j]
  simp only [i32V] at hp'
  simp +contextual -implicitDefEqProofs (maxSteps := 2000000) only [↓wP, wS, seval, h1, h2, h3, h4, hx, i32V, hp']
  rw [List.drop_eq_getElem_cons hj, List.findIdx?_cons] at h5
  refine condC_split (fun hb => ?_) (fun hb => ?_)
  ·simp +contextual -implicitDefEqProofs (maxSteps := 2000000) only [↓wP, wS, seval]
   simp [idxF, h5, hb]
  ·simp +contextual -implicitDefEqProofs (maxSteps := 2000000) only [↓wP, wS, seval, h1, h2, h3, h4]
   rw [h5, hb]
   simp only [Bool.false_eq_true, if_false, Option.map_map, Function.comp_def]
   congr 1; funext i; omega
 ·intro env σ n ⟨h3, h4, h5⟩ h1 h2
  simp +contextual -implicitDefEqProofs (maxSteps := 2000000) only [↓wP, wS, seval]
  simp [idxF, h5]
 ·exact ⟨rfl, rfl, by simp⟩
theorem idxF_any {α : Type} (p : α → Bool) (l : List α) : decide (0 ≤ idxF p l) = l.any p := by
 unfold idxF
 cases h : l.findIdx? p with
 | none =>
   simp only [List.findIdx?_eq_none_iff] at h
   simp only [Int.reduceNeg, Int.reduceLE, decide_false]
   exact (List.any_eq_false.2 fun x hx => by simp [h x hx]).symm
 | some i =>
   simp only [List.findIdx?_eq_some_iff_getElem] at h
   obtain ⟨h, h1, -⟩ := h
   simp only [Int.natCast_nonneg, decide_true]
   exact (List.any_eq_true.2 ⟨_, List.getElem_mem h, h1⟩).symm
theorem r60 (o : Option (List Int)) (hl : (lst o).length < 9223372036854775808) : res T 60 [slV 1 i32V o, .fn 59 []] = some (.bool ((lst o).any fun x => !okI x)) := by
 refine run_res (run_pure (fn := g60) rfl rfl (by decide) ?_)
 simp only [g60, b60, zO, zN, zM, zL, zG, zP, zQ, zI, zA, zT, zF, zB, zC, zD, zE, zH, zJ, zK]
 have h := r70 o 59 [] (fun x => !okI x) hl (fun x fs σ n lk => f59 x fs σ n lk)
 have hm : T.mode 70 ≠ .raw := by decide
 simp +contextual -implicitDefEqProofs (maxSteps := 2000000) only [↓wP, wS, seval, h, callE_eq hm, idxF_any]
def f60 (o : Option (List Int)) (hl : (lst o).length < 9223372036854775808) := callE_tr (by decide) (r60 o hl) (by simp [Tr, Tr_slV]) rfl
def okV (o : Option (List Int)) : Bool := decide (0 < (lst o).length) && decide ((lst o).length ≤ 4) && (lst o).all okI
theorem r38 (o : Option (List Int)) (hl : (lst o).length < 9223372036854775808) : res T 38 [slV 1 i32V o] = some (.int .i64 (if okV o then 0 else 150)) := by
 refine run_res (run_pure (fn := g38) rfl rfl (by decide) ?_)
 simp only [g38, b38, zO, zN, zM, zL, zG, zP, zQ, zI, zA, zT, zF, zB, zC, zD, zE, zH, zJ, zK]
 have h := f60 o hl
 simp +contextual -implicitDefEqProofs (maxSteps := 2000000) only [↓wP, wS, seval, h]
 have hk : (decide (((lst o).length : Int) < 1) || decide (4 < ((lst o).length : Int)) || (lst o).any fun x => !okI x) = !okV o := by
  unfold okV
  rw [Bool.not_and, Bool.not_and, List.not_all_eq_any_not, ← decide_not, ← decide_not]
  congr 2 <;> exact decide_eq_decide.2 (by omega)
 rw [hk]
 cases hb : okV o <;> simp +contextual -implicitDefEqProofs (maxSteps := 2000000) only [↓wP, wS, seval]
def f38 (o : Option (List Int)) (hl : (lst o).length < 9223372036854775808) := callE_tr (by decide) (r38 o hl) (by simp [Tr, Tr_slV]) rfl
end Go.Q.SU
end

section
/- More functions of seat 08: equality, what may be, last traces. -/
namespace Go.Q.SU
open Go.Q
theorem eq_drop {α : Type} [BEq α] {a b : List α} {j : Nat} (ha : j < a.length) (hb : j < b.length) : (a.drop j == b.drop j) = (a[j] == b[j] && a.drop (j + 1) == b.drop (j + 1)) := by
 rw [List.drop_eq_getElem_cons ha, List.drop_eq_getElem_cons hb]
 rfl
theorem eq_len {α : Type} [BEq α] : ∀ {a b : List α}, a.length ≠ b.length → (a == b) = false
 | [], [], h => absurd rfl h
 | [], _ :: _, _ => rfl
 | _ :: _, [], _ => rfl
 | x :: a, y :: b, h => by
   show (x == y && a == b) = false
   rw [eq_len (a := a) (b := b) (by simpa using h)]
   simp
theorem r67 (a b : Option (List Int)) (ha : (lst a).length < 9223372036854775808) : res T 67 [slV 1 i32V a, slV 1 i32V b] = some (.bool (lst a == lst b)) := by
 refine run_res (run_pure (fn := g67) rfl rfl (by decide) ?_)
 simp only [g67, b67, zO, zN, zM, zL, zG, zP, zQ, zI, zA, zT, zF, zB, zC, zD, zE, zH, zJ, zK]
 simp +contextual -implicitDefEqProofs (maxSteps := 2000000) only [↓wP, wS, seval]
 by_cases hl : (lst a).length = (lst b).length
 ·have hd : (((lst a).length : Int) != ((lst b).length : Int)) = false := by simp [hl]
  simp +contextual -implicitDefEqProofs (maxSteps := 2000000) only [↓wP, wS, seval, hd]
  refine WC_for (lst a).length 0 (fun (j : Nat) env _ _ => env 0 = slV 1 i32V a ∧ env 1 = slV 1 i32V b ∧ (lst a == lst b) = ((lst a).drop j == (lst b).drop j)) (by omega) (by decide) (by decide) (fun _ _ => rfl) (fun _ _ _ => rfl) ?_ ?_ _ _ _ rfl rfl ?_
  ·intro j env σ n hj h1 h2 ⟨h3, h4, h5⟩
   simp only [vl_tmp] at h2
   have hjb : j < (lst b).length := by omega
   have hx : (lst a)[j]? = some (lst a)[j] := List.getElem?_eq_getElem hj
   have hy : (lst b)[j]? = some (lst b)[j] := List.getElem?_eq_getElem hjb
   rw [eq_drop hj hjb] at h5
   simp +contextual -implicitDefEqProofs (maxSteps := 2000000) only [↓wP, wS, seval, h1, h2, h3, h4, hx, hy, i32V]
   refine condC_split (fun hb => ?_) (fun hb => ?_)
   ·have e1 : ((lst a)[j] == (lst b)[j]) = false := by simpa using hb
    rw [e1, Bool.false_and] at h5
    simp +contextual -implicitDefEqProofs (maxSteps := 2000000) only [↓wP, wS, seval, h5]
   ·have e1 : ((lst a)[j] == (lst b)[j]) = true := by simpa using hb
    rw [e1, Bool.true_and] at h5
    simp +contextual -implicitDefEqProofs (maxSteps := 2000000) only [↓wP, wS, seval, h1, h2, h3, h4, h5]
  ·intro env σ n ⟨h3, h4, h5⟩ h1 h2
   have e : (lst b).drop (lst a).length = [] := by rw [hl, List.drop_length]
   rw [List.drop_length, e] at h5
   simp +contextual -implicitDefEqProofs (maxSteps := 2000000) only [↓wP, wS, seval, h5]
  ·exact ⟨rfl, rfl, by simp⟩
 ·have hd : (((lst a).length : Int) != ((lst b).length : Int)) = true := by simp; omega
  have h5 := eq_len (a := lst a) (b := lst b) hl
  simp +contextual -implicitDefEqProofs (maxSteps := 2000000) only [↓wP, wS, seval, hd, h5]
def f67 (a b : Option (List Int)) (ha : (lst a).length < 9223372036854775808) := callE_tr (by decide) (r67 a b ha) (by simp [Tr, Tr_slV]) rfl
theorem r48 (a b : Option (List Int)) (ha : (lst a).length < 9223372036854775808) : res T 48 [slV 1 i32V a, slV 1 i32V b] = some (.bool (lst a == lst b)) := by
 refine run_res (run_pure (fn := g48) rfl rfl (by decide) ?_)
 simp only [g48, b48, zO, zN, zM, zL, zG, zP, zQ, zI, zA, zT, zF, zB, zC, zD, zE, zH, zJ, zK]
 have h := f67 a b ha
 simp +contextual -implicitDefEqProofs (maxSteps := 2000000) only [↓wP, wS, seval, h]
def f48 (a b : Option (List Int)) (ha : (lst a).length < 9223372036854775808) := callE_tr (by decide) (r48 a b ha) (by simp [Tr, Tr_slV]) rfl
end Go.Q.SU
end

section
/- Vectors: which are the same; the law's own copies. -/
namespace Go.Q.SU
open Go.Q
abbrev Vc := Option (List Int)
def Sm (v : Vc) : Prop := (lst v).length < 4611686018427387904
theorem r27 (v : Vc) (hv : Sm v) : res T 27 [slV 1 i32V v] = some (.own 1 (((lst v).take 5).map i32V)) := by
 refine run_res (run_own (fn := g27) rfl rfl (by decide) ?_)
 simp only [g27, b27, zO, zN, zM, zL, zG, zP, zQ, zI, zA, zT, zF, zB, zC, zD, zE, zH, zJ, zK]
 obtain ⟨N, hN⟩ : ∃ N, N = min (lst v).length 5 := ⟨_, rfl⟩
 have hmin : (if (5 : Int) < ((lst v).length : Int) then (5 : Int) else ((lst v).length : Int)) = (N : Int) := by split <;> omega
 unfold Sm at hv
 have hNl : N ≤ (lst v).length := by omega
 have hs : lst (sub v 0 N) = (lst v).take 5 := by
  rw [show (lst v).take 5 = (lst v).take N by rw [hN]; exact (List.take_eq_take_min).trans (by rw [Nat.min_comm])]
  cases v <;> simp [sub, lst]
 have hl5 : ((lst v).take 5).length ≤ 5 := by rw [List.length_take]; omega
 have hL : (((lst v).take 5).map i32V).length * 4 ≤ LIM := by rw [List.length_map]; unfold LIM; omega
 generalize (lst v).take 5 = L at *
 simp +contextual -implicitDefEqProofs (maxSteps := 2000000) only [↓wP, wS, seval, hmin, hNl, hs, hL, true_or]
 have := giv_row (σ := upd (upd (upd Sto.empty 0 (some (Ob.row 1 []))) 0 none) 1 (some (Ob.row 1 (L.map i32V)))) (id := 1) (sz := 1) (xs := L.map i32V) (by simp [upd])
  (fun x hx => by obtain ⟨t, -, rfl⟩ := List.mem_map.1 hx; rfl) (fun x hx c hc => by obtain ⟨t, -, rfl⟩ := List.mem_map.1 hx; simp [i32V, V.cells] at hc; subst hc; rfl)
 simpa using this
def cut (v : Vc) : Vc := some ((lst v).take 5)
theorem f27 (v : Vc) (hv : Sm v) (fs : Bool) (σ : Sto) (n lk : Nat) : callE T fs 27 [slV 1 i32V v] σ n lk = some (.ref n 0 (lst (cut v)).length 1, upd σ n (some (.row 1 ((lst (cut v)).map i32V))), n + 1) := by
 have := callE_own (by decide) (r27 v hv) (by simp [Tr, Tr_slV]) (fun x hx => by obtain ⟨t, -, rfl⟩ := List.mem_map.1 hx; rfl) fs σ n lk
 rw [List.length_map] at this
 exact this
theorem spl {σ : Sto} {m n sz : Nat} {v : V} {o : Option (List V)} (h : Pl σ m n sz v o) (c : V) : spliceC v 0 [c] = c := by
 cases o with
 | none => simp only [Pl] at h; subst h; rfl
 | some xs => obtain ⟨j, rfl, -⟩ := h; rfl
end Go.Q.SU
end

section
/- Facts: plain laws. -/
namespace Go.Q.SU
open Go.Q
structure Wr where
 c : Int
 id : Int
 g : Bool
 v : Option (List Int)
structure Fa where
 ts : Int
 w : Wr
def wrV (w : Wr) : V := .agg [.int .i64 w.c, .int .u64 w.id, .bool w.g, slV 1 i32V w.v]
def faV (f : Fa) : V := .agg [.int .u64 f.ts, .int .i64 f.w.c, .int .u64 f.w.id, .bool f.w.g, slV 1 i32V f.w.v]
theorem wrV_eq (w : Wr) : wrV w = .agg [.int .i64 w.c, .int .u64 w.id, .bool w.g, slV 1 i32V w.v] := rfl
def okW (w : Wr) : Bool := decide (0 ≤ w.c ∧ w.c < 3) && (if w.g then decide ((lst w.v).length = 0) else okV w.v)
def bef (a b : Wr) : Bool := decide (a.c < b.c) || (a.c == b.c && decide (a.id < b.id))
def okN (l : List Wr) (n : Nat) (w : Wr) : Bool := okW w && (match n with | 0 => true | j + 1 => match l[j]? with | some p => bef p w | none => true)
def wU (l : List Wr) : Nat → Bool
 | 0 => true
 | n + 1 => wU l n && (match l[n]? with | some w => okN l n w | none => true)
def rightW (l : List Wr) : Bool := decide (l.length ≤ 12) && wU l l.length
theorem wU_step {l : List Wr} {n : Nat} (hn : n < l.length) : wU l (n + 1) = (wU l n && okN l n l[n]) := by
 show (wU l n && _) = _
 rw [List.getElem?_eq_getElem hn]
abbrev Ky := Int × Int
def key (w : Wr) : Ky := (w.c, w.id)
theorem bef_key {a b : Wr} (h : bef a b = true) : key a ≠ key b := by
 unfold bef at h
 intro e
 unfold key at e
 simp only [Prod.mk.injEq] at e
 simp [e.1, e.2] at h
theorem bef_trans {a b c : Wr} (h : bef a b = true) (h' : bef b c = true) : bef a c = true := by
 unfold bef at *
 simp only [Bool.or_eq_true, Bool.and_eq_true, decide_eq_true_eq, beq_iff_eq] at *
 omega
structure Rw where
 id : Int
 v : Option (List Int)
def rwV (r : Rw) : V := .agg [.int .u64 r.id, slV 1 i32V r.v]
theorem rwV_eq (r : Rw) : rwV r = .agg [.int .u64 r.id, slV 1 i32V r.v] := rfl
def Asc (R : List Rw) : Prop := R.Pairwise fun a b => a.id < b.id
def insR (r : Rw) : List Rw → List Rw
 | [] => [r]
 | x :: s => if r.id < x.id then r :: x :: s else x :: insR r s
def delR (R : List Rw) (id : Int) : List Rw := R.filter fun r => decide (r.id ≠ id)
def putR (R : List Rw) (r : Rw) : List Rw := insR r (delR R r.id)
theorem mem_insR (r x : Rw) : ∀ s, x ∈ insR r s ↔ x = r ∨ x ∈ s
 | [] => by simp [insR]
 | y :: s => by
   unfold insR
   split
   ·simp
   ·simp only [List.mem_cons, mem_insR r x s]
    constructor
    ·rintro (h | h | h) <;> simp [h]
    ·rintro (h | h | h) <;> simp [h]
theorem asc_insR (r : Rw) : ∀ {s : List Rw}, Asc s → (∀ x ∈ s, x.id ≠ r.id) → Asc (insR r s)
 | [], _, _ => List.pairwise_singleton _ _
 | y :: s, h, hn => by
   obtain ⟨h1, h2⟩ := List.pairwise_cons.1 h
   unfold insR
   split
   ·rename_i hlt
    exact List.pairwise_cons.2 ⟨fun z hz => by
     rcases List.mem_cons.1 hz with rfl | hz
     ·exact hlt
     ·have := h1 z hz; omega, h⟩
   ·rename_i hlt
    refine List.pairwise_cons.2 ⟨fun z hz => ?_, asc_insR r h2 (fun x hx => hn x (List.mem_cons_of_mem _ hx))⟩
    rcases (mem_insR r z s).1 hz with rfl | hz
    ·have := hn y (List.mem_cons_self); omega
    ·exact h1 z hz
theorem asc_delR {R : List Rw} (h : Asc R) (id : Int) : Asc (delR R id) := List.Pairwise.sublist List.filter_sublist h
theorem mem_delR {R : List Rw} {id : Int} {x : Rw} : x ∈ delR R id ↔ x ∈ R ∧ x.id ≠ id := by simp [delR]
theorem asc_putR {R : List Rw} (h : Asc R) (r : Rw) : Asc (putR R r) := asc_insR r (asc_delR h _) (fun x hx => (mem_delR.1 hx).2)
theorem mem_putR {R : List Rw} {r x : Rw} : x ∈ putR R r ↔ x = r ∨ (x ∈ R ∧ x.id ≠ r.id) := by
 unfold putR
 rw [mem_insR, mem_delR]
theorem asc_uniq : ∀ {R S : List Rw}, Asc R → Asc S → (∀ x, x ∈ R ↔ x ∈ S) → R = S
 | [], [], _, _, _ => rfl
 | [], y :: S, _, _, h => by have := (h y).2 List.mem_cons_self; simp at this
 | x :: R, [], _, _, h => by have := (h x).1 List.mem_cons_self; simp at this
 | x :: R, y :: S, hR, hS, h => by
   obtain ⟨r1, r2⟩ := List.pairwise_cons.1 hR
   obtain ⟨s1, s2⟩ := List.pairwise_cons.1 hS
   have e : x = y := by
    rcases List.mem_cons.1 ((h x).1 List.mem_cons_self) with e | e
    ·exact e
    ·rcases List.mem_cons.1 ((h y).2 List.mem_cons_self) with e' | e'
     ·exact e'.symm
     ·have := s1 x e; have := r1 y e'; omega
   subst e
   rw [asc_uniq r2 s2 (fun z => ?_)]
   constructor
   ·intro hz
    rcases List.mem_cons.1 ((h z).1 (List.mem_cons_of_mem _ hz)) with e | e
    ·subst e; have := r1 z hz; omega
    ·exact e
   ·intro hz
    rcases List.mem_cons.1 ((h z).2 (List.mem_cons_of_mem _ hz)) with e | e
    ·subst e; have := s1 z hz; omega
    ·exact e
def RM (R : List Rw) (L : List (En Int (Option (List Int)))) : Prop := Asc R ∧ ∀ id v, (⟨id, v⟩ : Rw) ∈ R ↔ vw L id = some v
end Go.Q.SU
end

section
/- Writes: which may be. -/
namespace Go.Q.SU
open Go.Q
open Nat renaming reduceEqDiff → n1w, reduceAdd → n2w, reduceSub → n3w, reduceLeDiff → n4w, reduceLT → n5w, reduceMul → n6w
open Int renaming reduceBNe → i1w, reduceBEq → i2w, reduceLT → i3w, reduceLE → i4w, reduceGT → i5w
@[simp] theorem Tr_wrV (w : Wr) (k : Nat) : Tr (k + 2) (wrV w) = true := by simp [wrV, Tr, Tr_slV]
@[simp] theorem Tr_faV (f : Fa) (k : Nat) : Tr (k + 2) (faV f) = true := by simp [faV, Tr, Tr_slV]
def cmpU (x y : Int) : Int := if x < y then -1 else if y < x then 1 else 0
theorem r64 (x : Int) : res T 64 [.int .u64 x] = some (.bool false) := by
 refine run_res (run_pure (fn := g64) rfl rfl (by decide) ?_)
 simp only [g64, b64, zO, zN, zM, zL, zG, zP, zQ, zI, zA, zT, zF, zB, zC, zD, zE, zH, zJ, zK]
 simp +contextual -implicitDefEqProofs (maxSteps := 2000000) only [↓wP, wS, seval]
def f64 (x : Int) := callE_tr (by decide) (r64 x) (by simp [Tr, Tr_slV]) rfl
theorem r43 (x y : Int) : res T 43 [.int .u64 x, .int .u64 y] = some (.int .i64 (cmpU x y)) := by
 refine run_res (run_pure (fn := g43) rfl rfl (by decide) ?_)
 simp only [g43, b43, zO, zN, zM, zL, zG, zP, zQ, zI, zA, zT, zF, zB, zC, zD, zE, zH, zJ, zK]
 simp +contextual -implicitDefEqProofs (maxSteps := 2000000) only [↓wP, wS, seval, f64]
 unfold cmpU
 by_cases h1 : x < y
 ·simp +contextual -implicitDefEqProofs (maxSteps := 2000000) only [↓wP, wS, seval, h1]
 ·by_cases h2 : y < x
  ·simp +contextual -implicitDefEqProofs (maxSteps := 2000000) only [↓wP, wS, seval, h1, h2]
  ·simp +contextual -implicitDefEqProofs (maxSteps := 2000000) only [↓wP, wS, seval, h1, h2]
def f43 (x y : Int) := callE_tr (by decide) (r43 x y) (by simp [Tr, Tr_slV]) rfl
theorem r81 (x : Int) : res T 81 [.int .i64 x] = some (.bool false) := by
 refine run_res (run_pure (fn := g81) rfl rfl (by decide) ?_)
 simp only [g81, b81, zO, zN, zM, zL, zG, zP, zQ, zI, zA, zT, zF, zB, zC, zD, zE, zH, zJ, zK]
 simp +contextual -implicitDefEqProofs (maxSteps := 2000000) only [↓wP, wS, seval]
def f81 (x : Int) := callE_tr (by decide) (r81 x) (by simp [Tr, Tr_slV]) rfl
theorem r66 (x y : Int) : res T 66 [.int .i64 x, .int .i64 y] = some (.int .i64 (cmpU x y)) := by
 refine run_res (run_pure (fn := g66) rfl rfl (by decide) ?_)
 simp only [g66, b66, zO, zN, zM, zL, zG, zP, zQ, zI, zA, zT, zF, zB, zC, zD, zE, zH, zJ, zK]
 simp +contextual -implicitDefEqProofs (maxSteps := 2000000) only [↓wP, wS, seval, f81]
 unfold cmpU
 by_cases h1 : x < y
 ·simp +contextual -implicitDefEqProofs (maxSteps := 2000000) only [↓wP, wS, seval, h1]
 ·by_cases h2 : y < x
  ·simp +contextual -implicitDefEqProofs (maxSteps := 2000000) only [↓wP, wS, seval, h1, h2]
  ·simp +contextual -implicitDefEqProofs (maxSteps := 2000000) only [↓wP, wS, seval, h1, h2]
def f66 (x y : Int) := callE_tr (by decide) (r66 x y) (by simp [Tr, Tr_slV]) rfl
theorem r65 (a b : Int) : res T 65 [.sl 1 [.int .i64 a, .int .i64 b]] = some (.int .i64 (if a = 0 then b else a)) := by
 refine run_res (run_pure (fn := g65) rfl rfl (by decide) ?_)
 simp only [g65, b65, zO, zN, zM, zL, zG, zP, zQ, zI, zA, zT, zF, zB, zC, zD, zE, zH, zJ, zK]
 simp +contextual -implicitDefEqProofs (maxSteps := 2000000) only [↓wP, wQ, wQ1, wQ2, wQ3, wR, boxE, partsOf, ↓reduceIte, n1w, n2w, n3w, n4w, n5w, n6w, reduceCtorEq, i1w, i2w, i3w, i4w, i5w]
 refine WC_for 2 0 (fun (j : Nat) env σ n => env 3 = .int .i64 0 ∧ env 6 = .sl 1 [.int .i64 a, .int .i64 b] ∧ (0 < j → a = 0) ∧ (1 < j → b = 0)) (by omega) (by decide) (by decide) (fun _ _ => rfl) (fun _ _ _ => rfl) ?_ ?_ _ _ _ rfl rfl ?_
 ·intro j env σ n hj h1 h2 ⟨h3, h4, h5, h6⟩
  simp only [vl_tmp] at h2
  match j, hj with
  | 0, _ =>
    by_cases ha : a = 0
    ·have hd : (a != 0) = false := by simp [ha]
     simp +contextual -implicitDefEqProofs (maxSteps := 2000000) only [↓wP, wQ, wQ1, wQ2, wQ3, wR, boxE, partsOf, ↓reduceIte, n1w, n2w, n3w, n4w, n5w, n6w, reduceCtorEq, i1w, i2w, i3w, i4w, i5w, h1, h2, h3, h4, hd]
     exact ⟨fun _ => ha, fun h => h.elim⟩
    ·have hd : (a != 0) = true := by simp [ha]
     simp +contextual -implicitDefEqProofs (maxSteps := 2000000) only [↓wP, wQ, wQ1, wQ2, wQ3, wR, boxE, partsOf, ↓reduceIte, n1w, n2w, n3w, n4w, n5w, n6w, reduceCtorEq, i1w, i2w, i3w, i4w, i5w, h1, h2, h3, h4, hd, ha]
  | 1, _ =>
    have ha := h5 (by omega)
    by_cases hb : b = 0
    ·have hd : (b != 0) = false := by simp [hb]
     simp +contextual -implicitDefEqProofs (maxSteps := 2000000) only [↓wP, wQ, wQ1, wQ2, wQ3, wR, boxE, partsOf, ↓reduceIte, n1w, n2w, n3w, n4w, n5w, n6w, reduceCtorEq, i1w, i2w, i3w, i4w, i5w, h1, h2, h3, h4, hd]
     exact ⟨fun _ => ha, fun _ => hb⟩
    ·have hd : (b != 0) = true := by simp [hb]
     simp +contextual -implicitDefEqProofs (maxSteps := 2000000) only [↓wP, wQ, wQ1, wQ2, wQ3, wR, boxE, partsOf, ↓reduceIte, n1w, n2w, n3w, n4w, n5w, n6w, reduceCtorEq, i1w, i2w, i3w, i4w, i5w, h1, h2, h3, h4, hd, ha]
 ·intro env σ n ⟨h3, h4, h5, h6⟩ h1 h2
  have ha : a = 0 := h5 (by decide)
  have hb : b = 0 := h6 (by decide)
  simp +contextual -implicitDefEqProofs (maxSteps := 2000000) only [↓wP, wQ, wQ1, wQ2, wQ3, wR, boxE, partsOf, ↓reduceIte, n1w, n2w, n3w, n4w, n5w, n6w, reduceCtorEq, i1w, i2w, i3w, i4w, i5w, h3, ha, hb]
 ·simp +contextual -implicitDefEqProofs (maxSteps := 2000000) only [↓wP, wQ, wQ1, wQ2, wQ3, wR, boxE, partsOf, ↓reduceIte, n1w, n2w, n3w, n4w, n5w, n6w, reduceCtorEq, i1w, i2w, i3w, i4w, i5w]
  exact ⟨fun h => absurd h (by decide), fun h => absurd h (by decide)⟩
def f65 (a b : Int) := callE_tr (by decide) (r65 a b) (by simp [Tr, Tr_slV]) rfl
def collB (c : Int) : Bool := decide (0 ≤ c) && decide (c < 3)
theorem okW_eq (w : Wr) : okW w = (collB w.c && (if w.g then decide ((lst w.v).length = 0) else okV w.v)) := by
 unfold okW collB
 congr 1
 by_cases h1 : 0 ≤ w.c <;> by_cases h2 : w.c < 3 <;> simp [h1, h2]
theorem r37 (c : Int) : res T 37 [.int .i64 c] = some (.bool (collB c)) := by
 refine run_res (run_pure (fn := g37) rfl rfl (by decide) ?_)
 simp only [g37, b37, zO, zN, zM, zL, zG, zP, zQ, zI, zA, zT, zF, zB, zC, zD, zE, zH, zJ, zK]
 unfold collB
 by_cases h1 : 0 ≤ c
 ·simp +contextual -implicitDefEqProofs (maxSteps := 2000000) only [↓wP, wS, seval, h1]
 ·simp +contextual -implicitDefEqProofs (maxSteps := 2000000) only [↓wP, wS, seval, h1]
def f37 (c : Int) := callE_tr (by decide) (r37 c) (by simp [Tr, Tr_slV]) rfl
theorem r46 (w : Wr) (hw : Sm w.v) : res T 46 [wrV w] = some (.bool (okW w)) := by
 refine run_res (run_pure (fn := g46) rfl rfl (by decide) ?_)
 simp only [g46, b46, zO, zN, zM, zL, zG, zP, zQ, zI, zA, zT, zF, zB, zC, zD, zE, zH, zJ, zK]
 have f1 := f37 w.c
 have f2 := f38 w.v (by unfold Sm at hw; omega)
 rw [okW_eq]
 obtain ⟨c, id, g, v⟩ := w
 simp only at *
 cases hc : collB c
 ·rw [hc] at f1
  simp +contextual -implicitDefEqProofs (maxSteps := 2000000) only [↓wP, wS, seval, wrV_eq, f1]
 ·rw [hc] at f1
  cases g
  ·cases ho : okV v
   ·rw [ho] at f2
    simp +contextual -implicitDefEqProofs (maxSteps := 2000000) only [↓wP, wS, seval, wrV_eq, f1, f2]
   ·rw [ho] at f2
    simp +contextual -implicitDefEqProofs (maxSteps := 2000000) only [↓wP, wS, seval, wrV_eq, f1, f2]
  ·by_cases hl : (lst v).length = 0
   ·have hl' : (((lst v).length : Int) == 0) = true := by simp [hl]
    simp +contextual -implicitDefEqProofs (maxSteps := 2000000) only [↓wP, wS, seval, wrV_eq, f1, f2, hl']
    simp [hl]
   ·have hl' : (((lst v).length : Int) == 0) = false := by simp; exact fun h => hl (by rw [h]; rfl)
    simp +contextual -implicitDefEqProofs (maxSteps := 2000000) only [↓wP, wS, seval, wrV_eq, f1, f2, hl']
    simp [hl]
def f46 (w : Wr) (hw : Sm w.v) := callE_tr (by decide) (r46 w hw) (by simp [Tr, Tr_slV]) rfl
def cmpW (a b : Wr) : Int := if cmpU a.c b.c = 0 then cmpU a.id b.id else cmpU a.c b.c
theorem cmpW_lt (a b : Wr) : decide (cmpW a b < 0) = bef a b := by
 unfold cmpW cmpU bef
 by_cases h1 : a.c < b.c
 ·simp [h1]
 ·by_cases h2 : b.c < a.c
  ·have : a.c ≠ b.c := by omega
   simp [h1, h2, this]
  ·have e : a.c = b.c := by omega
   by_cases h3 : a.id < b.id
   ·simp [e, h3]
   ·by_cases h4 : b.id < a.id <;> simp [e, h3, h4]
theorem r47 (a b : Wr) : res T 47 [wrV a, wrV b] = some (.int .i64 (cmpW a b)) := by
 refine run_res (run_pure (fn := g47) rfl rfl (by decide) ?_)
 simp only [g47, b47, zO, zN, zM, zL, zG, zP, zQ, zI, zA, zT, zF, zB, zC, zD, zE, zH, zJ, zK]
 have h26 := r65 (cmpU a.c b.c) (cmpU a.id b.id)
 have hm26 : T.mode 65 ≠ .raw := by decide
 simp +contextual -implicitDefEqProofs (maxSteps := 2000000) only [↓wP, wS, seval, wrV_eq, f43, f66, callE_eq hm26, frz_rf, h26]
 rfl
def f47 (a b : Wr) := callE_tr (by decide) (r47 a b) (by simp [Tr, Tr_slV]) rfl
def SmW (l : Option (List Wr)) : Prop := (lst l).length < 4611686018427387904 ∧ ∀ w ∈ lst l, Sm w.v
end Go.Q.SU
end

section
/- Writes: both checks; keys and times of facts. -/
namespace Go.Q.SU
open Go.Q
theorem r25 (o : Option (List Wr)) (h : SmW o) : res T 25 [slV 4 wrV o] = some (.int .i64 (if rightW (lst o) then 0 else 260)) := by
 refine run_res (run_pure (fn := g25) rfl rfl (by decide) ?_)
 simp only [g25, b25, zO, zN, zM, zL, zG, zP, zQ, zI, zA, zT, zF, zB, zC, zD, zE, zH, zJ, zK]
 have hl := h.1
 obtain ⟨A, hA⟩ : ∃ A, A = decide ((lst o).length ≤ 12) := ⟨_, rfl⟩
 have hA' : decide (((lst o).length : Int) ≤ 12) = A := by rw [hA]; exact decide_eq_decide.2 (by omega)
 simp +contextual -implicitDefEqProofs (maxSteps := 2000000) only [↓wP, wS, seval, hA']
 refine WC_for (lst o).length 0 (fun (j : Nat) env σ n => env 0 = slV 4 wrV o ∧ env 9 = slV 4 wrV o ∧ env 3 = .bool (A && wU (lst o) j)) (by omega) (by decide) (by decide) (fun _ _ => rfl) (fun _ _ _ => rfl) ?_ ?_ _ _ _ rfl rfl ?_
 ·intro j env σ n hj h1 h2 ⟨g1, g2, g3⟩
  simp only [vl_tmp] at h2
  have hx : (lst o)[j]? = some (lst o)[j] := List.getElem?_eq_getElem hj
  have hw := h.2 _ (List.getElem_mem hj)
  have hst := wU_step hj
  obtain ⟨w, hwx⟩ : ∃ w, w = (lst o)[j] := ⟨_, rfl⟩
  rw [← hwx] at hx hw hst
  have f := f46 w hw
  rw [wrV_eq] at f
  have y0 : ∀ σ' : Sto, ∀ hid, hide σ' (n + 1) (n + 1) hid n = σ' n := fun σ' hid => hide_low _ _ _ _ (by omega) (Nat.le_refl _)
  cases hB : (A && wU (lst o) j)
  ·rw [hB] at g3
   have e : (A && wU (lst o) (j + 1)) = false := by rw [hst, ← Bool.and_assoc, hB]; rfl
   simp +contextual -implicitDefEqProofs (maxSteps := 2000000) only [↓wP, wS, seval, h1, h2, g1, g2, g3, hx, wrV_eq]
   rw [e]
  ·rw [hB] at g3
   have e : (A && wU (lst o) (j + 1)) = okN (lst o) j w := by rw [hst, ← Bool.and_assoc, hB, Bool.true_and]
   rw [e]
   cases ho : okW w
   ·rw [ho] at f
    have e2 : okN (lst o) j w = false := by unfold okN; rw [ho]; rfl
    simp +contextual -implicitDefEqProofs (maxSteps := 2000000) only [↓wP, wS, seval, h1, h2, g1, g2, g3, hx, wrV_eq, f]
    rw [e2]
   ·rw [ho] at f
    by_cases hj0 : j = 0
    ·have hz : ((j : Int) == 0) = true := by simp [hj0]
     have e2 : okN (lst o) j w = true := by subst hj0; unfold okN; rw [ho]; rfl
     simp +contextual -implicitDefEqProofs (maxSteps := 2000000) only [↓wP, wS, seval, h1, h2, g1, g2, g3, hx, wrV_eq, f, hz]
     rw [e2]
    ·have hz : ((j : Int) == 0) = false := by simp [hj0]
     have wj : IntKind.i64.wrap ((j : Int) - 1) = ((j - 1 : Nat) : Int) := by rw [wrap_i64] <;> omega
     have hx2 : (lst o)[j - 1]? = some (lst o)[j - 1] := List.getElem?_eq_getElem (by omega)
     obtain ⟨p, hp⟩ : ∃ p, p = (lst o)[j - 1] := ⟨_, rfl⟩
     rw [← hp] at hx2
     have e2 : okN (lst o) j w = decide (cmpW p w < 0) := by
      rw [cmpW_lt]
      obtain ⟨i, rfl⟩ : ∃ i, j = i + 1 := ⟨j - 1, by omega⟩
      unfold okN
      rw [show i + 1 - 1 = i from rfl] at hx2
      simp [hx2, ho]
     have fc := f47 p w
     rw [wrV_eq, wrV_eq] at fc
     simp +contextual -implicitDefEqProofs (maxSteps := 2000000) only [↓wP, wS, seval, h1, h2, g1, g2, g3, hx, hx2, wrV_eq, f, hz, wj, y0, upd_self, fc]
     rw [e2]
 ·intro env σ n ⟨g1, g2, g3⟩ h1 h2
  have e : (A && wU (lst o) (lst o).length) = rightW (lst o) := by rw [hA]; rfl
  rw [e] at g3
  cases hr : rightW (lst o)
  ·rw [hr] at g3
   simp +contextual -implicitDefEqProofs (maxSteps := 2000000) only [↓wP, wS, seval, g3]
  ·rw [hr] at g3
   simp +contextual -implicitDefEqProofs (maxSteps := 2000000) only [↓wP, wS, seval, g3]
 ·simp +contextual -implicitDefEqProofs (maxSteps := 2000000) only [↓wP, wS, seval]
  rw [show wU (lst o) 0 = true from rfl, Bool.and_true]
def f25 (o : Option (List Wr)) (h : SmW o) := callE_tr (by decide) (r25 o h) (by simp [Tr, Tr_slV]) rfl
end Go.Q.SU
end

section
/- Dimensions; the law's own facts and writes. -/
namespace Go.Q.SU
open Go.Q
theorem wr_fz {R : List Wr} : (∀ x ∈ R.map wrV, Tr 11 x = true) ∧ ∀ x ∈ R.map wrV, ∀ c ∈ x.cells, Tr 11 c = true := by
 refine ⟨fun x hx => by obtain ⟨y, -, rfl⟩ := List.mem_map.1 hx; simp [wrV_eq, Tr, Tr_slV], fun x hx c hc => ?_⟩
 obtain ⟨y, -, rfl⟩ := List.mem_map.1 hx
 simp only [wrV_eq, V.cells, List.mem_cons, List.not_mem_nil, or_false] at hc
 rcases hc with rfl | rfl | rfl | rfl
 ·rfl
 ·rfl
 ·rfl
 ·exact Tr_slV _ _ _ _
end Go.Q.SU
end

section
/- The document's copies; which facts and writes are the same. -/
namespace Go.Q.SU
open Go.Q
def cp (v : Vc) : Vc := some (lst v)
theorem fz_vec {σ : Sto} {i : Nat} {L : List Int} (h : σ i = some (.row 1 (L.map i32V))) {S : Nat → Prop} (hS : S i) : Fz σ 11 (.ref i 0 L.length 1) (slV 1 i32V (some L)) S := by
 have := Fz.ref (k := 10) (S := S) h hS (FzL.trees (fun y hy => by obtain ⟨t, -, rfl⟩ := List.mem_map.1 hy; rfl) (fun y hy c hc => by obtain ⟨t, -, rfl⟩ := List.mem_map.1 hy; simp [i32V, V.cells] at hc; subst hc; rfl))
 rw [List.length_map] at this
 exact this
def FitW (l : List Wr) : Prop := l.length ≤ 1000000 ∧ ∀ f ∈ l, (lst f.v).length ≤ 1000000
end Go.Q.SU
end

section
/- Which facts and writes are the same. -/
namespace Go.Q.SU
open Go.Q
def smU {α : Type} (p : α → α → Bool) (l m : List α) : Nat → Bool
 | 0 => true
 | n + 1 => smU p l m n && (match l[n]?, m[n]? with | some f, some g => p f g | _, _ => true)
def sameL {α : Type} (p : α → α → Bool) (l m : List α) : Bool := decide (l.length = m.length) && smU p l m l.length
theorem smU_step {α : Type} {p : α → α → Bool} {l m : List α} {n : Nat} (h : n < l.length) (h' : n < m.length) : smU p l m (n + 1) = (smU p l m n && p l[n] m[n]) := by
 show (smU p l m n && _) = _
 rw [List.getElem?_eq_getElem h, List.getElem?_eq_getElem h']
theorem smU_no {α : Type} {p : α → α → Bool} {l m : List α} {n : Nat} (h : smU p l m n = false) : ∀ k, n ≤ k → smU p l m k = false
 | 0, hm => by have : n = 0 := by omega
               subst this; cases h
 | k + 1, hm => by
   by_cases e : n = k + 1
   ·subst e; exact h
   ·show (smU p l m k && _) = false
    rw [smU_no h k (by omega)]; rfl
theorem sameL_of {α β : Type} {p : α → α → Bool} {q : α → β} (hp : ∀ a b, q a = q b → p a b = true) {l m : List α} (h : l.map q = m.map q) : sameL p l m = true := by
 have hlen : l.length = m.length := by have := congrArg List.length h; simpa using this
 unfold sameL
 rw [decide_eq_true hlen, Bool.true_and]
 have : ∀ n, n ≤ l.length → smU p l m n = true := by
  intro n
  induction n with
  | zero => intro _; rfl
  | succ n ih =>
    intro hn
    rw [smU_step (by omega) (by omega), ih (by omega), Bool.true_and]
    refine hp _ _ ?_
    have h1 := congrArg (fun z => z[n]?) h
    simp only [List.getElem?_map, List.getElem?_eq_getElem (show n < l.length by omega), List.getElem?_eq_getElem (show n < m.length by omega), Option.map_some, Option.some.injEq] at h1
    exact h1
 exact this _ (Nat.le_refl _)
end Go.Q.SU
end

section
/- What a transaction sees; the document's answers. -/
namespace Go.Q.SU
open Go.Q
def fdV (o : Option Wr) : V := .tup [match o with | some x => wrV x | none => .agg [.int .i64 0, .int .u64 0, .bool false, .nilS], .bool o.isSome]
end Go.Q.SU
end

section
/- Writes are looked for by halves. -/
namespace Go.Q.SU
open Go.Q
theorem b_shrU (m k : Nat) (hk : k < 64) : binV .shr (.int .u64 (m : Int)) (.int .u64 (k : Int)) = some (.int .u64 ((m / 2 ^ k : Nat) : Int)) := by
 have h0 : ¬ ((k : Int) < 0) := by omega
 have hm : min ((k : Int).toNat) IntKind.u64.bits = k := by
  show min (k : Int).toNat 64 = k
  omega
 have hf : (m : Int).fdiv (2 ^ k) = ((m / 2 ^ k : Nat) : Int) := by
  rw [Int.fdiv_eq_ediv_of_nonneg _ (by exact_mod_cast Nat.zero_le _)]
  norm_cast
 simp only [binV, pureV, Go.binOp, Op.shift, h0, if_false, hm, hf]
 rfl
def bsF (l : List Wr) (k : Wr) : Nat → Nat → Nat → Nat
 | 0, i, _ => i
 | f + 1, i, j => if i < j then (match l[(i + j) / 2]? with
  | some x => if bef x k = true then bsF l k f ((i + j) / 2 + 1) j else bsF l k f i ((i + j) / 2)
  | none => i) else i
def bsP (l : List Wr) (k : Wr) : Nat := bsF l k l.length 0 l.length
def bsB (l : List Wr) (k : Wr) : Bool := match l[bsP l k]? with
 | some x => cmpW x k == 0
 | none => false
theorem bsF_le (l : List Wr) (k : Wr) : ∀ (f i j : Nat), i ≤ j → bsF l k f i j ≤ j ∧ i ≤ bsF l k f i j
 | 0, i, j, h => ⟨h, Nat.le_refl _⟩
 | f + 1, i, j, h => by
   simp only [bsF]
   split
   ·split
    ·split
     ·have := bsF_le l k f ((i + j) / 2 + 1) j (by omega); omega
     ·have := bsF_le l k f i ((i + j) / 2) (by omega); omega
    ·omega
   ·omega
theorem bsP_le (l : List Wr) (k : Wr) : bsP l k ≤ l.length := (bsF_le l k _ 0 _ (Nat.zero_le _)).1
theorem bsF_end (l : List Wr) (k : Wr) (f i : Nat) : bsF l k f i i = i := by cases f <;> simp [bsF]
theorem r49 (o : Option (List Wr)) (k : Wr) (hl : (lst o).length ≤ 1000000) : res T 49 [slV 4 wrV o, wrV k, .fn 47 []] = some (.tup [.int .i64 (bsP (lst o) k : Int), .bool (bsB (lst o) k)]) := by
 refine run_res (run_pure (fn := g49) rfl rfl (by decide) ?_)
 simp only [g49, b49, zO, zN, zM, zL, zG, zP, zQ, zI, zA, zT, zF, zB, zC, zD, zE, zH, zJ, zK]
 have hP := bsP_le (lst o) k
 obtain ⟨P, hP'⟩ : ∃ P, P = bsP (lst o) k := ⟨_, rfl⟩
 have hB : bsB (lst o) k = (match (lst o)[P]? with | some x => cmpW x k == 0 | none => false) := by rw [hP']; rfl
 rw [hB, ← hP']
 rw [← hP'] at hP
 have h0 : bsF (lst o) k (lst o).length 0 (lst o).length = P := hP'.symm
 clear hP' hB
 simp +contextual -implicitDefEqProofs (maxSteps := 2000000) only [↓wP, wS, seval, wrV_eq]
 refine WC_loopE 0 0 (fun (a : Nat × Nat) env σ n => env 0 = slV 4 wrV o ∧ env 2 = .fn 47 [] ∧ env 4 = .ptr 0 4 0 0 ∧ env 8 = .int .i64 ((lst o).length : Int) ∧ env 9 = .int .i64 (a.1 : Int) ∧ env 10 = .int .i64 (a.2 : Int) ∧ 1 ≤ n ∧ σ 0 = some (.row 4 [wrV k]) ∧
  a.1 ≤ a.2 ∧ a.2 ≤ (lst o).length ∧ ∃ f, a.2 - a.1 ≤ f ∧ bsF (lst o) k f a.1 a.2 = P) (fun a => a.2 - a.1)
  (fun env σ n => env 0 = slV 4 wrV o ∧ env 2 = .fn 47 [] ∧ env 4 = .ptr 0 4 0 0 ∧ env 8 = .int .i64 ((lst o).length : Int) ∧ env 9 = .int .i64 (P : Int) ∧ 1 ≤ n ∧ σ 0 = some (.row 4 [wrV k])) ?_ ?_ (0, (lst o).length) _ _ _ ?_
 ·intro ⟨i, j⟩ env σ n ⟨e0, e2, e4, e8, e9, e10, hn, s0, hij, hjl, f, hf, hP⟩
  simp only at e9 e10 hij hjl hf hP ⊢
  by_cases hlt : i < j
  ·have hd : decide ((i : Int) < (j : Int)) = true := decide_eq_true (by omega)
   have hw1 : IntKind.i64.wrap ((i : Int) + (j : Int)) = ((i + j : Nat) : Int) := by rw [wrap_i64] <;> omega
   have hw2 : IntKind.u64.wrap ((i + j : Nat) : Int) = ((i + j : Nat) : Int) := by rw [wrap_u64] <;> omega
   have hsh : binV .shr (.int .u64 ((i + j : Nat) : Int)) (.int .u64 1) = some (.int .u64 (((i + j) / 2 ^ 1 : Nat) : Int)) := b_shrU (i + j) 1 (by decide)
   rw [Nat.pow_one] at hsh
   have hw3 : IntKind.i64.wrap (((i + j) / 2 : Nat) : Int) = (((i + j) / 2 : Nat) : Int) := by rw [wrap_i64] <;> omega
   have hw4 : IntKind.i64.wrap ((((i + j) / 2 : Nat) : Int) + 1) = (((i + j) / 2 + 1 : Nat) : Int) := by rw [wrap_i64] <;> omega
   obtain ⟨h, hh⟩ : ∃ h, h = (i + j) / 2 := ⟨_, rfl⟩
   rw [← hh] at hsh hw3 hw4
   have hhl : h < (lst o).length := by omega
   have hx : (lst o)[h]? = some (lst o)[h] := List.getElem?_eq_getElem hhl
   have c := f47 (lst o)[h] k
   have hlt0 := cmpW_lt (lst o)[h] k
   obtain ⟨f', rfl⟩ : ∃ f', f = f' + 1 := ⟨f - 1, by omega⟩
   simp only [bsF, hlt, if_true, ← hh, hx] at hP
   generalize (lst o)[h] = x at *
   have y0 : ∀ hid, hide σ n n hid 0 = σ 0 := fun hid => hide_low _ _ _ _ (by omega) (Nat.le_refl _)
   have s0' := s0
   rw [wrV_eq] at s0'
   rw [wrV_eq, wrV_eq] at c
   cases hb : bef x k
   ·rw [hb] at hlt0 hP
    rw [if_neg (by simp)] at hP
    simp +contextual -implicitDefEqProofs (maxSteps := 2000000) only [↓wP, wS, seval, exQ_exit, e0, e2, e4, e8, e9, e10, hd, hw1, hw2, hsh, hw3, hx, wrV_eq, y0, s0', c, hlt0]
    exact ⟨(i, h), by simp only; omega, rfl, rfl, hn, by simp only; omega, by simp only; omega, f', by simp only; omega, hP⟩
   ·rw [hb] at hlt0 hP
    rw [if_pos rfl] at hP
    simp +contextual -implicitDefEqProofs (maxSteps := 2000000) only [↓wP, wS, seval, exQ_exit, e0, e2, e4, e8, e9, e10, hd, hw1, hw2, hsh, hw3, hw4, hx, wrV_eq, y0, s0', c, hlt0]
    exact ⟨(h + 1, j), by simp only; omega, rfl, rfl, hn, by simp only; omega, by simp only; omega, f', by simp only; omega, hP⟩
  ·have hd : decide ((i : Int) < (j : Int)) = false := decide_eq_false (by omega)
   have : i = j := by omega
   subst this
   rw [bsF_end] at hP
   subst hP
   simp +contextual -implicitDefEqProofs (maxSteps := 2000000) only [↓wP, wS, seval, exQ_exit, e0, e2, e4, e8, e9, e10, hd, wrV_eq]
   exact ⟨hn, by rw [s0, wrV_eq]⟩
 ·intro env σ n ⟨e0, e2, e4, e8, e9, hn, s0⟩
  have y0 : ∀ hid, hide σ n n hid 0 = σ 0 := fun hid => hide_low _ _ _ _ (by omega) (Nat.le_refl _)
  have s0' := s0
  rw [wrV_eq] at s0'
  by_cases hlt : P < (lst o).length
  ·have hd : decide ((P : Int) < ((lst o).length : Int)) = true := decide_eq_true (by omega)
   have hx : (lst o)[P]? = some (lst o)[P] := List.getElem?_eq_getElem hlt
   have c := f47 (lst o)[P] k
   rw [hx]
   generalize (lst o)[P] = x at *
   rw [wrV_eq, wrV_eq] at c
   simp +contextual -implicitDefEqProofs (maxSteps := 2000000) only [↓wP, wS, seval, e0, e2, e4, e8, e9, hd, hx, wrV_eq, y0, s0', c]
  ·have hd : decide ((P : Int) < ((lst o).length : Int)) = false := decide_eq_false (by omega)
   have hx : (lst o)[P]? = none := List.getElem?_eq_none (by omega)
   rw [hx]
   simp +contextual -implicitDefEqProofs (maxSteps := 2000000) only [↓wP, wS, seval, e0, e2, e4, e8, e9, hd, wrV_eq]
 ·refine ⟨rfl, rfl, rfl, rfl, rfl, rfl, by omega, rfl, Nat.zero_le _, Nat.le_refl _, (lst o).length, by simp, h0⟩
def f49 (o : Option (List Wr)) (k : Wr) (hl : (lst o).length ≤ 1000000) := callE_tr (by decide) (r49 o k hl) (by simp [Tr, Tr_slV]) rfl
theorem bsF_sp {l : List Wr} {k : Wr} (hs : l.Pairwise fun a b => bef a b = true) : ∀ (f i j : Nat), i ≤ j → j ≤ l.length → j - i ≤ f → (∀ q x, q < i → l[q]? = some x → bef x k = true) → (∀ q x, j ≤ q → l[q]? = some x → bef x k = false) →
 (∀ q x, q < bsF l k f i j → l[q]? = some x → bef x k = true) ∧ ∀ q x, bsF l k f i j ≤ q → l[q]? = some x → bef x k = false
 | 0, i, j, hij, hjl, hf, h1, h2 => by
   have : i = j := by omega
   subst this
   exact ⟨h1, h2⟩
 | f + 1, i, j, hij, hjl, hf, h1, h2 => by
   simp only [bsF]
   by_cases hlt : i < j
   ·rw [if_pos hlt]
    have hh : (i + j) / 2 < l.length := by omega
    have hx : l[(i + j) / 2]? = some l[(i + j) / 2] := List.getElem?_eq_getElem hh
    rw [hx]
    simp only
    cases hb : bef l[(i + j) / 2] k
    ·rw [if_neg (by simp)]
     refine bsF_sp hs f i _ (by omega) (by omega) (by omega) h1 (fun q x hq hqx => ?_)
     by_cases e : q = (i + j) / 2
     ·subst e; rw [hx] at hqx; cases hqx; exact hb
     ·obtain ⟨hql, rfl⟩ := List.getElem?_eq_some_iff.1 hqx
      have := List.pairwise_iff_getElem.1 hs ((i + j) / 2) q hh hql (by omega)
      cases hc : bef l[q] k
      ·rfl
      ·rw [bef_trans this hc] at hb; cases hb
    ·rw [if_pos rfl]
     refine bsF_sp hs f _ j (by omega) hjl (by omega) (fun q x hq hqx => ?_) h2
     by_cases e : q = (i + j) / 2
     ·subst e; rw [hx] at hqx; cases hqx; exact hb
     ·obtain ⟨hql, rfl⟩ := List.getElem?_eq_some_iff.1 hqx
      exact bef_trans (List.pairwise_iff_getElem.1 hs q ((i + j) / 2) hql hh (by omega)) hb
   ·rw [if_neg hlt]
    have : i = j := by omega
    subst this
    exact ⟨h1, h2⟩
theorem bsP_sp {l : List Wr} {k : Wr} (hs : l.Pairwise fun a b => bef a b = true) : (∀ q x, q < bsP l k → l[q]? = some x → bef x k = true) ∧ ∀ q x, bsP l k ≤ q → l[q]? = some x → bef x k = false :=
 bsF_sp hs l.length 0 l.length (Nat.zero_le _) (Nat.le_refl _) (by omega) (fun q x h => by omega) (fun q x h hx => by have := (List.getElem?_eq_some_iff.1 hx).1; omega)
theorem cmp0 (a b : Wr) : (cmpW a b == 0) = (a.c == b.c && a.id == b.id) := by
 unfold cmpW cmpU
 by_cases h1 : a.c < b.c
 ·have : a.c ≠ b.c := by omega
  simp [h1, this]
 ·by_cases h2 : b.c < a.c
  ·have : a.c ≠ b.c := by omega
   simp [h1, h2, this]
  ·have e : a.c = b.c := by omega
   by_cases h3 : a.id < b.id
   ·have : a.id ≠ b.id := by omega
    simp [e, h3, this]
   ·by_cases h4 : b.id < a.id
    ·have : a.id ≠ b.id := by omega
     simp [e, h3, h4, this]
    ·have : a.id = b.id := by omega
     simp [e, this]
theorem bs_find {l : List Wr} {k : Wr} (hs : l.Pairwise fun a b => bef a b = true) : (l.find? fun x => x.c == k.c && x.id == k.id) = if bsB l k = true then l[bsP l k]? else none := by
 obtain ⟨h1, h2⟩ := bsP_sp (k := k) hs
 have hno : ∀ q x, l[q]? = some x → (x.c == k.c && x.id == k.id) = true → q = bsP l k := fun q x hq hx => by
  simp only [Bool.and_eq_true, beq_iff_eq] at hx
  have hbf : bef x k = false := by
   cases hb : bef x k
   ·rfl
   ·exact absurd (by unfold key; rw [hx.1, hx.2]) (bef_key hb)
  have hge : bsP l k ≤ q := by
   by_cases h : q < bsP l k
   ·rw [h1 q x h hq] at hbf; cases hbf
   ·omega
  by_cases e : q = bsP l k
  ·exact e
  ·exfalso
   obtain ⟨hql, rfl⟩ := List.getElem?_eq_some_iff.1 hq
   have hpl : bsP l k < l.length := by omega
   have hp := List.pairwise_iff_getElem.1 hs (bsP l k) q hpl hql (by omega)
   have hk := h2 (bsP l k) _ (Nat.le_refl _) (List.getElem?_eq_getElem hpl)
   have : bef l[bsP l k] k = true := by
    unfold bef at hp ⊢
    rw [← hx.1, ← hx.2]; exact hp
   rw [this] at hk; cases hk
 unfold bsB
 by_cases hpl : bsP l k < l.length
 ·have hx : l[bsP l k]? = some l[bsP l k] := List.getElem?_eq_getElem hpl
  rw [hx]
  simp only [cmp0]
  cases hc : (l[bsP l k].c == k.c && l[bsP l k].id == k.id)
  ·simp only [Bool.false_eq_true, if_false]
   rw [List.find?_eq_none]
   intro x hxm hx2
   obtain ⟨q, hq, rfl⟩ := List.getElem_of_mem hxm
   have := hno q _ (List.getElem?_eq_getElem hq) hx2
   subst this
   rw [hc] at hx2; cases hx2
  ·simp only [if_true]
   rw [List.find?_eq_some_iff_getElem]
   refine ⟨hc, bsP l k, hpl, rfl, fun j hj => ?_⟩
   cases hb : (l[j].c == k.c && l[j].id == k.id)
   ·rfl
   ·have := hno j _ (List.getElem?_eq_getElem (by omega)) hb; omega
 ·have hx : l[bsP l k]? = none := List.getElem?_eq_none (by omega)
  rw [hx]
  simp only [Bool.false_eq_true, if_false]
  rw [List.find?_eq_none]
  intro x hxm hx2
  obtain ⟨q, hq, rfl⟩ := List.getElem_of_mem hxm
  have := hno q _ (List.getElem?_eq_getElem hq) hx2
  omega
end Go.Q.SU
end

section
/- Writes of a caller's own, vectors and all (or no vector). -/
namespace Go.Q.SU
open Go.Q
abbrev Pw := Wr × Option Nat
def vx (x : Pw) : V := match x.2 with | none => .nilS | some k => .ref k 0 (lst x.1.v).length 1
def eV (x : Pw) : V := .agg [.int .i64 x.1.c, .int .u64 x.1.id, .bool x.1.g, vx x]
theorem eV_eq (x : Pw) : eV x = .agg [.int .i64 x.1.c, .int .u64 x.1.id, .bool x.1.g, vx x] := rfl
def okP (σ : Sto) (x : Pw) : Prop := match x.2 with | none => x.1.v = none | some k => x.1.v = some (lst x.1.v) ∧ σ k = some (.row 1 ((lst x.1.v).map i32V))
def idsP (P : List Pw) : List Nat := P.filterMap (·.2)
def vown (w : Wr) : V := match w.v with | none => .nilS | some xs => .own 1 (xs.map i32V)
def ownWr (w : Wr) : V := .agg [.int .i64 w.c, .int .u64 w.id, .bool w.g, vown w]
def ownW' : Option (List Wr) → V
 | none => .nilS
 | some L => .own 4 (L.map ownWr)
theorem okP.loc {σ σ' : Sto} {x : Pw} (h : okP σ x) (hs : ∀ k, x.2 = some k → σ' k = σ k) : okP σ' x := by
 obtain ⟨w, o⟩ := x
 cases o with
 | none => exact h
 | some k => exact ⟨h.1, by rw [hs k rfl]; exact h.2⟩
theorem mem_ids {P : List Pw} {k : Nat} : k ∈ idsP P ↔ ∃ x ∈ P, x.2 = some k := by simp [idsP]
theorem vx_one (x : Pw) : (vx x).one = true := by obtain ⟨w, o⟩ := x; cases o <;> rfl
theorem vx_cells (x : Pw) : (vx x).cells = [vx x] := by obtain ⟨w, o⟩ := x; cases o <;> rfl
theorem giv_vx {σ : Sto} {x : Pw} (h : okP σ x) (k : Nat) : giv σ (k + 2) (vx x) = some (vown x.1) ∧ gids σ (k + 2) (vx x) = (match x.2 with | none => [] | some k => [k]) := by
 obtain ⟨w, o⟩ := x
 cases o with
 | none =>
   have h : w.v = none := h
   constructor
   ·simp only [vx, vown, h]; rfl
   ·rfl
 | some i =>
   obtain ⟨h1, h2⟩ := h
   simp only at h1 h2
   constructor
   ·simp only [vx, vown]
    rw [h1]
    simp only [lst_some]
    simp only [giv, h2, List.length_map, and_self, if_true]
    rw [mapM_id (fun y hy => by obtain ⟨t, -, rfl⟩ := List.mem_map.1 hy; rfl)]
    rfl
   ·simp only [vx, gids, h2]
    rw [List.flatMap_eq_nil_iff.2 fun y hy => List.flatMap_eq_nil_iff.2 fun c hc => ?_]
    obtain ⟨t, -, rfl⟩ := List.mem_map.1 hy
    simp [i32V, V.cells] at hc
    subst hc
    rfl
theorem giv_rows {σ : Sto} (k : Nat) : ∀ {P : List Pw}, (∀ x ∈ P, okP σ x) → (P.map eV).mapM (elemM (giv σ (k + 2))) = some (P.map fun x => ownWr x.1) ∧ ((P.map eV).flatMap fun x => x.cells.flatMap (gids σ (k + 2))) = idsP P
 | [], _ => ⟨rfl, rfl⟩
 | x :: P, h => by
   obtain ⟨g1, g2⟩ := giv_vx (h x List.mem_cons_self) k
   obtain ⟨r1, r2⟩ := giv_rows k (P := P) (fun y hy => h y (List.mem_cons_of_mem _ hy))
   constructor
   ·rw [List.map_cons, List.mapM_cons, r1]
    simp only [eV, elemM, List.mapM_cons, List.mapM_nil, g1]
    rfl
   ·rw [List.map_cons, List.flatMap_cons, r2]
    simp only [eV, V.cells, List.flatMap_cons, List.flatMap_nil, g2]
    obtain ⟨w, o⟩ := x
    cases o <;> rfl
theorem frz_vx {σ : Sto} {x : Pw} (h : okP σ x) (k : Nat) : frz σ (k + 2) (vx x) = some (slV 1 i32V x.1.v) := by
 obtain ⟨w, o⟩ := x
 cases o with
 | none =>
   have h : w.v = none := h
   simp only [vx, h]; rfl
 | some i =>
   obtain ⟨h1, h2⟩ := h
   simp only at h1 h2
   have := (Fz.ref (k := k + 1) (S := fun _ => True) h2 trivial (FzL.trees (fun y hy => by obtain ⟨t, -, rfl⟩ := List.mem_map.1 hy; rfl) (fun y hy c hc => by obtain ⟨t, -, rfl⟩ := List.mem_map.1 hy; simp [i32V, V.cells] at hc; subst hc; rfl))).1
   rw [List.length_map] at this
   show frz σ (k + 2) (.ref i 0 (lst w.v).length 1) = some (slV 1 i32V w.v)
   rw [this]
   rw [h1]; rfl
theorem frz_rows {σ : Sto} (k : Nat) : ∀ {P : List Pw}, (∀ x ∈ P, okP σ x) → (P.map eV).mapM (elemM (frz σ (k + 2))) = some (P.map fun x => wrV x.1)
 | [], _ => rfl
 | x :: P, h => by
   have g1 := frz_vx (h x List.mem_cons_self) k
   have r1 := frz_rows k (P := P) (fun y hy => h y (List.mem_cons_of_mem _ hy))
   rw [List.map_cons, List.mapM_cons, r1]
   simp only [eV, elemM, List.mapM_cons, List.mapM_nil, g1]
   rfl
def Chn (σ : Sto) (m n : Nat) (v : V) (o : Option (List Wr)) : Prop := match o with
 | none => v = .nilS
 | some L => ∃ id P, v = .ref id 0 L.length 4 ∧ P.map (·.1) = L ∧ σ id = some (.row 4 (P.map eV)) ∧ (id :: idsP P).Nodup ∧ (∀ i ∈ id :: idsP P, m ≤ i ∧ i < n) ∧ ∀ x ∈ P, okP σ x
theorem Chn.loc {σ σ' : Sto} {m n m' n' : Nat} {v : V} {o : Option (List Wr)} (h : Chn σ m n v o) (hs : ∀ i, m ≤ i → i < n → σ' i = σ i) (hm : m' ≤ m) (hn : n ≤ n') : Chn σ' m' n' v o := by
 cases o with
 | none => exact h
 | some L =>
   obtain ⟨id, P, rfl, h0, h1, h2, h3, h4⟩ := h
   refine ⟨id, P, rfl, h0, ?_, h2, fun i hi => ⟨by have := (h3 i hi).1; omega, by have := (h3 i hi).2; omega⟩, fun x hx => (h4 x hx).loc fun k hk => ?_⟩
   ·have := h3 id (by simp)
    rw [hs id this.1 this.2, h1]
   ·have := h3 k (List.mem_cons_of_mem _ (mem_ids.2 ⟨x, hx, hk⟩))
    exact hs k this.1 this.2
theorem Chn.giv {σ : Sto} {m n : Nat} {v : V} {o : Option (List Wr)} (h : Chn σ m n v o) (k : Nat) : Go.Q.giv σ (k + 3) v = some (ownW' o) ∧ (gids σ (k + 3) v).Nodup := by
 cases o with
 | none => simp only [Chn] at h; subst h; exact ⟨rfl, by simp [gids]⟩
 | some L =>
   obtain ⟨id, P, rfl, h0, h1, h2, h3, h4⟩ := h
   obtain ⟨r1, r2⟩ := giv_rows k h4
   have hl : L.length = (P.map eV).length := by rw [← h0, List.length_map, List.length_map]
   have e : gids σ (k + 3) (.ref id 0 L.length 4) = id :: idsP P := by
    simp only [gids, h1]
    rw [r2]
   refine ⟨?_, by rw [e]; exact h2⟩
   simp only [Go.Q.giv, h1, hl, and_self, if_true, r1]
   rw [← h0]
   simp [ownW']
theorem Chn.frz {σ : Sto} {m n : Nat} {v : V} {o : Option (List Wr)} (h : Chn σ m n v o) (k : Nat) : Go.Q.frz σ (k + 3) v = some (slV 4 wrV o) := by
 cases o with
 | none => simp only [Chn] at h; subst h; rfl
 | some L =>
   obtain ⟨id, P, rfl, h0, h1, h2, h3, h4⟩ := h
   have hl : L.length = (P.map eV).length := by rw [← h0, List.length_map, List.length_map]
   rw [frz_rf, h1, elemsO_row, if_pos (by omega), List.drop_zero, hl, List.take_length, Option.bind_some, frz_rows k h4]
   rw [← h0]
   simp [slV]
theorem Chn.cells {σ : Sto} {m n : Nat} {v : V} {o : Option (List Wr)} (h : Chn σ m n v o) : v.cells = [v] := by
 cases o with
 | none => simp only [Chn] at h; subst h; rfl
 | some L => obtain ⟨id, P, rfl, -⟩ := h; rfl
theorem Chn.one {σ : Sto} {m n : Nat} {v : V} {o : Option (List Wr)} (h : Chn σ m n v o) : v.one = true := by
 cases o with
 | none => simp only [Chn] at h; subst h; rfl
 | some L => obtain ⟨id, P, rfl, -⟩ := h; rfl
theorem Chn.lenE {σ : Sto} {m n : Nat} {v : V} {o : Option (List Wr)} (h : Chn σ m n v o) : lenE v = some (.int .i64 ((lst o).length : Int)) := by
 cases o with
 | none => simp only [Chn] at h; subst h; rfl
 | some L => obtain ⟨id, P, rfl, -⟩ := h; rw [lenE_ref]; rfl
theorem idsP_cons (x : Pw) (P : List Pw) : idsP (x :: P) = (match x.2 with | none => [] | some k => [k]) ++ idsP P := by
 obtain ⟨w, o⟩ := x
 cases o <;> rfl
theorem idsP_app (P R : List Pw) : idsP (P ++ R) = idsP P ++ idsP R := by simp [idsP]
theorem thaw_rows : ∀ (L : List Wr) (σ0 : Sto) (n : Nat), ∃ P σ' n', thawL σ0 n (L.map ownWr) = (P.map eV, σ', n') ∧ P.map (·.1) = L ∧ (∀ x ∈ P, okP σ' x) ∧ (idsP P).Nodup ∧ (∀ i ∈ idsP P, n ≤ i ∧ i < n') ∧ n ≤ n' ∧ n' ≤ n + L.length ∧ ∀ i, i < n → σ' i = σ0 i
 | [], σ0, n => ⟨[], σ0, n, rfl, rfl, by simp, by simp [idsP], by simp [idsP], Nat.le_refl _, by simp, fun _ _ => rfl⟩
 | w :: L, σ0, n => by
   cases hv : w.v with
   | none =>
     obtain ⟨P, σ', n', h1, h2, h3, h4, h5, h6, h7, h8⟩ := thaw_rows L σ0 n
     refine ⟨(w, none) :: P, σ', n', ?_, by rw [List.map_cons, h2], fun x hx => ?_, h4, h5, h6, by rw [List.length_cons]; omega, h8⟩
     ·rw [List.map_cons, thawL_cons]
      have e : thaw σ0 n (ownWr w) = (eV (w, none), σ0, n) := by
       simp only [ownWr, vown, hv, thaw_agg, thawL_cons, thawL_nil, thaw_int, thaw_bool, thaw_nilS, eV, vx]
      rw [e, h1]
      rfl
     ·rcases List.mem_cons.1 hx with rfl | hx
      ·exact hv
      ·exact h3 x hx
   | some xs =>
     obtain ⟨P, σ', n', h1, h2, h3, h4, h5, h6, h7, h8⟩ := thaw_rows L (upd σ0 n (some (.row 1 (xs.map i32V)))) (n + 1)
     refine ⟨(w, some n) :: P, σ', n', ?_, by rw [List.map_cons, h2], fun x hx => ?_, List.nodup_cons.2 ⟨fun hn => by have := (h5 n hn).1; omega, h4⟩, fun i hi => ?_, by omega, by rw [List.length_cons]; omega, fun i hi => ?_⟩
     ·rw [List.map_cons, thawL_cons]
      have e : thaw σ0 n (ownWr w) = (eV (w, some n), upd σ0 n (some (.row 1 (xs.map i32V))), n + 1) := by
       have hn : thawL σ0 n (xs.map i32V) = (xs.map i32V, σ0, n) := thawL_nw 1 (fun c hc => by obtain ⟨t, -, rfl⟩ := List.mem_map.1 hc; rfl)
       simp only [ownWr, vown, hv, thaw_agg, thawL_cons, thawL_nil, thaw_int, thaw_bool, thaw_own, hn, eV, vx, List.length_map, lst_some]
      rw [e, h1]
      rfl
     ·rcases List.mem_cons.1 hx with rfl | hx
      ·refine ⟨by rw [hv]; rfl, ?_⟩
       rw [h8 n (by omega), upd_self, hv]; rfl
      ·exact h3 x hx
     ·rcases List.mem_cons.1 (show i ∈ n :: idsP P from hi) with rfl | hi
      ·exact ⟨Nat.le_refl _, by omega⟩
      ·have := h5 i hi; omega
     ·rw [h8 i (by omega), upd_ne (by omega)]
theorem thaw_ownW (σ : Sto) (n : Nat) (o : Option (List Wr)) : ∃ v' σ' n', thaw σ n (ownW' o) = (v', σ', n') ∧ Chn σ' n n' v' o ∧ n ≤ n' ∧ n' ≤ n + (lst o).length + 1 ∧ ∀ i, i < n → σ' i = σ i := by
 cases o with
 | none => exact ⟨_, _, _, rfl, rfl, Nat.le_refl _, by omega, fun _ _ => rfl⟩
 | some L =>
   obtain ⟨P, σ', n', h1, h2, h3, h4, h5, h6, h7, h8⟩ := thaw_rows L σ n
   have hl : P.length = L.length := by rw [← h2, List.length_map]
   refine ⟨.ref n' 0 L.length 4, upd σ' n' (some (.row 4 (P.map eV))), n' + 1, ?_, ⟨n', P, rfl, h2, by simp [upd], List.nodup_cons.2 ⟨fun hn => by have := (h5 n' hn).2; omega, h4⟩, ?_, fun x hx => (h3 x hx).loc fun k hk => ?_⟩, by omega, by rw [lst_some]; omega, fun i hi => ?_⟩
   ·simp only [ownW', thaw_own, h1, List.length_map, hl]
   ·intro i hi
    rcases List.mem_cons.1 hi with rfl | hi
    ·exact ⟨by omega, by omega⟩
    ·have := h5 i hi; omega
   ·have := h5 k (mem_ids.2 ⟨x, hx, hk⟩)
    rw [upd_ne (by omega)]
   ·rw [upd_ne (by omega), h8 i hi]
theorem flatL_all : ∀ {xs : List V}, (∀ x ∈ xs, flat x = true) → flatL xs = true
 | [], _ => rfl
 | x :: xs, h => by
   show (flat x && flatL xs) = true
   rw [h x List.mem_cons_self, flatL_all (fun y hy => h y (List.mem_cons_of_mem _ hy))]; rfl
theorem flat_ownW (o : Option (List Wr)) : flat (ownW' o) = true := by
 cases o with
 | none => rfl
 | some L =>
   show flatL _ = true
   refine flatL_all (fun x hx => ?_)
   obtain ⟨w, -, rfl⟩ := List.mem_map.1 hx
   cases hv : w.v with
   | none => simp only [ownWr, vown, hv]; rfl
   | some xs =>
     simp only [ownWr, vown, hv]
     show (true && (true && (true && (flatL _ && true)))) = true
     rw [flatL_all (fun y hy => by obtain ⟨t, -, rfl⟩ := List.mem_map.1 hy; rfl)]
     rfl
theorem callE_flat {f : Nat} {args ts : List V} {r : V} {σ : Sto} (hm : T.mode f ≠ .raw) (hts : args.mapM (Go.Q.frz σ 12) = some ts) (hr : res T f ts = some r) (hf : flat r = true) (fs : Bool) (n lk : Nat) :
 callE T fs f args σ n lk = some (thaw σ n r) := by
 rw [callE_eq hm, hts, callR_some, hr, retE_some, backE_flat hf]
end Go.Q.SU
end

section
/- A write is laid in its place (rows with vectors of their own). -/
namespace Go.Q.SU
open Go.Q
def PlP (σ : Sto) (n pid : Nat) (lv : V) (P : List Pw) : Prop := (lv = .nilS ∧ P = []) ∨ ∃ id, lv = .ref id 0 P.length 4 ∧ σ id = some (.row 4 (P.map eV)) ∧ (pid :: id :: idsP P).Nodup ∧ (∀ i ∈ id :: idsP P, i < n) ∧ ∀ x ∈ P, okP σ x
def insP' (P : List Pw) (p : Nat) (x : Pw) : List Pw := P.take p ++ x :: P.drop p
def layP (P : List Pw) (p : Nat) (is : Bool) (x : Pw) : List Pw := if is = true then P.set p x else if P.length = 12 then P else insP' P p x
def layE (L : List Pw) (is : Bool) : Int := if is = true then 0 else if L.length = 12 then 6 else 0
def New (σ : Sto) (n pid : Nat) (lv : V) (P : List Pw) (x : Pw) : Prop := okP σ x ∧ ∀ k, x.2 = some k → k < n ∧ k ≠ pid ∧ k ∉ idsP P ∧ ∀ off len s, lv ≠ .ref k off len s
theorem PlP.loc {σ σ' : Sto} {n n' pid : Nat} {lv : V} {P : List Pw} (h : PlP σ n pid lv P) (hs : ∀ i, i < n → i ≠ pid → σ' i = σ i) (hn : n ≤ n') : PlP σ' n' pid lv P := by
 rcases h with ⟨rfl, rfl⟩ | ⟨id, rfl, h1, h2, h3, h4⟩
 ·exact .inl ⟨rfl, rfl⟩
 ·have hp := (List.nodup_cons.1 h2).1
  refine .inr ⟨id, rfl, ?_, h2, fun i hi => by have := h3 i hi; omega, fun x hx => (h4 x hx).loc fun k hk => ?_⟩
  ·rw [hs id (h3 id List.mem_cons_self) (fun e => hp (by rw [← e]; exact List.mem_cons_self))]; exact h1
  ·have hm : k ∈ id :: idsP P := List.mem_cons_of_mem _ (mem_ids.2 ⟨x, hx, hk⟩)
   exact hs k (h3 k hm) (fun e => hp (by rw [← e]; exact hm))
theorem idsP_ins (P : List Pw) (p : Nat) (x : Pw) : (idsP (insP' P p x)).Perm (idsP [x] ++ idsP P) := by
 unfold insP'
 rw [idsP_app, idsP_cons]
 have e : idsP P = idsP (P.take p) ++ idsP (P.drop p) := by rw [← idsP_app, List.take_append_drop]
 rw [e]
 have h1 : idsP [x] = (match x.2 with | none => [] | some k => [k]) := by obtain ⟨w, o⟩ := x; cases o <;> rfl
 rw [h1]
 exact (List.perm_append_comm_assoc _ _ _)
theorem idsP_one (x : Pw) (k : Nat) : k ∈ idsP [x] ↔ x.2 = some k := by simp [idsP]
theorem nodup_ins {P : List Pw} {p : Nat} {x : Pw} {pid id : Nat} (h : (idsP P).Nodup) (hx : ∀ k, x.2 = some k → k ∉ idsP P ∧ k ≠ pid ∧ k ≠ id) (hp : pid ∉ idsP P) (hid : id ∉ idsP P) (hne : pid ≠ id) : (pid :: id :: idsP (insP' P p x)).Nodup := by
 have hpm := idsP_ins P p x
 have hn : (idsP [x] ++ idsP P).Nodup := by
  obtain ⟨w, o⟩ := x
  cases o with
  | none => exact h
  | some k => exact List.nodup_cons.2 ⟨(hx k rfl).1, h⟩
 have hmem : ∀ i, i ∈ idsP (insP' P p x) → x.2 = some i ∨ i ∈ idsP P := fun i hi => by
  rcases List.mem_append.1 (hpm.mem_iff.1 hi) with h | h
  ·exact .inl ((idsP_one x i).1 h)
  ·exact .inr h
 refine List.nodup_cons.2 ⟨fun hm => ?_, List.nodup_cons.2 ⟨fun hm => ?_, hpm.nodup_iff.2 hn⟩⟩
 ·rcases List.mem_cons.1 hm with e | hm
  ·exact hne e
  ·rcases hmem _ hm with e | e
   ·exact (hx _ e).2.1 rfl
   ·exact hp e
 ·rcases hmem _ hm with e | e
  ·exact (hx _ e).2.2 rfl
  ·exact hid e
theorem ok_ins {σ : Sto} {P : List Pw} {p : Nat} {x : Pw} (h : ∀ y ∈ P, okP σ y) (hx : okP σ x) : ∀ y ∈ insP' P p x, okP σ y := by
 intro y hy
 unfold insP' at hy
 rcases List.mem_append.1 hy with h1 | h1
 ·exact h y (List.mem_of_mem_take h1)
 ·rcases List.mem_cons.1 h1 with rfl | h1
  ·exact hx
  ·exact h y (List.mem_of_mem_drop h1)
theorem ins_nil {σ : Sto} {n lk id2 : Nat} {y : V} (h : σ id2 = some (.row 4 [y])) : primE T 69 [.nilS, .int .i64 0, .ref id2 0 1 4] σ n lk = some (.ref n 0 1 4, upd σ n (some (.row 4 [y])), n + 1) := by
 have e : T.prim 69 = some (insP 4 48) := rfl
 unfold primE
 rw [e]
 simp [insP, h]
theorem ins_row {σ : Sto} {n lk id id2 p : Nat} {y : V} {xs : List V} (h : σ id2 = some (.row 4 [y])) (h1 : σ id = some (.row 4 xs)) (hp : p ≤ xs.length) (hlk : lk ≤ id) (hne : id ≠ id2) (hl : xs.length ≤ 1000) :
 primE T 69 [.ref id 0 xs.length 4, .int .i64 (p : Int), .ref id2 0 1 4] σ n lk = some (.ref n 0 (xs.length + 1) 4, upd (upd σ id none) n (some (.row 4 (xs.take p ++ y :: xs.drop p))), n + 1) := by
 have e : T.prim 69 = some (insP 4 48) := rfl
 unfold primE
 rw [e]
 have h2 : (xs.length + 1) * 48 ≤ 140737488355328 := by omega
 have h3 : (p : Int) ≤ (xs.length : Int) := by omega
 simp [insP, h, h1, hlk, hne, h2, h3, hp]
def eraP (P : List Pw) (p : Nat) : List Pw := P.take p ++ P.drop (p + 1)
theorem set_ins {P : List Pw} {p : Nat} (hp : p < P.length) (x : Pw) : P.set p x = insP' (eraP P p) p x := by
 have hl : (P.take p).length = p := by rw [List.length_take]; omega
 unfold insP' eraP
 rw [List.take_append_of_le_length (by omega), List.drop_append_of_le_length (by omega), List.take_of_length_le (by omega), List.drop_of_length_le (by omega), List.nil_append]
 exact List.set_eq_take_append_cons_drop.trans (if_pos hp)
theorem era_sub (P : List Pw) (p : Nat) : (eraP P p).Sublist P := by
 unfold eraP
 have h : (P.drop (p + 1)).Sublist (P.drop p) := by
  rw [← List.drop_drop]
  exact List.drop_sublist _ _
 have := (List.Sublist.refl (P.take p)).append h
 rwa [List.take_append_drop] at this
theorem era_ids (P : List Pw) (p : Nat) : (idsP (eraP P p)).Sublist (idsP P) := (era_sub P p).filterMap _
theorem raw54 {σ : Sto} {n pid : Nat} {lv : V} (w : Pw) (P : List Pw) (p : Nat) (is : Bool) (hp : p ≤ P.length) (his : is = true → p < P.length) (hL : P.length ≤ 1000)
 (h1 : σ pid = some (.row 3 [.agg [lv, .int .i64 (p : Int), .bool is]])) (h2 : PlP σ n pid lv P) (hpn : pid < n) (hw : New σ n pid lv P w) {Q : V → Sto → Nat → Prop}
 (hQ : ∀ lv' σ' n', σ' pid = some (.row 3 [.agg [lv', .int .i64 (p : Int), .bool is]]) → PlP σ' n' pid lv' (layP P p is w) → n ≤ n' → (∀ i, i < n → i ≠ pid → (∀ off len s, lv ≠ .ref i off len s) → σ' i = σ i) → Q (.int .i64 (layE P is)) σ' n') :
 run T (.raw 54 [.ptr pid 3 0 0, eV w] σ n 0) (memQ Q) := by
 refine run_rawE (fn := g54) rfl rfl ?_
 simp only [g54, b54, zO, zN, zM, zL, zG, zP, zQ, zI, zA, zT, zF, zB, zC, zD, zE, zH, zJ, zK]
 have v1 := vx_one w
 have v2 := vx_cells w
 have hne : (n = pid) = False := by simp; omega
 have hne' : (pid = n) = False := by simp; omega
 obtain ⟨W, hW⟩ : ∃ W, W = upd σ n (some (Ob.row 4 [V.agg [V.int IntKind.i64 w.1.c, V.int IntKind.u64 w.1.id, V.bool w.1.g, vx w]])) := ⟨_, rfl⟩
 have wo : ∀ i, i < n → W i = σ i := fun i hi => by rw [hW, upd_ne (by omega)]
 have wn : W n = some (Ob.row 4 [V.agg [V.int IntKind.i64 w.1.c, V.int IntKind.u64 w.1.id, V.bool w.1.g, vx w]]) := by rw [hW, upd_self]
 have wp : W pid = some (.row 3 [.agg [lv, .int .i64 (p : Int), .bool is]]) := by rw [wo _ hpn]; exact h1
 have x0 : ∀ hid, hide W (n + 1) (n + 1) hid pid = W pid := fun hid => hide_low W (n + 1) (n + 1) _ (by omega) (by omega)
 have x1 : ∀ hid, hide W (n + 1) (n + 1) hid n = W n := fun hid => hide_low W (n + 1) (n + 1) _ (by omega) (by omega)
 have hB := big_le
 have x3 : (n + 2 ≤ n + (1 + BIG)) = True := by simp; omega
 obtain ⟨U, hU⟩ : ∃ U, U = merge W (upd W (n + 1) (some (Ob.row 4 [V.agg [V.int IntKind.i64 w.1.c, V.int IntKind.u64 w.1.id, V.bool w.1.g, vx w]]))) (n + 1) := ⟨_, rfl⟩
 have uo : ∀ i, i < n + 1 → U i = W i := fun i hi => by rw [hU, merge_low _ _ _ hi]
 have un : U (n + 1) = some (Ob.row 4 [V.agg [V.int IntKind.i64 w.1.c, V.int IntKind.u64 w.1.id, V.bool w.1.g, vx w]]) := by rw [hU, merge_in _ _ _ (Nat.le_refl _) (by omega), upd_self]
 obtain ⟨hwok, hwk⟩ := hw
 cases is
 ·by_cases h12 : P.length = 12
  ·rcases h2 with ⟨rfl, rfl⟩ | ⟨id, rfl, h3, h4, h5, h6⟩
   ·simp at h12
   ·have hd : ((P.length : Int) == 12) = true := by rw [h12]; rfl
    simp +contextual -implicitDefEqProofs (maxSteps := 2000000) only [↓wP, wS, seval, h1, hd, eV_eq, v1, v2, ← hW, wp]
    have hE : layE P false = 6 := by unfold layE; rw [if_neg (by decide), if_pos h12]
    have hLL : layP P p false w = P := by unfold layP; rw [if_neg (by decide), if_pos h12]
    have := hQ (.ref id 0 P.length 4) W (n + 1) wp (by rw [hLL]; exact PlP.loc (.inr ⟨id, rfl, h3, h4, h5, h6⟩) (fun i hi _ => wo i hi) (by omega)) (by omega) (fun i hi _ _ => wo i hi)
    rw [hE] at this
    exact this
  ·have hE : layE P false = 0 := by unfold layE; rw [if_neg (by decide), if_neg h12]
   have hLL : layP P p false w = insP' P p w := by unfold layP; rw [if_neg (by decide), if_neg h12]
   rw [hE, hLL] at hQ
   rcases h2 with ⟨rfl, rfl⟩ | ⟨id, rfl, h3, h4, h5, h6⟩
   ·have hd : (((0 : Nat) : Int) == 12) = false := rfl
    simp +contextual -implicitDefEqProofs (maxSteps := 2000000) only [↓wP, wS, seval, h1, hd, eV_eq, v1, v2, ← hW, wp, wn, x0, x1, x3, ← hU]
    have hp0 : p = 0 := by simpa using hp
    subst hp0
    have e := ins_nil (n := n + (1 + BIG * 1)) (lk := 0) un
    have x4 : (n + (1 + (BIG * 1 + 1)) ≤ n + (1 + (BIG * 1 + BIG))) = True := by simp; omega
    have wp' : U pid = some (.row 3 [.agg [.nilS, .int .i64 ((0 : Nat) : Int), .bool false]]) := by rw [uo _ (by omega)]; exact wp
    simp only [Int.natCast_zero] at *
    have y1 : (pid = n + (1 + BIG * 1)) = False := by simp; omega
    simp +contextual -implicitDefEqProofs (maxSteps := 2000000) only [↓wP, wS, seval, e, wrS_some, x4, wp', y1]
    refine hQ (.ref (n + (1 + BIG * 1)) 0 1 4) _ _ (by rw [upd_self]) (.inr ⟨n + (1 + BIG * 1), rfl, ?_, ?_, ?_, ?_⟩) (by omega) (fun i hi hip hr => ?_)
    ·rw [upd_ne (by omega), upd_self]; rfl
    ·exact nodup_ins (P := []) (p := 0) (by simp [idsP]) (fun k hk => ⟨by simp [idsP], (hwk k hk).2.1, by have := (hwk k hk).1; omega⟩) (by simp [idsP]) (by simp [idsP]) (by omega)
    ·intro i hi
     rcases List.mem_cons.1 hi with rfl | hi
     ·omega
     ·have hi' : i ∈ idsP [w] := hi
      have := (hwk i ((idsP_one _ _).1 hi')).1; omega
    ·exact ok_ins (P := []) (p := 0) (by simp) (hwok.loc fun k hk => by
      have := hwk k hk
      rw [upd_ne this.2.1, upd_ne (by omega), uo k (by omega), wo k this.1])
    ·rw [upd_ne hip, upd_ne (by omega), uo i (by omega), wo i hi]
   ·have hd : ((P.length : Int) == 12) = false := by simp; omega
    have hpid : pid ∉ id :: idsP P := (List.nodup_cons.1 h4).1
    have hidn : id ∉ idsP P := (List.nodup_cons.1 (List.nodup_cons.1 h4).2).1
    have hnd : (idsP P).Nodup := (List.nodup_cons.1 (List.nodup_cons.1 h4).2).2
    have hidl : id < n := h5 id List.mem_cons_self
    have hpi : pid ≠ id := fun e => hpid (by rw [e]; exact List.mem_cons_self)
    have wi : W id = some (.row 4 (P.map eV)) := by rw [wo _ hidl]; exact h3
    have x2 : ∀ hid, hide W (n + 1) (n + 1) hid id = W id := fun hid => hide_low W (n + 1) (n + 1) _ (by omega) (by omega)
    simp +contextual -implicitDefEqProofs (maxSteps := 2000000) only [↓wP, wS, seval, h1, hd, eV_eq, v1, v2, ← hW, wp, wn, x0, x1, x2, wi, x3, ← hU]
    have hlm : (P.map eV).length = P.length := List.length_map _
    have ui : U id = some (.row 4 (P.map eV)) := by rw [uo _ (by omega)]; exact wi
    have e := ins_row (n := n + (1 + BIG * 1)) (lk := 0) un ui (p := p) (by omega) (Nat.zero_le _) (by omega) (by omega)
    rw [hlm] at e
    have x4 : (n + (1 + (BIG * 1 + 1)) ≤ n + (1 + (BIG * 1 + BIG))) = True := by simp; omega
    have wp' : U pid = some (.row 3 [.agg [.ref id 0 P.length 4, .int .i64 (p : Int), .bool false]]) := by rw [uo _ (by omega)]; exact wp
    have y1 : (pid = n + (1 + BIG * 1)) = False := by simp; omega
    have y2 : (pid = id) = False := by simp; omega
    simp +contextual -implicitDefEqProofs (maxSteps := 2000000) only [↓wP, wS, seval, e, wrS_some, x4, wp', y1, y2]
    have hil : (insP' P p w).length = P.length + 1 := by unfold insP'; simp only [List.length_append, List.length_cons, List.length_take, List.length_drop]; omega
    have hlow : ∀ k, k < n → k ≠ pid → k ≠ id → ∀ (o1 o2 : Option Ob), upd (upd (upd U id none) (n + (1 + BIG * 1)) o1) pid o2 k = σ k := fun k hk h7 h8 o1 o2 => by
     rw [upd_ne h7, upd_ne (by omega), upd_ne h8, uo k (by omega), wo k hk]
    refine hQ (.ref (n + (1 + BIG * 1)) 0 (P.length + 1) 4) _ _ (by rw [upd_self]) (.inr ⟨n + (1 + BIG * 1), by rw [hil], ?_, ?_, ?_, ?_⟩) (by omega) (fun i hi hip hr => ?_)
    ·rw [upd_ne (by omega), upd_self]; unfold insP'; rw [List.map_append, List.map_cons, List.map_take, List.map_drop]; rfl
    ·exact nodup_ins hnd (fun k hk => ⟨(hwk k hk).2.2.1, (hwk k hk).2.1, by have := (hwk k hk).1; omega⟩) (fun h => hpid (List.mem_cons_of_mem _ h)) (fun h => by have := h5 _ (List.mem_cons_of_mem _ h); omega) (by omega)
    ·intro i hi
     rcases List.mem_cons.1 hi with rfl | hi
     ·omega
     ·rcases List.mem_append.1 ((idsP_ins P p w).mem_iff.1 hi) with hi | hi
      ·have := (hwk i ((idsP_one _ _).1 hi)).1; omega
      ·have := h5 i (List.mem_cons_of_mem _ hi); omega
    ·refine ok_ins (fun y hy => (h6 y hy).loc fun k hk => ?_) (hwok.loc fun k hk => ?_)
     ·have hm := mem_ids.2 ⟨y, hy, hk⟩
      exact hlow k (h5 k (List.mem_cons_of_mem _ hm)) (fun e => hpid (by rw [← e]; exact List.mem_cons_of_mem _ hm)) (fun e => hidn (by rw [← e]; exact hm)) _ _
     ·have := hwk k hk
      exact hlow k this.1 this.2.1 (fun e => this.2.2.2 0 P.length 4 (by rw [e])) _ _
    ·exact hlow i hi hip (fun e => hr 0 P.length 4 (by rw [e])) _ _
 ·have hE : layE P true = 0 := by unfold layE; rw [if_pos rfl]
  have hLL : layP P p true w = P.set p w := by unfold layP; rw [if_pos rfl]
  rw [hE, hLL] at hQ
  rcases h2 with ⟨rfl, rfl⟩ | ⟨id, rfl, h3, h4, h5, h6⟩
  ·simp at his
  ·have hpl := his rfl
   have hpid : pid ∉ id :: idsP P := (List.nodup_cons.1 h4).1
   have hidn : id ∉ idsP P := (List.nodup_cons.1 (List.nodup_cons.1 h4).2).1
   have hnd : (idsP P).Nodup := (List.nodup_cons.1 (List.nodup_cons.1 h4).2).2
   have hidl : id < n := h5 id List.mem_cons_self
   have hpi : pid ≠ id := fun e => hpid (by rw [e]; exact List.mem_cons_self)
   have wi : W id = some (.row 4 (P.map eV)) := by rw [wo _ hidl]; exact h3
   simp +contextual -implicitDefEqProofs (maxSteps := 2000000) only [↓wP, wS, seval, h1, eV_eq, v1, v2, ← hW, wp, wn, wi, hpl]
   have hx : (P.map eV)[p]? = some (eV P[p]) := by rw [List.getElem?_map, List.getElem?_eq_getElem hpl]; rfl
   have v3 := vx_one P[p]
   have v4 := vx_cells P[p]
   have a1 : (n = id) = False := by simp; omega
   rw [eV_eq] at hx
   simp +contextual -implicitDefEqProofs (maxSteps := 2000000) only [↓wP, wS, seval, hx, v1, v2, v3, v4]
   have hes := era_ids P p
   have hst := set_ins hpl w
   refine hQ (.ref id 0 P.length 4) _ _ (by rw [upd_ne hpi]; exact wp) (.inr ⟨id, by rw [List.length_set], ?_, ?_, ?_, ?_⟩) (by omega) (fun i hi hip hr => ?_)
   ·rw [upd_self, List.map_set]; rfl
   ·rw [hst]
    exact nodup_ins (hes.nodup hnd) (fun k hk => ⟨fun h => (hwk k hk).2.2.1 (hes.subset h), (hwk k hk).2.1, fun e => (hwk k hk).2.2.2 0 P.length 4 (by rw [e])⟩) (fun h => hpid (List.mem_cons_of_mem _ (hes.subset h))) (fun h => hidn (hes.subset h)) hpi
   ·intro i hi
    rcases List.mem_cons.1 hi with rfl | hi
    ·omega
    ·rw [hst] at hi
     rcases List.mem_append.1 ((idsP_ins _ p w).mem_iff.1 hi) with hi | hi
     ·have := (hwk i ((idsP_one _ _).1 hi)).1; omega
     ·have := h5 i (List.mem_cons_of_mem _ (hes.subset hi)); omega
   ·rw [hst]
    refine ok_ins (fun y hy => (h6 y ((era_sub P p).subset hy)).loc fun k hk => ?_) (hwok.loc fun k hk => ?_)
    ·have hm := mem_ids.2 ⟨y, (era_sub P p).subset hy, hk⟩
     rw [upd_ne (fun e => hidn (by rw [← e]; exact hm)), wo k (h5 k (List.mem_cons_of_mem _ hm))]
    ·rw [upd_ne (fun e => (hwk k hk).2.2.2 0 P.length 4 (by rw [e])), wo k (hwk k hk).1]
   ·rw [upd_ne (fun e => hr 0 P.length 4 (by rw [e])), wo i hi]
end Go.Q.SU
end

section
/- What is done to a copy of writes (rows with vectors of their own). -/
namespace Go.Q.SU
open Go.Q
theorem raw53 {σ : Sto} {n pid rb wb : Nat} {lv : V} (r : Rw) (w : Pw) (P : List Pw) (p : Nat) (is : Bool) (hr : (lst r.v).length < 9223372036854775808) (hp : p ≤ P.length) (his : is = true → p < P.length) (hL : P.length ≤ 1000)
 (hrb : σ rb = some (.row 2 [.agg [.int .u64 r.id, slV 1 i32V r.v]])) (hwb : σ wb = some (.row 4 [eV w]))
 (h1 : σ pid = some (.row 3 [.agg [lv, .int .i64 (p : Int), .bool is]])) (h2 : PlP σ n pid lv P) (hpn : pid < n) (hw : New σ n pid lv P w) {Q : V → Sto → Nat → Prop}
 (hbad : okV r.v = false → Q (.int .i64 150) σ n)
 (hQ : okV r.v = true → ∀ lv' σ' n', σ' pid = some (.row 3 [.agg [lv', .int .i64 (p : Int), .bool is]]) → PlP σ' n' pid lv' (layP P p is w) → n ≤ n' → (∀ i, i < n → i ≠ pid → (∀ off len s, lv ≠ .ref i off len s) → σ' i = σ i) → Q (.int .i64 (layE P is)) σ' n') :
 run T (.raw 53 [.ptr pid 3 0 0, .ptr rb 2 0 0, .ptr wb 4 0 0] σ n 0) (memQ Q) := by
 refine run_rawE (fn := g53) rfl rfl ?_
 simp only [g53, b53, zO, zN, zM, zL, zG, zP, zQ, zI, zA, zT, zF, zB, zC, zD, zE, zH, zJ, zK]
 have f38' := f38 r.v hr
 have v1 := vx_one w
 have v2 := vx_cells w
 rw [eV_eq] at hwb
 cases hv : okV r.v
 ·rw [hv] at f38'
  simp only [Bool.false_eq_true, if_false] at f38'
  have z : ((150 : Int) != 0) = true := rfl
  simp +contextual -implicitDefEqProofs (maxSteps := 2000000) only [↓wP, wS, seval, f38', z, hrb]
  exact hbad hv
 ·rw [hv] at f38'
  simp only [if_true] at f38'
  have z : ((0 : Int) != 0) = false := rfl
  simp +contextual -implicitDefEqProofs (maxSteps := 2000000) only [↓wP, wS, seval, f38', z, hrb, hwb, v1, v2]
  rw [← eV_eq]
  refine stepW_raw (by decide) (raw54 w P p is hp his hL h1 h2 hpn hw (fun lv' σ' n' q1 q2 q3 q4 => ?_))
  simp +contextual -implicitDefEqProofs (maxSteps := 2000000) only [↓wP, wS, seval]
  exact hQ hv lv' σ' n' q1 q2 q3 q4
def sawD (P : List Pw) (p : Nat) (is there : Bool) : Bool := if is = true then (match P[p]? with | some x => !x.1.g | none => there) else there
def delPE (P : List Pw) (p : Nat) (is there : Bool) : Int := if sawD P p is there = false then 4 else if there = false then 0 else layE P is
def goneP (c id : Int) : Pw := (⟨c, id, true, none⟩, none)
def delPP (P : List Pw) (p : Nat) (is there : Bool) (c id : Int) : List Pw := if sawD P p is there = false then P else if there = false then eraP P p else layP P p is (goneP c id)
theorem del_row {σ : Sto} {n lk id p : Nat} {xs : List V} (h1 : σ id = some (.row 4 xs)) (hp : p < xs.length) (hlk : lk ≤ id) (hl : xs.length ≤ 1000) :
 primE T 56 [.ref id 0 xs.length 4, .int .i64 (p : Int), .int .i64 ((p + 1 : Nat) : Int)] σ n lk = some (.ref n 0 (xs.length - 1) 4, upd (upd σ id none) n (some (.row 4 (xs.take p ++ xs.drop (p + 1)))), n + 1) := by
 have e : T.prim 56 = some (delP 4 48) := rfl
 unfold primE
 rw [e]
 have h2 : xs.length * 48 ≤ 140737488355328 := by omega
 simp [delP, h1, hlk, h2, hp]
theorem raw55 {σ : Sto} {n pid tb kb : Nat} {lv : V} (c id' : Int) (g : Bool) (kv : V) (there : Bool) (P : List Pw) (p : Nat) (is : Bool) (hp : p ≤ P.length) (his : is = true → p < P.length) (hL : P.length ≤ 1000)
 (htb : σ tb = some (.row 1 [.bool there])) (hkb : σ kb = some (.row 4 [.agg [.int .i64 c, .int .u64 id', .bool g, kv]])) (hkv : kv.one = true)
 (h1 : σ pid = some (.row 3 [.agg [lv, .int .i64 (p : Int), .bool is]])) (h2 : PlP σ n pid lv P) (hpn : pid < n) {Q : V → Sto → Nat → Prop}
 (hQ : ∀ lv' σ' n', σ' pid = some (.row 3 [.agg [lv', .int .i64 (p : Int), .bool is]]) → PlP σ' n' pid lv' (delPP P p is there c id') → n ≤ n' → (∀ i, i < n → i ≠ pid → (∀ off len s, lv ≠ .ref i off len s) → σ' i = σ i) → Q (.int .i64 (delPE P p is there)) σ' n') :
 run T (.raw 55 [.ptr pid 3 0 0, .ptr tb 1 0 0, .ptr kb 4 0 0] σ n 0) (memQ Q) := by
 refine run_rawE (fn := g55) rfl rfl ?_
 simp only [g55, b55, zO, zN, zM, zL, zG, zP, zQ, zI, zA, zT, zF, zB, zC, zD, zE, zH, zJ, zK]
 have same : delPE P p is there = 4 → delPP P p is there c id' = P → Q (.int .i64 4) σ n := fun e1 e2 => by
  have := hQ lv σ n h1 (by rw [e2]; exact h2) (Nat.le_refl _) (fun _ _ _ _ => rfl)
  rw [e1] at this
  exact this
 have hw : eV (goneP c id') = .agg [.int .i64 c, .int .u64 id', .bool true, .nilS] := rfl
 have hnew : New σ n pid lv P (goneP c id') := ⟨rfl, fun k hk => by cases hk⟩
 cases is
 ·cases there
  ·simp +contextual -implicitDefEqProofs (maxSteps := 2000000) only [↓wP, wS, seval, h1, htb]
   exact same rfl rfl
  ·simp +contextual -implicitDefEqProofs (maxSteps := 2000000) only [↓wP, wS, seval, h1, htb, hkb]
   rw [← hw]
   refine stepW_raw (by decide) (raw54 (goneP c id') P p false hp his hL h1 h2 hpn hnew (fun lv' σ' n' q1 q2 q3 q4 => ?_))
   simp +contextual -implicitDefEqProofs (maxSteps := 2000000) only [↓wP, wS, seval]
   exact hQ lv' σ' n' q1 q2 q3 q4
 ·have hpl := his rfl
  have hx : P[p]? = some P[p] := List.getElem?_eq_getElem hpl
  have hxm : (P.map eV)[p]? = some (eV P[p]) := by rw [List.getElem?_map, hx]; rfl
  rw [eV_eq] at hxm
  have v3 := vx_one P[p]
  have v4 := vx_cells P[p]
  have hsaw : ∀ b, sawD P p true b = !(P[p]).1.g := fun b => by unfold sawD; rw [if_pos rfl, hx]
  have hlm : (P.map eV).length = P.length := List.length_map _
  rcases h2 with ⟨rfl, rfl⟩ | ⟨id, rfl, h3, h4, h5, h6⟩
  ·simp at hpl
  have hpid : pid ∉ id :: idsP P := (List.nodup_cons.1 h4).1
  have hidn : id ∉ idsP P := (List.nodup_cons.1 (List.nodup_cons.1 h4).2).1
  have hnd : (idsP P).Nodup := (List.nodup_cons.1 (List.nodup_cons.1 h4).2).2
  have hidl : id < n := h5 id List.mem_cons_self
  have hpi : pid ≠ id := fun e => hpid (by rw [e]; exact List.mem_cons_self)
  cases hg : (P[p]).1.g
  ·rw [hg] at hsaw hxm
   cases there
   ·have wj : IntKind.i64.wrap ((p : Int) + 1) = ((p + 1 : Nat) : Int) := by rw [wrap_i64] <;> omega
    have e := del_row (n := n) (lk := 0) h3 (p := p) (by omega) (Nat.zero_le _) (by omega)
    rw [hlm] at e
    have y2 : (pid = id) = False := by simp; omega
    have hB := big_le
    have x3 : (n + 1 ≤ n + BIG) = True := by simp; omega
    have y1 : (pid = n) = False := by simp; omega
    have e1 : delPE P p true false = 0 := by unfold delPE; rw [hsaw]; rfl
    have e2 : delPP P p true false c id' = eraP P p := by unfold delPP; rw [hsaw]; rfl
    have hdl : (eraP P p).length = P.length - 1 := by unfold eraP; simp only [List.length_append, List.length_take, List.length_drop]; omega
    have hes := era_ids P p
    rw [e1, e2] at hQ
    simp +contextual -implicitDefEqProofs (maxSteps := 2000000) only [↓wP, wS, seval, h1, htb, h3, hpl, hxm, v3, v4, wj, e, y2, y1, x3]
    refine hQ (.ref n 0 (P.length - 1) 4) _ _ (by rw [upd_self]) (.inr ⟨n, by rw [hdl], ?_, ?_, ?_, ?_⟩) (by omega) (fun i hi hip hr => ?_)
    ·rw [upd_ne (by omega), upd_self]; unfold eraP; rw [List.map_append, List.map_take, List.map_drop]
    ·refine List.nodup_cons.2 ⟨fun hm => ?_, List.nodup_cons.2 ⟨fun hm => ?_, hes.nodup hnd⟩⟩
     ·rcases List.mem_cons.1 hm with e | hm
      ·omega
      ·exact hpid (List.mem_cons_of_mem _ (hes.subset hm))
     ·have := h5 _ (List.mem_cons_of_mem _ (hes.subset hm)); omega
    ·intro i hi
     rcases List.mem_cons.1 hi with rfl | hi
     ·omega
     ·have := h5 i (List.mem_cons_of_mem _ (hes.subset hi)); omega
    ·refine fun y hy => (h6 y ((era_sub P p).subset hy)).loc fun k hk => ?_
     have hm := mem_ids.2 ⟨y, (era_sub P p).subset hy, hk⟩
     have hkn := h5 k (List.mem_cons_of_mem _ hm)
     rw [upd_ne (fun e => hpid (by rw [← e]; exact List.mem_cons_of_mem _ hm)), upd_ne (by omega), upd_ne (fun e => hidn (by rw [← e]; exact hm))]
    ·rw [upd_ne hip, upd_ne (by omega), upd_ne (fun e => hr 0 P.length 4 (by rw [e]))]
   ·have e1 : delPE P p true true = layE P true := by unfold delPE; rw [hsaw]; rfl
    have e2 : delPP P p true true c id' = layP P p true (goneP c id') := by unfold delPP; rw [hsaw]; rfl
    rw [e1, e2] at hQ
    simp +contextual -implicitDefEqProofs (maxSteps := 2000000) only [↓wP, wS, seval, h1, htb, hkb, h3, hpl, hxm, v3, v4]
    rw [← hw]
    refine stepW_raw (by decide) (raw54 (goneP c id') P p true hp his hL h1 (.inr ⟨id, rfl, h3, h4, h5, h6⟩) hpn hnew (fun lv' σ' n' q1 q2 q3 q4 => ?_))
    simp +contextual -implicitDefEqProofs (maxSteps := 2000000) only [↓wP, wS, seval]
    exact hQ lv' σ' n' q1 q2 q3 q4
  ·rw [hg] at hsaw hxm
   simp +contextual -implicitDefEqProofs (maxSteps := 2000000) only [↓wP, wS, seval, h1, htb, h3, hpl, hxm, v3, v4]
   refine same ?_ ?_
   ·unfold delPE; rw [hsaw]; rfl
   ·unfold delPP; rw [hsaw]; rfl
end Go.Q.SU
end

section
/- Clones of one's own. -/
namespace Go.Q.SU
open Go.Q
def ownV : Vc → V
 | none => .nilS
 | some xs => .own 1 (xs.map i32V)
theorem r40 (v : Vc) (h : (lst v).length ≤ 1000000) : res T 40 [slV 1 i32V v] = some (ownV v) := by
 refine run_res (run_own (fn := g40) rfl rfl (by decide) ?_)
 simp only [g40, b40, zO, zN, zM, zL, zG, zP, zQ, zI, zA, zT, zF, zB, zC, zD, zE, zH, zJ, zK]
 cases v with
 | none =>
   simp +contextual -implicitDefEqProofs (maxSteps := 2000000) only [↓wP, wS, seval, slV_none, Option.isNone_none, ownV]
   exact ⟨rfl, by simp [gids]⟩
 | some l =>
   rw [lst_some] at h
   have hl : (l.map i32V).length * 4 ≤ LIM := by rw [List.length_map]; unfold LIM; omega
   have ho : ownV (some l) = .own 1 (l.map i32V) := rfl
   rw [ho]
   simp +contextual -implicitDefEqProofs (maxSteps := 2000000) only [↓wP, wS, seval, slV_some, hl, true_or]
   have := giv_row (σ := upd (upd (upd Sto.empty 0 (some (Ob.row 1 []))) 0 none) 1 (some (Ob.row 1 (l.map i32V)))) (id := 1) (sz := 1) (xs := l.map i32V) (by simp [upd])
    (fun x hx => by obtain ⟨t, -, rfl⟩ := List.mem_map.1 hx; rfl) (fun x hx c hc => by obtain ⟨t, -, rfl⟩ := List.mem_map.1 hx; simp [i32V, V.cells] at hc; subst hc; rfl)
   simpa using this
theorem f40n (fs : Bool) (σ : Sto) (n lk : Nat) : callE T fs 40 [.nilS] σ n lk = some (.nilS, σ, n) := callE_tr (T := T) (f := 40) (by decide) (r40 none (by simp [lst])) (by simp [Tr, Tr_slV]) rfl fs σ n lk
theorem f40s (l : List Int) (h : l.length ≤ 1000000) (fs : Bool) (σ : Sto) (n lk : Nat) : callE T fs 40 [slV 1 i32V (some l)] σ n lk = some (.ref n 0 l.length 1, upd σ n (some (.row 1 (l.map i32V))), n + 1) := by
 have := callE_own (T := T) (f := 40) (sz := 1) (xs := l.map i32V) (by decide) (r40 (some l) h) (by simp [Tr, Tr_slV]) (fun x hx => by obtain ⟨t, -, rfl⟩ := List.mem_map.1 hx; rfl) fs σ n lk
 rw [List.length_map] at this
 exact this
def ownT : Option (List Wr) → V
 | none => .nilS
 | some L => .own 4 (L.map wrV)
theorem r68 (o : Option (List Wr)) (h : (lst o).length * 48 ≤ LIM) : res T 68 [slV 4 wrV o] = some (ownT o) := by
 refine run_res (run_own (fn := g68) rfl rfl (by decide) ?_)
 simp only [g68, b68, zO, zN, zM, zL, zG, zP, zQ, zI, zA, zT, zF, zB, zC, zD, zE, zH, zJ, zK]
 cases o with
 | none =>
   have z : slV 4 wrV none = .nilS := rfl
   simp +contextual -implicitDefEqProofs (maxSteps := 2000000) only [↓wP, wS, seval, z, ownT]
   exact ⟨rfl, by simp [gids]⟩
 | some L =>
   have hl : (L.map wrV).length * 48 ≤ LIM := by simpa [lst] using h
   have ho : ownT (some L) = .own 4 (L.map wrV) := rfl
   rw [ho]
   simp +contextual -implicitDefEqProofs (maxSteps := 2000000) only [↓wP, wS, seval, slV_some, hl, true_or]
   have := giv_row (σ := upd (upd (upd Sto.empty 0 (some (.row 4 []))) 0 none) 1 (some (.row 4 (L.map wrV)))) (id := 1) (sz := 4) (xs := L.map wrV) (by simp [upd])
    (fun x hx => by obtain ⟨t, -, rfl⟩ := List.mem_map.1 hx; cases ht : t.v <;> simp [wrV, elemM, giv, slV, ht])
    (fun x hx c hc => by
     obtain ⟨t, -, rfl⟩ := List.mem_map.1 hx
     simp only [wrV, V.cells, List.mem_cons, List.not_mem_nil, or_false] at hc
     rcases hc with rfl | rfl | rfl | rfl
     ·rfl
     ·rfl
     ·rfl
     ·cases t.v <;> rfl)
   simpa using this
theorem f68 (o : Option (List Wr)) (h : (lst o).length * 48 ≤ LIM) (fs : Bool) (σ : Sto) (n lk : Nat) : ∃ lv σ' n', callE T fs 68 [slV 4 wrV o] σ n lk = some (lv, σ', n') ∧ n ≤ n' ∧ n' ≤ n + 1 ∧ (∀ i, i < n → σ' i = σ i) ∧
 ((lv = .nilS ∧ lst o = []) ∨ ∃ id, lv = .ref id 0 (lst o).length 4 ∧ σ' id = some (.row 4 ((lst o).map wrV)) ∧ n ≤ id ∧ id < n') := by
 cases o with
 | none =>
   have := callE_tr (T := T) (f := 68) (by decide) (r68 none h) (by simp [Tr, Tr_slV]) rfl fs σ n lk
   exact ⟨_, _, _, this, Nat.le_refl _, by omega, fun _ _ => rfl, .inl ⟨rfl, rfl⟩⟩
 | some L =>
   have := callE_own (T := T) (f := 68) (sz := 4) (xs := L.map wrV) (by decide) (r68 (some L) h) (by simp [Tr, Tr_slV]) (fun x hx => by obtain ⟨t, -, rfl⟩ := List.mem_map.1 hx; simp [wrV, Nw, Nw_slV]) fs σ n lk
   rw [List.length_map] at this
   exact ⟨_, _, _, this, by omega, by omega, fun i hi => upd_ne (by omega), .inr ⟨n, rfl, upd_self _ _ _, Nat.le_refl _, by omega⟩⟩
def Half (σ : Sto) (m n pid : Nat) (lv : V) (L : List Wr) (j : Nat) : Prop := (lv = .nilS ∧ L = []) ∨ ∃ id P, lv = .ref id 0 L.length 4 ∧ P.map (·.1) = L.take j ∧ σ id = some (.row 4 (P.map eV ++ (L.drop j).map wrV)) ∧ (pid :: id :: idsP P).Nodup ∧ (∀ i ∈ id :: idsP P, m ≤ i ∧ i < n) ∧ ∀ x ∈ P, okP σ x
theorem half_len {P : List Pw} {L : List Wr} {j : Nat} (h : P.map (·.1) = L.take j) (hj : j ≤ L.length) : P.length = j := by
 have := congrArg List.length h
 rw [List.length_map, List.length_take] at this
 omega
theorem half_at {P : List Pw} {L : List Wr} {j : Nat} (h : P.map (·.1) = L.take j) (hj : j < L.length) : (P.map eV ++ (L.drop j).map wrV)[j]? = some (wrV L[j]) := by
 have hl := half_len h (by omega)
 rw [List.getElem?_append_right (by rw [List.length_map]; omega), List.length_map, hl, Nat.sub_self, List.drop_eq_getElem_cons hj]
 rfl
theorem half_set {P : List Pw} {L : List Wr} {j : Nat} (h : P.map (·.1) = L.take j) (hj : j < L.length) (o : Option Nat) : (P.map eV ++ (L.drop j).map wrV).set j (eV (L[j], o)) = (P ++ [(L[j], o)]).map eV ++ (L.drop (j + 1)).map wrV := by
 have hl := half_len h (by omega)
 have hl2 : (P.map eV).length = j := by rw [List.length_map]; exact hl
 rw [List.set_append_right _ _ (by omega), hl2, Nat.sub_self, List.drop_eq_getElem_cons hj, List.map_cons, List.set_cons_zero, List.map_append]
 simp
theorem half_take {P : List Pw} {L : List Wr} {j : Nat} (h : P.map (·.1) = L.take j) (hj : j < L.length) (o : Option Nat) : (P ++ [(L[j], o)]).map (·.1) = L.take (j + 1) := by
 rw [List.map_append, h, ← List.take_append_getElem hj]; rfl
end Go.Q.SU
end

section
/- Something is done to a copy of writes (vectors of their own). -/
namespace Go.Q.SU
open Go.Q
def wE (l : List Wr) (c : Int) (E : Int) : Int := if rightW l = false then 260 else if collB c = false then 2 else E
theorem PlP.cells {σ : Sto} {n pid : Nat} {lv : V} {P : List Pw} (h : PlP σ n pid lv P) : lv.cells = [lv] := by
 rcases h with ⟨rfl, rfl⟩ | ⟨id, rfl, -⟩ <;> rfl
theorem PlP.one {σ : Sto} {n pid : Nat} {lv : V} {P : List Pw} (h : PlP σ n pid lv P) : lv.one = true := by
 rcases h with ⟨rfl, rfl⟩ | ⟨id, rfl, -⟩ <;> rfl
theorem PlP.frz {σ : Sto} {n pid : Nat} {lv : V} {P : List Pw} (h : PlP σ n pid lv P) : ∃ o, lst o = P.map (·.1) ∧ ∀ k, Go.Q.frz σ (k + 3) lv = some (slV 4 wrV o) := by
 rcases h with ⟨rfl, rfl⟩ | ⟨id, rfl, h1, h2, h3, h4⟩
 ·exact ⟨none, rfl, fun _ => rfl⟩
 ·refine ⟨some (P.map (·.1)), rfl, fun k => ?_⟩
  have h5 := List.nodup_cons.1 h2
  have hc : Chn σ 0 n (.ref id 0 (P.map (·.1)).length 4) (some (P.map (·.1))) := ⟨id, P, rfl, rfl, h1, h5.2, fun i hi => ⟨Nat.zero_le _, h3 i hi⟩, h4⟩
  rw [List.length_map] at hc
  exact hc.frz k
def Does (f : Nat) (caps : List V) (σ0 : Sto) (n0 : Nat) (L : List Wr) (p : Nat) (is : Bool) (E : Int) (L' : List Wr) : Prop :=
 ∀ (σ : Sto) (n pid : Nat) (lv : V) (P : List Pw) (Q : V → Sto → Nat → Prop), (∀ i, i < n0 → σ i = σ0 i) → n0 ≤ pid → P.map (·.1) = L → (∀ i ∈ idsP P, n0 ≤ i) → (∀ i off len s, lv = .ref i off len s → n0 ≤ i) →
  σ pid = some (.row 3 [.agg [lv, .int .i64 (p : Int), .bool is]]) → PlP σ n pid lv P → pid < n →
  (∀ lv' σ' n' P'', (E = 0 → P''.map (·.1) = L') → σ' pid = some (.row 3 [.agg [lv', .int .i64 (p : Int), .bool is]]) → PlP σ' n' pid lv' P'' → n ≤ n' → (∀ i, i < n0 → σ' i = σ0 i) → Q (.int .i64 E) σ' n') →
  run T (.raw f (.ptr pid 3 0 0 :: caps) σ n 0) (memQ Q)
theorem raw52 (l : Option (List Wr)) (k : Wr) (kx : V) (f : Nat) (caps : List V) (σ0 : Sto) (n0 : Nat) (hm : T.mode f = .raw) (hl : FitW (lst l)) (hkx : kx.one = true) (hkc : kx.cells = [kx])
 (hkf : ∀ σ : Sto, (∀ i, i < n0 → σ i = σ0 i) → ∀ j, Go.Q.frz σ (j + 2) kx = some (slV 1 i32V k.v)) (E : Int) (L' : List Wr)
 (hd : rightW (lst l) = true → collB k.c = true → Does f caps σ0 n0 (lst l) (bsP (lst l) k) (bsB (lst l) k) E L') {Q : V → Sto → Nat → Prop}
 (hQ : ∀ lv σ n pid P, (wE (lst l) k.c E = 0 → P.map (·.1) = L') → (wE (lst l) k.c E ≠ 0 → lv = .nilS) → PlP σ n pid lv P → n0 ≤ n → (∀ i, i < n0 → σ i = σ0 i) → Q (.tup [lv, .int .i64 (wE (lst l) k.c E)]) σ n) :
 run T (.raw 52 [slV 4 wrV l, .agg [.int .i64 k.c, .int .u64 k.id, .bool k.g, kx], .fn f caps] σ0 n0 0) (memQ Q) := by
 refine run_rawE (fn := g52) rfl rfl ?_
 have hll := hl.1
 have hsm : SmW l := ⟨by omega, fun x hx => by have := hl.2 x hx; unfold Sm; omega⟩
 have f25' := f25 l hsm
 have f37' := f37 k.c
 simp only [g52, b52, zO, zN, zM, zL, zG, zP, zQ, zI, zA, zT, zF, zB, zC, zD, zE, zH, zJ, zK]
 unfold wE at hQ
 cases hr : rightW (lst l)
 ·rw [hr] at f25' hQ
  simp only [Bool.false_eq_true, if_false] at f25'
  have z : ((260 : Int) != 0) = true := rfl
  rw [if_pos rfl] at hQ
  simp +contextual -implicitDefEqProofs (maxSteps := 2000000) only [↓wP, wS, seval, f25', z, hkx, hkc]
  exact hQ .nilS _ _ 0 [] (fun e => by cases e) (fun _ => rfl) (.inl ⟨rfl, rfl⟩) (by omega) (fun i hi => upd_ne (by omega))
 rw [hr] at f25' hQ
 rw [if_neg (by decide)] at hQ
 simp only [if_true] at f25'
 have z : ((0 : Int) != 0) = false := rfl
 cases hc : collB k.c
 ·rw [hc] at f37' hQ
  rw [if_pos rfl] at hQ
  simp +contextual -implicitDefEqProofs (maxSteps := 2000000) only [↓wP, wS, seval, f25', f37', z, hkx, hkc]
  exact hQ .nilS _ _ 0 [] (fun e => by cases e) (fun _ => rfl) (.inl ⟨rfl, rfl⟩) (by omega) (fun i hi => upd_ne (by omega))
 rw [hc] at f37' hQ
 rw [if_neg (by decide)] at hQ
 obtain ⟨S0, hS0⟩ : ∃ S0, S0 = upd σ0 n0 (some (.row 4 [.agg [.int .i64 k.c, .int .u64 k.id, .bool k.g, kx]])) := ⟨_, rfl⟩
 obtain ⟨lv, σ1, n1, c68, g0, g01, so, hpl⟩ := f68 l (by unfold LIM; omega) true S0 (n0 + 1) 0
 have hH : Half σ1 (n0 + 1) n1 n1 lv (lst l) 0 := by
  rcases hpl with ⟨rfl, h⟩ | ⟨id, rfl, h1, h2, h3⟩
  ·exact .inl ⟨rfl, h⟩
  ·refine .inr ⟨id, [], rfl, rfl, by simpa using h1, ?_, fun i hi => ?_, by simp⟩
   ·simp [idsP]; omega
   ·simp [idsP] at hi; omega
 have lc : lv.cells = [lv] := by rcases hpl with ⟨rfl, -⟩ | ⟨id, rfl, -⟩ <;> rfl
 have lo : lv.one = true := by rcases hpl with ⟨rfl, -⟩ | ⟨id, rfl, -⟩ <;> rfl
 have ll : lenE lv = some (.int .i64 ((lst l).length : Int)) := by
  rcases hpl with ⟨rfl, h⟩ | ⟨id, rfl, -⟩
  ·rw [h]; rfl
  ·rfl
 have c0 : σ1 n0 = some (.row 4 [.agg [.int .i64 k.c, .int .u64 k.id, .bool k.g, kx]]) := by rw [so n0 (by omega), hS0, upd_self]
 have s0 : S0 n0 = some (.row 4 [.agg [.int .i64 k.c, .int .u64 k.id, .bool k.g, kx]]) := by rw [hS0, upd_self]
 simp +contextual -implicitDefEqProofs (maxSteps := 2000000) only [↓wP, wS, seval, f25', f37', z, hkx, hkc, ← hS0, s0, c68, lc, lo, ll]
 refine WC_for (lst l).length 0 (fun (j : Nat) env σ n => env 2 = .fn f caps ∧ env 4 = .ptr n0 4 0 0 ∧ env 9 = .ptr n1 3 0 0 ∧ n1 + 1 ≤ n ∧ (∀ i, i < n0 → σ i = σ0 i) ∧ σ n0 = some (.row 4 [.agg [.int .i64 k.c, .int .u64 k.id, .bool k.g, kx]]) ∧ σ n1 = some (.row 3 [.agg [lv, .int .i64 0, .bool false]]) ∧ Half σ (n0 + 1) n n1 lv (lst l) j) (by omega) (by decide) (by decide) (fun _ _ => rfl) (fun _ _ _ => rfl) ?_ ?_ _ _ _ rfl rfl ?_
 ·intro j env σ n hj h1 h2 ⟨g1, g2, g3, g4, g5, g6, g7, g8⟩
  simp only [vl_tmp] at h2
  have hx : (lst l)[j]? = some (lst l)[j] := List.getElem?_eq_getElem hj
  have hvx := hl.2 _ (List.getElem_mem hj)
  rcases g8 with ⟨rfl, g8⟩ | ⟨id, P, rfl, q1, q2, q3, q4, q5⟩
  ·rw [g8] at hj; simp at hj
  have hat := half_at q1 hj
  have hset := half_set q1 hj
  have htk := half_take q1 hj
  generalize (lst l)[j] = x at *
  rw [wrV_eq] at hat
  have hidn := q4 id List.mem_cons_self
  have hpid : n1 ∉ id :: idsP P := (List.nodup_cons.1 q3).1
  have hpi : n1 ≠ id := fun e => hpid (by rw [e]; exact List.mem_cons_self)
  have y1 : (n1 = id) = False := by simp; omega
  have x0 : ∀ hid, hide σ n n hid n1 = σ n1 := fun hid => hide_low _ _ _ _ (by omega) (Nat.le_refl _)
  have x1 : ∀ hid, hide σ n n hid id = σ id := fun hid => hide_low _ _ _ _ (by omega) (Nat.le_refl _)
  cases hv : x.v with
  | none =>
    rw [hv] at hat
    have z0 : slV 1 i32V none = .nilS := rfl
    rw [z0] at hat
    have x2 : (n ≤ n + BIG) = True := by simp
    have hM : merge σ σ n = σ := by funext i; unfold merge; split <;> rfl
    have hs0 := hset none
    rw [eV_eq] at hs0
    have e0 : vx (x, none) = .nilS := rfl
    rw [e0] at hs0
    simp only at hs0
    simp +contextual -implicitDefEqProofs (maxSteps := 2000000) only [↓wP, wS, seval, h1, h2, g1, g2, g3, g7, q2, hj, hat, f40n, x0, x1, x2, hM]
    have hi2 : idsP (P ++ [(x, none)]) = idsP P := by rw [idsP_app]; simp [idsP]
    rw [hs0]
    refine ⟨by omega, fun i hi => by rw [if_neg (by omega)]; exact g5 i hi, by rw [if_neg (by omega)]; exact g6, by rw [if_neg hpi], .inr ⟨id, P ++ [(x, none)], rfl, htk none, upd_self _ _ _, by rw [hi2]; exact q3, fun i hi => ?_, fun y hy => ?_⟩⟩
    ·rw [hi2] at hi
     have := q4 i hi; omega
    ·rcases List.mem_append.1 hy with hy | hy
     ·refine (q5 y hy).loc fun k hk => ?_
      have hm := mem_ids.2 ⟨y, hy, hk⟩
      rw [upd_ne (fun e => (List.nodup_cons.1 (List.nodup_cons.1 q3).2).1 (by rw [← e]; exact hm))]
     ·rw [List.mem_singleton] at hy
      subst hy
      exact hv
  | some xs =>
    rw [hv] at hat hvx
    have f40' := f40s xs hvx
    have hB := big_le
    have x2 : (n + 1 ≤ n + BIG) = True := by simp; omega
    obtain ⟨M, hM⟩ : ∃ M, M = merge σ (upd σ n (some (Ob.row 1 (List.map i32V xs)))) n := ⟨_, rfl⟩
    have mo : ∀ i, i < n → M i = σ i := fun i hi => by rw [hM, merge_low _ _ _ hi]
    have mn : M n = some (Ob.row 1 (List.map i32V xs)) := by rw [hM, merge_in _ _ _ (Nat.le_refl _) (by omega), upd_self]
    have m1 : M id = some (.row 4 (P.map eV ++ ((lst l).drop j).map wrV)) := by rw [mo id hidn.2]; exact q2
    have hs0 := hset (some n)
    rw [eV_eq] at hs0
    have e0 : vx (x, some n) = .ref n 0 xs.length 1 := by unfold vx; simp only [hv, lst_some]
    rw [e0] at hs0
    simp only at hs0
    simp +contextual -implicitDefEqProofs (maxSteps := 2000000) only [↓wP, wS, seval, h1, h2, g1, g2, g3, g7, q2, hj, hat, f40', x0, x1, x2, ← hM, m1]
    have hi2 : idsP (P ++ [(x, some n)]) = idsP P ++ [n] := by rw [idsP_app]; simp [idsP]
    rw [hs0]
    refine ⟨by omega, fun i hi => by rw [if_neg (by omega), mo i (by omega)]; exact g5 i hi, by rw [if_neg (by omega), mo n0 (by omega)]; exact g6, by rw [if_neg hpi, mo n1 (by omega)]; exact g7, .inr ⟨id, P ++ [(x, some n)], rfl, htk (some n), upd_self _ _ _, ?_, fun i hi => ?_, fun y hy => ?_⟩⟩
    ·rw [hi2]
     have hn : ∀ i ∈ n1 :: id :: idsP P, i ≠ n := fun i hi => by
      rcases List.mem_cons.1 hi with rfl | hi
      ·omega
      ·have := q4 i hi; omega
     show (n1 :: id :: idsP P ++ [n]).Nodup
     exact List.nodup_append.2 ⟨q3, by simp, fun a ha b hb => by rw [List.mem_singleton] at hb; rw [hb]; exact hn a ha⟩
    ·rw [hi2] at hi
     rcases List.mem_cons.1 hi with rfl | hi
     ·omega
     ·rcases List.mem_append.1 hi with hi | hi
      ·have := q4 i (List.mem_cons_of_mem _ hi); omega
      ·rw [List.mem_singleton] at hi; omega
    ·rcases List.mem_append.1 hy with hy | hy
     ·refine (q5 y hy).loc fun k hk => ?_
      have hm := mem_ids.2 ⟨y, hy, hk⟩
      rw [upd_ne (fun e => (List.nodup_cons.1 (List.nodup_cons.1 q3).2).1 (by rw [← e]; exact hm)), mo k (q4 k (List.mem_cons_of_mem _ hm)).2]
     ·rw [List.mem_singleton] at hy
      subst hy
      refine ⟨by rw [hv]; rfl, ?_⟩
      rw [upd_ne (by omega), mn, hv]; rfl
 ·intro env σ n ⟨g1, g2, g3, g4, g5, g6, g7, g8⟩ h1 h2
  obtain ⟨P, hPl, hPm, hPi, hPv⟩ : ∃ P, PlP σ n n1 lv P ∧ P.map (·.1) = lst l ∧ (∀ i ∈ idsP P, n0 ≤ i) ∧ (∀ i off len s, lv = .ref i off len s → n0 ≤ i) := by
   rcases g8 with ⟨rfl, h⟩ | ⟨id, P, rfl, q1, q2, q3, q4, q5⟩
   ·exact ⟨[], .inl ⟨rfl, rfl⟩, by rw [h]; rfl, by simp [idsP], fun i off len s e => by cases e⟩
   ·rw [List.drop_length, List.map_nil, List.append_nil] at q2
    rw [List.take_length] at q1
    have hlen : (lst l).length = P.length := by rw [← q1, List.length_map]
    refine ⟨P, .inr ⟨id, by rw [hlen], q2, q3, fun i hi => (q4 i hi).2, q5⟩, q1, fun i hi => by have := q4 i (List.mem_cons_of_mem _ hi); omega, fun i off len s e => ?_⟩
    simp only [V.ref.injEq] at e
    have := q4 id List.mem_cons_self
    omega
  obtain ⟨o, ho, hfz⟩ := hPl.frz
  rw [hPm] at ho
  have m1 : [lv, .agg [.int .i64 k.c, .int .u64 k.id, .bool k.g, kx], .fn 47 []].mapM (Go.Q.frz σ 12) = some [slV 4 wrV o, wrV k, .fn 47 []] := by
   simp only [List.mapM_cons, List.mapM_nil, hfz 9, wrV_eq, frz_agg, frz_int, frz_bool, hkf σ g5 9]; rfl
  have c49 := callE_flat (f := 49) (by decide) m1 (r49 o k (by rw [ho]; omega)) rfl false n n
  rw [ho] at c49
  have c49' : ∀ p b, thaw σ n (.tup [.int .i64 p, .bool b]) = (.tup [.int .i64 p, .bool b], σ, n) := fun p b => rfl
  rw [c49'] at c49
  have hd' := hd hr hc
  have q0 : (n1 = n0) = False := by simp; omega
  simp +contextual -implicitDefEqProofs (maxSteps := 2000000) only [↓wP, wS, seval, g1, g2, g3, g6, g7, c49, hkx, hkc]
  refine stepW_raw hm (hd' _ n n1 lv P _ (fun i hi => by rw [upd_ne (by omega), upd_ne (by omega)]; exact g5 i hi) (by omega) hPm hPi hPv (by rw [upd_self]) (hPl.loc (fun i hi hip => by rw [upd_ne hip, upd_ne hip]) (Nat.le_refl _)) (by omega) (fun lv' σ' n' P'' e q1 q2 q3 q4 => ?_))
  have lc' := q2.cells
  have lo' := q2.one
  by_cases hE : E = 0
  ·have hLL := e hE
   subst hE
   simp +contextual -implicitDefEqProofs (maxSteps := 2000000) only [↓wP, wS, seval, g1, g2, g3, z, q1, lc', lo']
   exact hQ lv' σ' n' n1 P'' (fun _ => hLL) (fun h => absurd rfl h) q2 (by omega) q4
  ·have z2 : (E != 0) = true := by simpa using hE
   simp +contextual -implicitDefEqProofs (maxSteps := 2000000) only [↓wP, wS, seval, g1, g2, g3, z2]
   exact hQ .nilS σ' n' 0 [] (fun e => absurd e hE) (fun _ => rfl) (.inl ⟨rfl, rfl⟩) (by omega) q4
 ·simp +contextual -implicitDefEqProofs (maxSteps := 2000000) only [↓wP, wS, seval]
  refine ⟨fun i hi => by rw [if_neg (by omega), so i (by omega), hS0, upd_ne (by omega)], by rw [if_neg (by omega)]; exact c0, ?_⟩
  rcases hH with ⟨rfl, h⟩ | ⟨id, P, rfl, q1, q2, q3, q4, q5⟩
  ·exact .inl ⟨rfl, h⟩
  ·have hpid : n1 ∉ id :: idsP P := (List.nodup_cons.1 q3).1
   refine .inr ⟨id, P, rfl, q1, ?_, q3, fun i hi => ?_, fun y hy => (q5 y hy).loc fun k hk => ?_⟩
   ·rw [upd_ne (fun e => hpid (by rw [← e]; exact List.mem_cons_self))]; exact q2
   ·have := q4 i hi; omega
   ·rw [upd_ne (fun e => hpid (by rw [← e]; exact List.mem_cons_of_mem _ (mem_ids.2 ⟨y, hy, hk⟩)))]
end Go.Q.SU
end

section
/- Put and Del, handing over writes of a caller's own. -/
namespace Go.Q.SU
open Go.Q
theorem bsB_lt {l : List Wr} {k : Wr} (h : bsB l k = true) : bsP l k < l.length := by
 unfold bsB at h
 split at h
 ·rename_i x hx; exact (List.getElem?_eq_some_iff.1 hx).1
 ·cases h
def insW (L : List Wr) (p : Nat) (w : Wr) : List Wr := L.take p ++ w :: L.drop p
def layLw (L : List Wr) (p : Nat) (is : Bool) (w : Wr) : List Wr := if is = true then L.set p w else if L.length = 12 then L else insW L p w
def layEw (L : List Wr) (is : Bool) : Int := if is = true then 0 else if L.length = 12 then 6 else 0
theorem layP_map (P : List Pw) (p : Nat) (is : Bool) (x : Pw) : (layP P p is x).map (·.1) = layLw (P.map (·.1)) p is x.1 := by
 unfold layP layLw insP' insW
 split
 ·rw [List.map_set]
 ·rw [List.length_map]
  split
  ·rfl
  ·rw [List.map_append, List.map_cons, List.map_take, List.map_drop]
theorem layE_map (P : List Pw) (is : Bool) : layE P is = layEw (P.map (·.1)) is := by unfold layE layEw; rw [List.length_map]
def putW (c : Int) (r : Rw) : Wr := ⟨c, r.id, false, r.v⟩
def putE0 (l : List Wr) (c : Int) (r : Rw) : Int := if okV r.v = true then layEw l (bsB l (putW c r)) else 150
def putL0 (l : List Wr) (c : Int) (r : Rw) : List Wr := layLw l (bsP l (putW c r)) (bsB l (putW c r)) (putW c r)
def putE (l : List Wr) (c : Int) (r : Rw) : Int := wE l c (putE0 l c r)
def putL (l : List Wr) (c : Int) (r : Rw) : List Wr := if putE l c r = 0 then putL0 l c r else []
theorem PlP.chn {σ : Sto} {n pid : Nat} {lv : V} {P : List Pw} (h : PlP σ n pid lv P) : ∃ o, lst o = P.map (·.1) ∧ Chn σ 0 n lv o ∧ (lv = .nilS → o = none) := by
 rcases h with ⟨rfl, rfl⟩ | ⟨id, rfl, h1, h2, h3, h4⟩
 ·exact ⟨none, rfl, rfl, fun _ => rfl⟩
 ·refine ⟨some (P.map (·.1)), rfl, ⟨id, P, by rw [List.length_map], rfl, h1, (List.nodup_cons.1 h2).2, fun i hi => ⟨Nat.zero_le _, h3 i hi⟩, h4⟩, fun e => by cases e⟩
theorem giv_pair {σ : Sto} {m n : Nat} {v : V} {o : Option (List Wr)} (h : Chn σ m n v o) (e : Int) : Go.Q.giv σ 12 (.tup [v, .int .i64 e]) = some (.tup [ownW' o, .int .i64 e]) ∧ (gids σ 12 (.tup [v, .int .i64 e])).Nodup := by
 obtain ⟨h1, h2⟩ := h.giv 8
 constructor
 ·simp only [Go.Q.giv, List.mapM_cons, List.mapM_nil, h1]
  rfl
 ·simp only [gids, List.flatMap_cons, List.flatMap_nil, List.append_nil]
  exact h2
theorem does53 {σ0 : Sto} {n0 : Nat} {rb wb : Nat} (l : Option (List Wr)) (c : Int) (r : Rw) (w : Pw) (hw1 : w.1 = putW c r) (hll : (lst l).length ≤ 1000) (hr : (lst r.v).length ≤ 1000000) (hrb : rb < n0) (hwb : wb < n0)
 (hok : okP σ0 w) (hwk : ∀ k, w.2 = some k → k < n0) (s1 : σ0 rb = some (.row 2 [.agg [.int .u64 r.id, slV 1 i32V r.v]])) (s2 : σ0 wb = some (.row 4 [eV w])) :
 Does 53 [.ptr rb 2 0 0, .ptr wb 4 0 0] σ0 n0 (lst l) (bsP (lst l) (putW c r)) (bsB (lst l) (putW c r)) (putE0 (lst l) c r) (putL0 (lst l) c r) := by
 intro σ n pid lv P Q hlow hpid hPm hPi hPv h1 h2 hpn hQ
 have hPl : P.length = (lst l).length := by rw [← hPm, List.length_map]
 have hnew : New σ n pid lv P w := ⟨hok.loc fun k hk => hlow k (hwk k hk), fun k hk => ⟨by have := hwk k hk; omega, by have := hwk k hk; omega, fun hm => by have := hPi k hm; have := hwk k hk; omega, fun off len s e => by have := hPv k off len s e; have := hwk k hk; omega⟩⟩
 refine raw53 r w P (bsP (lst l) (putW c r)) (bsB (lst l) (putW c r)) (by omega) (by rw [hPl]; exact bsP_le _ _) (fun h => by rw [hPl]; exact bsB_lt h) (by omega) (by rw [hlow rb hrb]; exact s1) (by rw [hlow wb hwb]; exact s2) h1 h2 hpn hnew (fun hv => ?_) (fun hv lv' σ' n' q1 q2 q3 q4 => ?_)
 ·unfold putE0 at hQ
  rw [if_neg (by rw [hv]; decide)] at hQ
  exact hQ lv σ n P (fun e => by cases e) h1 h2 (Nat.le_refl _) hlow
 ·unfold putE0 putL0 at hQ
  rw [if_pos hv] at hQ
  rw [layE_map, hPm]
  refine hQ lv' σ' n' _ (fun _ => by rw [layP_map, hPm, hw1]) q1 q2 q3 (fun i hi => ?_)
  rw [q4 i (by omega) (by omega) (fun off len s e => by have := hPv i off len s e; omega)]
  exact hlow i hi
theorem r32 (l : Option (List Wr)) (c : Int) (r : Rw) (hl : FitW (lst l)) (hll : (lst l).length ≤ 1000) (hr : (lst r.v).length ≤ 1000000) :
 ∃ x, res T 32 [slV 4 wrV l, .int .i64 c, rwV r] = some x ∧ ∃ o, lst o = putL (lst l) c r ∧ (putE (lst l) c r ≠ 0 → o = none) ∧ x = .tup [ownW' o, .int .i64 (putE (lst l) c r)] := by
 refine res_own (fn := g32) rfl rfl (by decide) ?_
 simp only [g32, b32, zO, zN, zM, zL, zG, zP, zQ, zI, zA, zT, zF, zB, zC, zD, zE, zH, zJ, zK, rwV_eq]
 obtain ⟨σ0, hσ0⟩ : ∃ σ0, σ0 = upd Sto.empty 0 (some (Ob.row 2 [V.agg [V.int IntKind.u64 r.id, slV 1 i32V r.v]])) := ⟨_, rfl⟩
 have s0 : σ0 0 = some (Ob.row 2 [V.agg [V.int IntKind.u64 r.id, slV 1 i32V r.v]]) := by rw [hσ0, upd_self]
 have x0 : ∀ hid, hide σ0 1 1 hid 0 = σ0 0 := fun hid => hide_low _ _ _ _ (by omega) (Nat.le_refl _)
 have hB := big_le
 cases hv : r.v with
 | none =>
   rw [hv] at s0 hσ0
   have z0 : slV 1 i32V none = .nilS := rfl
   rw [z0] at s0 hσ0
   have x1 : (1 ≤ 1 + BIG) = True := by simp
   have x2 : (1 + (BIG * 1 + 1) ≤ 1 + (BIG * 1 + BIG)) = True := by simp; omega
   simp +contextual -implicitDefEqProofs (maxSteps := 2000000) only [↓wP, wS, seval, ← hσ0, hv, z0, s0, x0, f40n, x1, x2]
   generalize hM : merge (merge σ0 _ 1) _ (1 + BIG * 1) = M
   have mw : M (1 + BIG * 1) = some (Ob.row 4 [V.agg [V.int IntKind.i64 0, V.int IntKind.u64 0, V.bool false, V.nilS]]) := by rw [← hM, merge_in _ _ _ (Nat.le_refl _) (by omega), upd_self]
   have m0 : M 0 = σ0 0 := by rw [← hM, merge_low _ _ _ (by omega), merge_low _ _ _ (by omega)]
   obtain ⟨w, hw⟩ : ∃ w : Pw, w = (putW c r, none) := ⟨_, rfl⟩
   obtain ⟨U, hU⟩ : ∃ U, U = upd M (1 + BIG * 1) (some (Ob.row 4 [V.agg [V.int IntKind.i64 c, V.int IntKind.u64 r.id, V.bool false, V.nilS]])) := ⟨_, rfl⟩
   have uw' : U (1 + BIG * 1) = some (Ob.row 4 [V.agg [V.int IntKind.i64 c, V.int IntKind.u64 r.id, V.bool false, V.nilS]]) := by rw [hU, upd_self]
   have uw : U (1 + BIG * 1) = some (Ob.row 4 [eV w]) := by rw [uw', hw]; rfl
   have u0 : U 0 = some (Ob.row 2 [V.agg [V.int IntKind.u64 r.id, slV 1 i32V r.v]]) := by rw [hU, upd_ne (by omega), m0, s0, hv]; rfl
   have hwok : okP U w := by rw [hw]; exact hv
   have hwE : ∀ E, wE (lst l) (putW c r).c E = wE (lst l) c E := fun _ => rfl
   simp +contextual -implicitDefEqProofs (maxSteps := 2000000) only [↓wP, wS, seval, mw, ← hU, uw']
   refine stepW_raw (by decide) (raw52 l (putW c r) (.nilS) 53 [.ptr 0 2 0 0, .ptr (1 + BIG * 1) 4 0 0] U (1 + BIG * 2) (by decide) hl rfl rfl (fun σ hs j => by show some V.nilS = some (slV 1 i32V r.v); rw [hv]; rfl) (putE0 (lst l) c r) (putL0 (lst l) c r)
    (fun _ _ => does53 l c r w (by rw [hw]) hll (by rw [hv]; simp [lst]) (by omega) (by omega) hwok (fun k hk => by rw [hw] at hk; cases hk) u0 uw) (fun lv σ n pid P h1 h2 h3 h4 h5 => ?_))
   obtain ⟨o, ho, hch, hnn⟩ := h3.chn
   have hgp := giv_pair hch (putE (lst l) c r)
   have hE : wE (lst l) (putW c r).c (putE0 (lst l) c r) = putE (lst l) c r := rfl
   rw [hE] at h1 h2 ⊢
   have hcc := hch.cells
   have hoo := hch.one
   simp +contextual -implicitDefEqProofs (maxSteps := 2000000) only [↓wP, wS, seval, hcc, hoo, hgp.1]
   refine ⟨hgp.2, o, ?_, fun h => hnn (h2 h), rfl⟩
   unfold putL
   by_cases h0 : putE (lst l) c r = 0
   ·rw [if_pos h0, ho, h1 h0]
   ·rw [if_neg h0, hnn (h2 h0)]; rfl
 | some xs =>
   rw [hv] at s0 hr hσ0
   have f40' := f40s xs hr
   have x1 : (1 + 1 ≤ 1 + BIG) = True := by simp; omega
   have x1' : (2 ≤ 1 + BIG) = True := by simp; omega
   have x2 : (1 + (BIG * 1 + 1) ≤ 1 + (BIG * 1 + BIG)) = True := by simp; omega
   simp +contextual -implicitDefEqProofs (maxSteps := 2000000) only [↓wP, wS, seval, ← hσ0, hv, s0, x0, f40', x1, x1', x2]
   generalize hM : merge (merge σ0 _ 1) _ (1 + BIG * 1) = M
   have mw : M (1 + BIG * 1) = some (Ob.row 4 [V.agg [V.int IntKind.i64 0, V.int IntKind.u64 0, V.bool false, V.nilS]]) := by rw [← hM, merge_in _ _ _ (Nat.le_refl _) (by omega), upd_self]
   have m0 : M 0 = σ0 0 := by rw [← hM, merge_low _ _ _ (by omega), merge_low _ _ _ (by omega)]
   have m1 : M 1 = some (Ob.row 1 (List.map i32V xs)) := by rw [← hM, merge_low _ _ _ (by omega), merge_in _ _ _ (Nat.le_refl _) (by omega), upd_self]
   obtain ⟨w, hw⟩ : ∃ w : Pw, w = (putW c r, some 1) := ⟨_, rfl⟩
   obtain ⟨U, hU⟩ : ∃ U, U = upd M (1 + BIG * 1) (some (Ob.row 4 [V.agg [V.int IntKind.i64 c, V.int IntKind.u64 r.id, V.bool false, V.ref 1 0 xs.length 1]])) := ⟨_, rfl⟩
   have hvl : lst r.v = xs := by rw [hv]; rfl
   have uw' : U (1 + BIG * 1) = some (Ob.row 4 [V.agg [V.int IntKind.i64 c, V.int IntKind.u64 r.id, V.bool false, V.ref 1 0 xs.length 1]]) := by rw [hU, upd_self]
   have uw : U (1 + BIG * 1) = some (Ob.row 4 [eV w]) := by rw [uw', hw]; unfold eV vx putW; rw [hvl]
   have u0 : U 0 = some (Ob.row 2 [V.agg [V.int IntKind.u64 r.id, slV 1 i32V r.v]]) := by rw [hU, upd_ne (by omega), m0, s0, hv]
   have u1 : U 1 = some (Ob.row 1 (List.map i32V xs)) := by rw [hU, upd_ne (by omega), m1]
   have hwok : okP U w := by rw [hw]; exact ⟨by show r.v = some (lst r.v); rw [hvl, hv], by show U 1 = some (.row 1 ((lst r.v).map i32V)); rw [hvl]; exact u1⟩
   have hwE : ∀ E, wE (lst l) (putW c r).c E = wE (lst l) c E := fun _ => rfl
   simp +contextual -implicitDefEqProofs (maxSteps := 2000000) only [↓wP, wS, seval, mw, ← hU, uw']
   refine stepW_raw (by decide) (raw52 l (putW c r) (.ref 1 0 xs.length 1) 53 [.ptr 0 2 0 0, .ptr (1 + BIG * 1) 4 0 0] U (1 + BIG * 2) (by decide) hl rfl rfl (fun σ hs j => by have := frz_vx (hwok.loc (σ' := σ) fun k hk => hs k (by rw [hw] at hk; simp at hk; omega)) j; rw [hw] at this; unfold vx putW at this; rw [hvl] at this; exact this) (putE0 (lst l) c r) (putL0 (lst l) c r)
    (fun _ _ => does53 l c r w (by rw [hw]) hll (by rw [hvl]; exact hr) (by omega) (by omega) hwok (fun k hk => by rw [hw] at hk; simp at hk; omega) u0 uw) (fun lv σ n pid P h1 h2 h3 h4 h5 => ?_))
   obtain ⟨o, ho, hch, hnn⟩ := h3.chn
   have hgp := giv_pair hch (putE (lst l) c r)
   have hE : wE (lst l) (putW c r).c (putE0 (lst l) c r) = putE (lst l) c r := rfl
   rw [hE] at h1 h2 ⊢
   have hcc := hch.cells
   have hoo := hch.one
   simp +contextual -implicitDefEqProofs (maxSteps := 2000000) only [↓wP, wS, seval, hcc, hoo, hgp.1]
   refine ⟨hgp.2, o, ?_, fun h => hnn (h2 h), rfl⟩
   unfold putL
   by_cases h0 : putE (lst l) c r = 0
   ·rw [if_pos h0, ho, h1 h0]
   ·rw [if_neg h0, hnn (h2 h0)]; rfl
def delE0 (l : List Wr) (k : Wr) (there : Bool) : Int := if (if bsB l k = true then (match l[bsP l k]? with | some x => !x.g | none => there) else there) = false then 4 else if there = false then 0 else layEw l (bsB l k)
def delL0 (l : List Wr) (k : Wr) (there : Bool) : List Wr := if (if bsB l k = true then (match l[bsP l k]? with | some x => !x.g | none => there) else there) = false then l else if there = false then l.take (bsP l k) ++ l.drop (bsP l k + 1) else layLw l (bsP l k) (bsB l k) ⟨k.c, k.id, true, none⟩
def delE (l : List Wr) (k : Wr) (there : Bool) : Int := wE l k.c (delE0 l k there)
def delL (l : List Wr) (k : Wr) (there : Bool) : List Wr := if delE l k there = 0 then delL0 l k there else []
theorem sawD_map (P : List Pw) (p : Nat) (is there : Bool) : sawD P p is there = if is = true then (match (P.map (·.1))[p]? with | some x => !x.g | none => there) else there := by
 unfold sawD
 rw [List.getElem?_map]
 cases P[p]? <;> rfl
theorem delP_map (P : List Pw) (p : Nat) (is there : Bool) (c id : Int) : (delPP P p is there c id).map (·.1) = if (if is = true then (match (P.map (·.1))[p]? with | some x => !x.g | none => there) else there) = false then P.map (·.1) else if there = false then (P.map (·.1)).take p ++ (P.map (·.1)).drop (p + 1) else layLw (P.map (·.1)) p is ⟨c, id, true, none⟩ := by
 unfold delPP
 rw [← sawD_map]
 split
 ·rfl
 ·split
  ·unfold eraP; rw [List.map_append, List.map_take, List.map_drop]
  ·exact layP_map _ _ _ _
theorem delPE_map (P : List Pw) (p : Nat) (is there : Bool) : delPE P p is there = if (if is = true then (match (P.map (·.1))[p]? with | some x => !x.g | none => there) else there) = false then 4 else if there = false then 0 else layEw (P.map (·.1)) is := by
 unfold delPE
 rw [← sawD_map, layE_map]
theorem does55 {σ0 : Sto} {n0 : Nat} {tb kb : Nat} (l : Option (List Wr)) (k : Wr) (kv : V) (there : Bool) (hll : (lst l).length ≤ 1000) (htb : tb < n0) (hkb : kb < n0) (hkv : kv.one = true)
 (s1 : σ0 tb = some (.row 1 [.bool there])) (s2 : σ0 kb = some (.row 4 [.agg [.int .i64 k.c, .int .u64 k.id, .bool k.g, kv]])) :
 Does 55 [.ptr tb 1 0 0, .ptr kb 4 0 0] σ0 n0 (lst l) (bsP (lst l) k) (bsB (lst l) k) (delE0 (lst l) k there) (delL0 (lst l) k there) := by
 intro σ n pid lv P Q hlow hpid hPm hPi hPv h1 h2 hpn hQ
 have hPl : P.length = (lst l).length := by rw [← hPm, List.length_map]
 refine raw55 k.c k.id k.g kv there P (bsP (lst l) k) (bsB (lst l) k) (by rw [hPl]; exact bsP_le _ _) (fun h => by rw [hPl]; exact bsB_lt h) (by omega) (by rw [hlow tb htb]; exact s1) (by rw [hlow kb hkb]; exact s2) hkv h1 h2 hpn (fun lv' σ' n' q1 q2 q3 q4 => ?_)
 rw [delPE_map, hPm]
 refine hQ lv' σ' n' _ (fun _ => by rw [delP_map, hPm]; rfl) q1 q2 q3 (fun i hi => ?_)
 rw [q4 i (by omega) (by omega) (fun off len s e => by have := hPv i off len s e; omega)]
 exact hlow i hi
theorem r33 (l : Option (List Wr)) (k : Wr) (there : Bool) (hl : FitW (lst l)) (hll : (lst l).length ≤ 1000) :
 ∃ x, res T 33 [slV 4 wrV l, wrV k, .bool there] = some x ∧ ∃ o, lst o = delL (lst l) k there ∧ (delE (lst l) k there ≠ 0 → o = none) ∧ x = .tup [ownW' o, .int .i64 (delE (lst l) k there)] := by
 refine res_own (fn := g33) rfl rfl (by decide) ?_
 simp only [g33, b33, zO, zN, zM, zL, zG, zP, zQ, zI, zA, zT, zF, zB, zC, zD, zE, zH, zJ, zK, wrV_eq]
 obtain ⟨U, hU⟩ : ∃ U, U = upd (upd Sto.empty 0 (some (Ob.row 4 [V.agg [V.int IntKind.i64 k.c, V.int IntKind.u64 k.id, V.bool k.g, slV 1 i32V k.v]]))) 1 (some (Ob.row 1 [V.bool there])) := ⟨_, rfl⟩
 have u0 : U 0 = some (Ob.row 4 [V.agg [V.int IntKind.i64 k.c, V.int IntKind.u64 k.id, V.bool k.g, slV 1 i32V k.v]]) := by rw [hU, upd_ne (by decide), upd_self]
 have u1 : U 1 = some (Ob.row 1 [V.bool there]) := by rw [hU, upd_self]
 have o1 : (slV 1 i32V k.v).one = true := by cases k.v <;> rfl
 have o2 : (slV 1 i32V k.v).cells = [slV 1 i32V k.v] := by cases k.v <;> rfl
 simp +contextual -implicitDefEqProofs (maxSteps := 2000000) only [↓wP, wS, seval, ← hU, u0]
 refine stepW_raw (by decide) (raw52 l k (slV 1 i32V k.v) 55 [.ptr 1 1 0 0, .ptr 0 4 0 0] U 2 (by decide) hl o1 o2 (fun σ hs j => frz_slV _ _ _ _ _) (delE0 (lst l) k there) (delL0 (lst l) k there)
  (fun _ _ => does55 l k _ there hll (by omega) (by omega) o1 u1 u0) (fun lv σ n pid P h1 h2 h3 h4 h5 => ?_))
 obtain ⟨o, ho, hch, hnn⟩ := h3.chn
 have hgp := giv_pair hch (delE (lst l) k there)
 have hE : wE (lst l) k.c (delE0 (lst l) k there) = delE (lst l) k there := rfl
 rw [hE] at h1 h2 ⊢
 have hcc := hch.cells
 have hoo := hch.one
 simp +contextual -implicitDefEqProofs (maxSteps := 2000000) only [↓wP, wS, seval, hcc, hoo, hgp.1]
 refine ⟨hgp.2, o, ?_, fun h => hnn (h2 h), rfl⟩
 unfold delL
 by_cases h0 : delE (lst l) k there = 0
 ·rw [if_pos h0, ho, h1 h0]
 ·rw [if_neg h0, hnn (h2 h0)]; rfl
end Go.Q.SU
end

section
/- What is done with the layer. -/
namespace Go.Q.SU
open Go.Q
structure Op where
 d : Bool
 th : Bool
 c : Int
 id : Int
 v : Vc
def opV (o : Op) : V := .agg [.bool o.d, .bool o.th, .int .i64 o.c, .int .u64 o.id, slV 1 i32V o.v]
theorem opV_eq (o : Op) : opV o = .agg [.bool o.d, .bool o.th, .int .i64 o.c, .int .u64 o.id, slV 1 i32V o.v] := rfl
def opK (o : Op) : Wr := ⟨o.c, o.id, false, cut o.v⟩
def opR (o : Op) : Rw := ⟨o.id, cut o.v⟩
def runE (l : List Wr) (o : Op) : Int := if o.d = true then delE l (opK o) o.th else putE l o.c (opR o)
def runL (l : List Wr) (o : Op) : List Wr := if o.d = true then delL l (opK o) o.th else putL l o.c (opR o)
theorem frz_cut {σ : Sto} {i : Nat} {v : Vc} (h : σ i = some (.row 1 ((lst (cut v)).map i32V))) (k : Nat) : Go.Q.frz σ (k + 2) (.ref i 0 (lst (cut v)).length 1) = some (slV 1 i32V (cut v)) :=
 frz_vx (x := (⟨0, 0, false, cut v⟩, some i)) ⟨rfl, h⟩ k
theorem t32 {σ : Sto} {n i : Nat} (l : Option (List Wr)) (c id : Int) (v : Vc) (hl : FitW (lst l)) (hll : (lst l).length ≤ 1000) (h : σ i = some (.row 1 ((lst (cut v)).map i32V))) :
 ∃ lv σ' n' o, callE T true 32 [slV 4 wrV l, .int .i64 c, .agg [.int .u64 id, .ref i 0 (lst (cut v)).length 1]] σ n 0 = some (.tup [lv, .int .i64 (putE (lst l) c ⟨id, cut v⟩)], σ', n') ∧ lst o = putL (lst l) c ⟨id, cut v⟩ ∧ (putE (lst l) c ⟨id, cut v⟩ ≠ 0 → o = none) ∧ Chn σ' n n' lv o ∧ n ≤ n' ∧ n' ≤ n + (lst o).length + 1 ∧ ∀ j, j < n → σ' j = σ j := by
 obtain ⟨x, h1, o, h2, h3, rfl⟩ := r32 l c ⟨id, cut v⟩ hl hll (by show ((lst v).take 5).length ≤ 1000000; rw [List.length_take]; omega)
 obtain ⟨lv, σ', n', g1, g2, g3, g4, g5⟩ := thaw_ownW σ n o
 have m1 : [slV 4 wrV l, .int .i64 c, .agg [.int .u64 id, .ref i 0 (lst (cut v)).length 1]].mapM (Go.Q.frz σ 12) = some [slV 4 wrV l, .int .i64 c, rwV ⟨id, cut v⟩] := by
  simp only [List.mapM_cons, List.mapM_nil, frz_slV, frz_agg, frz_int, frz_cut h 9, rwV_eq]; rfl
 have hf : flat (.tup [ownW' o, .int .i64 (putE (lst l) c ⟨id, cut v⟩)]) = true := by show (flat (ownW' o) && _) = true; rw [flat_ownW]; rfl
 have := callE_flat (f := 32) (by decide) m1 h1 hf true n 0
 refine ⟨lv, σ', n', o, ?_, h2, h3, g2, g3, g4, g5⟩
 rw [this, thaw_tup, thawL_cons, g1]
 rfl
theorem t33 {σ : Sto} {n i : Nat} (l : Option (List Wr)) (c id : Int) (v : Vc) (th : Bool) (hl : FitW (lst l)) (hll : (lst l).length ≤ 1000) (h : σ i = some (.row 1 ((lst (cut v)).map i32V))) :
 ∃ lv σ' n' o, callE T true 33 [slV 4 wrV l, .agg [.int .i64 c, .int .u64 id, .bool false, .ref i 0 (lst (cut v)).length 1], .bool th] σ n 0 = some (.tup [lv, .int .i64 (delE (lst l) ⟨c, id, false, cut v⟩ th)], σ', n') ∧ lst o = delL (lst l) ⟨c, id, false, cut v⟩ th ∧ (delE (lst l) ⟨c, id, false, cut v⟩ th ≠ 0 → o = none) ∧ Chn σ' n n' lv o ∧ n ≤ n' ∧ n' ≤ n + (lst o).length + 1 ∧ ∀ j, j < n → σ' j = σ j := by
 obtain ⟨x, h1, o, h2, h3, rfl⟩ := r33 l ⟨c, id, false, cut v⟩ th hl hll
 obtain ⟨lv, σ', n', g1, g2, g3, g4, g5⟩ := thaw_ownW σ n o
 have m1 : [slV 4 wrV l, .agg [.int .i64 c, .int .u64 id, .bool false, .ref i 0 (lst (cut v)).length 1], .bool th].mapM (Go.Q.frz σ 12) = some [slV 4 wrV l, wrV ⟨c, id, false, cut v⟩, .bool th] := by
  simp only [List.mapM_cons, List.mapM_nil, frz_slV, frz_agg, frz_int, frz_bool, frz_cut h 9, wrV_eq]; rfl
 have hf : flat (.tup [ownW' o, .int .i64 (delE (lst l) ⟨c, id, false, cut v⟩ th)]) = true := by show (flat (ownW' o) && _) = true; rw [flat_ownW]; rfl
 have := callE_flat (f := 33) (by decide) m1 h1 hf true n 0
 refine ⟨lv, σ', n', o, ?_, h2, h3, g2, g3, g4, g5⟩
 rw [this, thaw_tup, thawL_cons, g1]
 rfl
end Go.Q.SU
end

section
/- What is done, and what the document says of it: the same. -/
namespace Go.Q.SU
open Go.Q
theorem w_pair {l : List Wr} (h : rightW l = true) : l.Pairwise fun a b => bef a b = true := by
 unfold rightW at h
 rw [Bool.and_eq_true] at h
 have h2 := h.2
 rw [List.pairwise_iff_getElem]
 have pre : ∀ n, n ≤ l.length → wU l n = true → ∀ j, j < n → (hj : j < l.length) → okN l j l[j] = true := by
  intro n
  induction n with
  | zero => intro _ _ j hj; omega
  | succ n ih =>
    intro hn hw j hj hjl
    rw [wU_step (by omega : n < l.length), Bool.and_eq_true] at hw
    by_cases e : j = n
    ·subst e; exact hw.2
    ·exact ih (by omega) hw.1 j (by omega) hjl
 have step : ∀ j (hj : j + 1 < l.length), bef l[j] l[j + 1] = true := by
  intro j hj
  have := pre _ (Nat.le_refl _) h2 (j + 1) hj hj
  unfold okN at this
  rw [Bool.and_eq_true] at this
  have h2 := this.2
  simp only [List.getElem?_eq_getElem (show j < l.length by omega)] at h2
  exact h2
 have key : ∀ k i (hi : i < l.length) (hk : i + k + 1 < l.length), bef l[i] l[i + k + 1] = true := by
  intro k
  induction k with
  | zero => intro i hi hk; exact step i hk
  | succ k ih =>
    intro i hi hk
    have h1 := ih i hi (by omega)
    have h2 := step (i + k + 1) (by omega)
    have e : i + (k + 1) + 1 = i + k + 1 + 1 := by omega
    simp only [e]
    exact bef_trans h1 h2
 intro i j hi hj hij
 have h1 := key (j - i - 1) i hi (by omega)
 have e : i + (j - i - 1) + 1 = j := by omega
 simp only [e] at h1
 exact h1
theorem rightW_len {l : List Wr} (h : rightW l = true) : l.length ≤ 12 := by
 unfold rightW at h
 rw [Bool.and_eq_true, decide_eq_true_eq] at h
 exact h.1
theorem bef_tri {a b : Wr} (h : bef a b = false) (hk : ¬ (a.c = b.c ∧ a.id = b.id)) : bef b a = true := by
 unfold bef at *
 simp only [Bool.or_eq_true, Bool.and_eq_true, decide_eq_true_eq, beq_iff_eq, Bool.or_eq_false_iff, decide_eq_false_iff_not, Bool.and_eq_false_iff, beq_eq_false_iff_ne, ne_eq] at *
 omega
theorem bef_congr {a b k : Wr} (h : bef a b = true) (hc : a.c = k.c) (hi : a.id = k.id) : bef k b = true := by
 unfold bef at *
 rw [← hc, ← hi]; exact h
theorem bs_split {l : List Wr} (k : Wr) (hs : l.Pairwise fun a b => bef a b = true) : ∃ A M D, l = A ++ (M ++ D) ∧ A.length = bsP l k ∧ (∀ a ∈ A, bef a k = true) ∧ (∀ d ∈ D, bef k d = true) ∧ ((bsB l k = true ∧ ∃ x, M = [x] ∧ x.c = k.c ∧ x.id = k.id) ∨ (bsB l k = false ∧ M = [])) := by
 obtain ⟨h1, h2⟩ := bsP_sp (k := k) hs
 have hle := bsP_le l k
 have hA : ∀ a ∈ l.take (bsP l k), bef a k = true := fun a ha => by
  obtain ⟨i, hi, rfl⟩ := List.getElem_of_mem ha
  rw [List.length_take] at hi
  rw [List.getElem_take]
  exact h1 i _ (by omega) (List.getElem?_eq_getElem (by omega))
 have hl : (l.take (bsP l k)).length = bsP l k := by rw [List.length_take]; omega
 have hsp := List.take_append_drop (bsP l k) l
 by_cases hp : bsP l k < l.length
 ·have hd : l.drop (bsP l k) = l[bsP l k] :: l.drop (bsP l k + 1) := List.drop_eq_getElem_cons hp
  have hx : l[bsP l k]? = some l[bsP l k] := List.getElem?_eq_getElem hp
  have hbx := h2 _ _ (Nat.le_refl _) hx
  have hB : bsB l k = (l[bsP l k].c == k.c && l[bsP l k].id == k.id) := by
   unfold bsB
   rw [hx]
   exact cmp0 _ _
  have hpw : ∀ d ∈ l.drop (bsP l k + 1), bef l[bsP l k] d = true := by
   have := hs.drop (i := bsP l k)
   rw [hd] at this
   exact (List.pairwise_cons.1 this).1
  rw [hd] at hsp
  generalize l[bsP l k] = x at *
  cases hb : (x.c == k.c && x.id == k.id)
  ·rw [hb] at hB
   have hkx : bef k x = true := bef_tri hbx (fun e => by rw [e.1, e.2] at hb; simp at hb)
   refine ⟨_, [], _, hsp.symm, hl, hA, fun d hd => ?_, .inr ⟨hB, rfl⟩⟩
   rcases List.mem_cons.1 hd with rfl | hd
   ·exact hkx
   ·exact bef_trans hkx (hpw d hd)
  ·rw [hb] at hB
   simp only [Bool.and_eq_true, beq_iff_eq] at hb
   exact ⟨_, [x], _, hsp.symm, hl, hA, fun d hd => bef_congr (hpw d hd) hb.1 hb.2, .inl ⟨hB, x, rfl, hb.1, hb.2⟩⟩
 ·have hx : l[bsP l k]? = none := List.getElem?_eq_none (by omega)
  have hB : bsB l k = false := by unfold bsB; rw [hx]
  have hd : l.drop (bsP l k) = [] := List.drop_of_length_le (by omega)
  rw [hd] at hsp
  exact ⟨_, [], [], hsp.symm, hl, hA, fun d hd => by simp at hd, .inr ⟨hB, rfl⟩⟩
theorem map_set_mid {A D : List Wr} {x w : Wr} : (A ++ ([x] ++ D)).set A.length w = A ++ w :: D := by
 rw [List.set_append_right _ _ (Nat.le_refl _), Nat.sub_self]; rfl
end Go.Q.SU
end

section
/- The document's rows: what comes of writes over rows. -/
namespace Go.Q.SU
open Go.Q
theorem RM.nil : RM [] [] := ⟨List.Pairwise.nil, fun id v => by simp [vw]⟩
theorem RM.put {R : List Rw} {L : List (En Int Vc)} {clk : Nat} (h : RM R L) (hm : MOk L clk) (r : Rw) : RM (putR R r) (mput L clk r.id r.v).1 := by
 refine ⟨asc_putR h.1 r, fun id v => ?_⟩
 rw [mem_putR, vw_mput]
 by_cases e : id = r.id
 ·rw [if_pos e]
  subst e
  constructor
  ·rintro (h' | ⟨-, h'⟩)
   ·rw [← h']
   ·exact absurd rfl h'
  ·intro h'
   rw [Option.some.injEq] at h'
   subst h'
   exact .inl rfl
 ·rw [if_neg e, ← h.2]
  constructor
  ·rintro (h' | ⟨h', -⟩)
   ·exact absurd (by rw [← h']) e
   ·exact h'
  ·intro h'; exact .inr ⟨h', e⟩
def ovStep (R : List Rw) (w : Wr) : List Rw := if w.g then delR R w.id else putR R ⟨w.id, w.v⟩
def ovR (rows : List Rw) (l : List Wr) : List Rw := l.foldl ovStep (rows.foldl putR [])
def cpR (r : Rw) : Rw := ⟨r.id, cp r.v⟩
theorem fz_row {σ : Sto} {i : Nat} {r : Rw} (h : σ i = some (.row 1 ((lst r.v).map i32V))) {S : Nat → Prop} (hS : S i) :
 FzL σ 11 [.agg [.int .u64 r.id, .ref i 0 (lst r.v).length 1]] [rwV (cpR r)] S := by
 obtain ⟨h1, h2⟩ := fz_vec h hS
 refine ⟨?_, ?_⟩
 ·simp only [List.mapM_cons, List.mapM_nil, elemM, h1]
  rfl
 ·intro x hx c hc id hid
  rw [List.mem_singleton] at hx
  subst hx
  simp only [V.cells, List.mem_cons, List.not_mem_nil, or_false] at hc
  rcases hc with rfl | rfl
  ·simp [rch] at hid
  ·exact h2 id hid
theorem RM.head {r : Rw} {R : List Rw} {L : List (En Int Vc)} {clk : Nat} (h : RM (r :: R) L) (hm : MOk L clk) {a : Int} (h1 : ∃ e ∈ L, e.1 = a) (h2 : ∀ e ∈ L, a ≤ e.1) : a = r.id := by
 obtain ⟨e, he, rfl⟩ := h1
 have hv : vw L r.id = some r.v := (h.2 r.id r.v).1 List.mem_cons_self
 obtain ⟨s, hs⟩ := (vw_some hm.keys).1 hv
 have h3 := h2 _ hs
 have hv2 : vw L e.1 = some e.2.1 := (vw_some hm.keys).2 ⟨e.2.2, he⟩
 have h4 := (h.2 e.1 e.2.1).2 hv2
 rcases List.mem_cons.1 h4 with h5 | h5
 ·rw [← h5]
 ·have := (List.pairwise_cons.1 h.1).1 _ h5
  simp only at this h3
  omega
theorem RM.some {r : Rw} {R : List Rw} {L : List (En Int Vc)} (h : RM (r :: R) L) : 0 < L.length := by
 have hv : vw L r.id = Option.some r.v := (h.2 r.id r.v).1 List.mem_cons_self
 cases L with
 | nil => simp [vw] at hv
 | cons e L => simp
theorem RM.none {L : List (En Int Vc)} {clk : Nat} (h : RM [] L) (hm : MOk L clk) : L = [] := by
 cases L with
 | nil => rfl
 | cons e L =>
   have hv : vw (e :: L) e.1 = Option.some e.2.1 := (vw_some hm.keys).2 ⟨e.2.2, List.mem_cons_self⟩
   have := (h.2 e.1 e.2.1).2 hv
   simp at this
end Go.Q.SU
end

section
/- The document's rows: Overlay. -/
namespace Go.Q.SU
open Go.Q
def uV (x : Int) : V := .int .u64 x
theorem keyU : KeyOk (.one .int) uV := fun a b => rfl
theorem insR_len (r : Rw) : ∀ s, (insR r s).length = s.length + 1
 | [] => rfl
 | x :: s => by unfold insR; split <;> simp [insR_len r s]
theorem delR_len (R : List Rw) (a : Int) : (delR R a).length ≤ R.length := List.length_filter_le _ _
theorem putR_len (R : List Rw) (r : Rw) : (putR R r).length ≤ R.length + 1 := by
 unfold putR; rw [insR_len]; have := delR_len R r.id; omega
theorem fold_len (l : List Wr) : ∀ R, (l.foldl ovStep R).length ≤ R.length + l.length := by
 induction l with
 | nil => intro R; simp
 | cons w l ih =>
   intro R
   rw [List.foldl_cons]
   have h1 := ih (ovStep R w)
   have h2 : (ovStep R w).length ≤ R.length + 1 := by
    unfold ovStep; split
    ·have := delR_len R w.id; omega
    ·exact putR_len _ _
   simp only [List.length_cons]; omega
theorem foldp_len (l : List Rw) : ∀ R, (l.foldl putR R).length ≤ R.length + l.length := by
 induction l with
 | nil => intro R; simp
 | cons w l ih =>
   intro R
   rw [List.foldl_cons]
   have h1 := ih (putR R w)
   have h2 := putR_len R w
   simp only [List.length_cons]; omega
theorem ovR_len (rows : List Rw) (l : List Wr) : (ovR rows l).length ≤ rows.length + l.length := by
 unfold ovR
 have h1 := fold_len l (rows.foldl putR [])
 have h2 := foldp_len rows []
 simp only [List.length_nil] at h2; omega
theorem foldp_all {P : Vc → Prop} : ∀ (l R : List Rw), (∀ r ∈ l, P r.v) → (∀ r ∈ R, P r.v) → ∀ r ∈ l.foldl putR R, P r.v
 | [], R, _, h2 => h2
 | w :: l, R, h1, h2 => foldp_all l (putR R w) (fun r hr => h1 r (List.mem_cons_of_mem _ hr)) (fun r hr => by
  rcases mem_putR.1 hr with rfl | hr
  ·exact h1 _ List.mem_cons_self
  ·exact h2 r hr.1)
theorem fold_all {P : Vc → Prop} : ∀ (l : List Wr) (R : List Rw), (∀ w ∈ l, P w.v) → (∀ r ∈ R, P r.v) → ∀ r ∈ l.foldl ovStep R, P r.v
 | [], R, _, h2 => h2
 | w :: l, R, h1, h2 => fold_all l (ovStep R w) (fun r hr => h1 r (List.mem_cons_of_mem _ hr)) (fun r hr => by
  unfold ovStep at hr
  split at hr
  ·exact h2 r (mem_delR.1 hr).1
  ·rcases mem_putR.1 hr with rfl | hr
   ·exact h1 w List.mem_cons_self
   ·exact h2 r hr.1)
theorem ovR_all {P : Vc → Prop} {rows : List Rw} {l : List Wr} (h1 : ∀ r ∈ rows, P r.v) (h2 : ∀ w ∈ l, P w.v) : ∀ r ∈ ovR rows l, P r.v :=
 fold_all l _ h2 (foldp_all rows [] h1 (fun r hr => by simp at hr))
end Go.Q.SU
end

section
/- The pivot of a sort. -/
namespace Go.Q.SU
open Go.Q
instance : Inhabited Rw := ⟨⟨0, none⟩⟩
abbrev CmpF (F : Nat) : Prop := ∀ (a b : Int) (u v : Vc) (fs : Bool) (σ : Sto) (n lk : Nat), callE T fs F [.agg [.int .u64 a, slV 1 i32V u], .agg [.int .u64 b, slV 1 i32V v]] σ n lk = some (.int .i64 (cmpU a b), σ, n)
theorem r42 (a b : Int) (u v : Vc) : res T 42 [.agg [.int .u64 a, slV 1 i32V u], .agg [.int .u64 b, slV 1 i32V v]] = some (.int .i64 (cmpU a b)) := by
 refine run_res (run_pure (fn := g42) rfl rfl (by decide) ?_)
 simp only [g42, b42, zO, zN, zM, zL, zG, zP, zQ, zI, zA, zT, zF, zB, zC, zD, zE, zH, zJ, zK]
 simp +contextual -implicitDefEqProofs (maxSteps := 2000000) only [↓wP, wS, seval, f43]
def f42 (a b : Int) (u v : Vc) := callE_tr (by decide) (r42 a b u v) (by simp [Tr, Tr_slV]) rfl
theorem cmp42 : CmpF 42 := fun a b u v fs σ n lk => f42 a b u v fs σ n lk
def rw' (d : Array Rw) : List V := d.toList.map rwV
theorem rw_at {d : Array Rw} {i : Nat} (h : i < d.size) : (rw' d)[i]? = some (.agg [.int .u64 (d[i]!).id, slV 1 i32V (d[i]!).v]) := by
 unfold rw'
 rw [List.getElem?_map, List.getElem?_eq_getElem (by simpa using h), Option.map_some]
 simp [rwV, h]
theorem wrap_nat {m : Nat} (h : m < 9223372036854775808) : IntKind.i64.wrap (m : Int) = (m : Int) := by rw [wrap_i64] <;> omega
theorem bin_quo4 (m : Nat) (h : m < 9223372036854775808) : binV .quo (.int .i64 (m : Int)) (.int .i64 4) = some (.int .i64 ((m / 4 : Nat) : Int)) := by
 rw [bin_quo .i64 (m : Int) 4 (by decide)]
 have e : (m : Int).tdiv 4 = ((m / 4 : Nat) : Int) := rfl
 rw [e, wrap_nat (by omega)]
theorem raw90 (F : Nat) (hF : CmpF F) (d : Array Rw) (a b : Nat) (s : Int) (sid n : Nat) (σ : Sto) (ha : a < d.size) (hb : b < d.size) (hs : σ sid = some (.row 1 [.int .i64 s])) {Q : V → Sto → Nat → Prop}
 (hQ : ∀ (x y : Nat) (s' : Int) (σ' : Sto), (x = a ∨ x = b) → (y = a ∨ y = b) → σ' sid = some (.row 1 [.int .i64 s']) → (∀ i, i ≠ sid → σ' i = σ i) → Q (.tup [.int .i64 (x : Int), .int .i64 (y : Int)]) σ' n) :
 run T (.raw 90 [.sl 2 (rw' d), .int .i64 (a : Int), .int .i64 (b : Int), .ptr sid 1 0 0, .fn F []] σ n 0) (memQ Q) := by
 refine run_rawE (fn := g90) rfl rfl ?_
 simp only [g90, b90, zO, zN, zM, zL, zG, zP, zQ, zI, zA, zT, zF, zB, zC, zD, zE, zH, zJ, zK]
 have hxa := rw_at ha
 have hxb := rw_at hb
 by_cases hc : cmpU (d[b]!).id (d[a]!).id < 0
 ·simp +contextual -implicitDefEqProofs (maxSteps := 2000000) only [↓wP, wS, seval, hxa, hxb, hF, hc, hs]
  exact hQ b a _ _ (.inr rfl) (.inl rfl) (by simp [upd]; rfl) (fun i hi => by simp [upd, hi])
 ·simp +contextual -implicitDefEqProofs (maxSteps := 2000000) only [↓wP, wS, seval, hxa, hxb, hF, hc, hs]
  exact hQ a b _ _ (.inl rfl) (.inr rfl) hs (fun i hi => rfl)
theorem raw88 (F : Nat) (hF : CmpF F) (d : Array Rw) (a b c : Nat) (s : Int) (sid n : Nat) (σ : Sto) (ha : a < d.size) (hb : b < d.size) (hc : c < d.size) (hs : σ sid = some (.row 1 [.int .i64 s])) {Q : V → Sto → Nat → Prop}
 (hQ : ∀ (x : Nat) (s' : Int) (σ' : Sto), (x = a ∨ x = b ∨ x = c) → σ' sid = some (.row 1 [.int .i64 s']) → (∀ i, i ≠ sid → σ' i = σ i) → Q (.int .i64 (x : Int)) σ' n) :
 run T (.raw 88 [.sl 2 (rw' d), .int .i64 (a : Int), .int .i64 (b : Int), .int .i64 (c : Int), .ptr sid 1 0 0, .fn F []] σ n 0) (memQ Q) := by
 refine run_rawE (fn := g88) rfl rfl ?_
 simp only [g88, b88, zO, zN, zM, zL, zG, zP, zQ, zI, zA, zT, zF, zB, zC, zD, zE, zH, zJ, zK]
 simp +contextual -implicitDefEqProofs (maxSteps := 2000000) only [↓wP, wS, seval]
 refine stepW_raw (by decide) (raw90 F hF d a b s sid n σ ha hb hs fun x y s1 σ1 hx hy h1 h2 => ?_)
 simp +contextual -implicitDefEqProofs (maxSteps := 2000000) only [↓wP, wS, seval]
 have hy' : y < d.size := by rcases hy with rfl | rfl <;> assumption
 have hx' : x < d.size := by rcases hx with rfl | rfl <;> assumption
 refine stepW_raw (by decide) (raw90 F hF d y c s1 sid n σ1 hy' hc h1 fun x2 y2 s2 σ2 hx2 hy2 h3 h4 => ?_)
 simp +contextual -implicitDefEqProofs (maxSteps := 2000000) only [↓wP, wS, seval]
 have hx2' : x2 < d.size := by rcases hx2 with rfl | rfl <;> assumption
 refine stepW_raw (by decide) (raw90 F hF d x x2 s2 sid n σ2 hx' hx2' h3 fun x3 y3 s3 σ3 hx3 hy3 h5 h6 => ?_)
 simp +contextual -implicitDefEqProofs (maxSteps := 2000000) only [↓wP, wS, seval]
 refine hQ y3 s3 σ3 ?_ h5 (fun i hi => by rw [h6 i hi, h4 i hi, h2 i hi])
 rcases hy3 with rfl | rfl
 ·rcases hx with rfl | rfl <;> simp
 ·rcases hx2 with rfl | rfl
  ·rcases hy with rfl | rfl <;> simp
  ·simp
theorem raw87 (F : Nat) (hF : CmpF F) (d : Array Rw) (a : Nat) (s : Int) (sid n : Nat) (σ : Sto) (ha : 1 ≤ a) (hb : a + 1 < d.size) (hn : d.size < 1000000) (hs : σ sid = some (.row 1 [.int .i64 s])) {Q : V → Sto → Nat → Prop}
 (hQ : ∀ (x : Nat) (s' : Int) (σ' : Sto), (x = a - 1 ∨ x = a ∨ x = a + 1) → σ' sid = some (.row 1 [.int .i64 s']) → (∀ i, i ≠ sid → σ' i = σ i) → Q (.int .i64 (x : Int)) σ' n) :
 run T (.raw 87 [.sl 2 (rw' d), .int .i64 (a : Int), .ptr sid 1 0 0, .fn F []] σ n 0) (memQ Q) := by
 refine run_rawE (fn := g87) rfl rfl ?_
 simp only [g87, b87, zO, zN, zM, zL, zG, zP, zQ, zI, zA, zT, zF, zB, zC, zD, zE, zH, zJ, zK]
 have w1 : IntKind.i64.wrap ((a : Int) - 1) = ((a - 1 : Nat) : Int) := by rw [wrap_i64] <;> omega
 have w2 : IntKind.i64.wrap ((a : Int) + 1) = ((a + 1 : Nat) : Int) := by rw [wrap_i64] <;> omega
 simp +contextual -implicitDefEqProofs (maxSteps := 2000000) only [↓wP, wS, seval, w1, w2]
 refine stepW_raw (by decide) (raw88 F hF d (a - 1) a (a + 1) s sid n σ (by omega) (by omega) (by omega) hs fun x s' σ' hx h1 h2 => ?_)
 simp +contextual -implicitDefEqProofs (maxSteps := 2000000) only [↓wP, wS, seval]
 exact hQ x s' σ' hx h1 h2
theorem r74 (F : Nat) (hF : CmpF F) (d : Array Rw) (a b : Nat) (hab : a < b) (hb : b ≤ d.size) (hn : d.size < 1000000) :
 ∃ (p : Nat) (h : Int), a ≤ p ∧ p < b ∧ (h = 0 ∨ h = 1 ∨ h = 2) ∧ res T 74 [.sl 2 (rw' d), .int .i64 (a : Int), .int .i64 (b : Int), .fn F []] = some (.tup [.int .i64 (p : Int), .int .i64 h]) := by
 obtain ⟨r, hr, p, h, h1, h2, h3, rfl⟩ := res_pure (T := T) (f := 74) (args := [.sl 2 (rw' d), .int .i64 (a : Int), .int .i64 (b : Int), .fn F []])
  (R := fun r => ∃ (p : Nat) (h : Int), a ≤ p ∧ p < b ∧ (h = 0 ∨ h = 1 ∨ h = 2) ∧ r = .tup [.int .i64 (p : Int), .int .i64 h]) (fn := g74) rfl rfl (by decide) (by
  simp only [g74, b74, zO, zN, zM, zL, zG, zP, zQ, zI, zA, zT, zF, zB, zC, zD, zE, zH, zJ, zK]
  have w1 : IntKind.i64.wrap ((b : Int) - (a : Int)) = ((b - a : Nat) : Int) := by rw [wrap_i64] <;> omega
  have q4 := bin_quo4 (b - a) (by omega)
  have w2 : IntKind.i64.wrap ((((b - a) / 4 : Nat) : Int) * 1) = (((b - a) / 4 : Nat) : Int) := by rw [wrap_i64] <;> omega
  have w3 : IntKind.i64.wrap ((((b - a) / 4 : Nat) : Int) * 2) = (((b - a) / 4 * 2 : Nat) : Int) := by rw [wrap_i64] <;> omega
  have w4 : IntKind.i64.wrap ((((b - a) / 4 : Nat) : Int) * 3) = (((b - a) / 4 * 3 : Nat) : Int) := by rw [wrap_i64] <;> omega
  have w5 : IntKind.i64.wrap ((a : Int) + (((b - a) / 4 : Nat) : Int)) = ((a + (b - a) / 4 : Nat) : Int) := by rw [wrap_i64] <;> omega
  have w6 : IntKind.i64.wrap ((a : Int) + (((b - a) / 4 * 2 : Nat) : Int)) = ((a + (b - a) / 4 * 2 : Nat) : Int) := by rw [wrap_i64] <;> omega
  have w7 : IntKind.i64.wrap ((a : Int) + (((b - a) / 4 * 3 : Nat) : Int)) = ((a + (b - a) / 4 * 3 : Nat) : Int) := by rw [wrap_i64] <;> omega
  by_cases c8 : (8 : Int) ≤ ((b - a : Nat) : Int)
  ·by_cases c50 : (50 : Int) ≤ ((b - a : Nat) : Int)
   ·simp +contextual -implicitDefEqProofs (maxSteps := 2000000) only [↓wP, wS, seval, w1, q4, w2, w3, w4, w5, w6, w7, c8, c50]
    obtain ⟨q, hq⟩ : ∃ q, q = (b - a) / 4 := ⟨_, rfl⟩
    have hq1 : 12 ≤ q := by omega
    have hq2 : q * 4 ≤ b - a := by omega
    rw [← hq]
    clear w1 q4 w2 w3 w4 w5 w6 w7 c8 c50
    have l1 : a + q + 1 < b := by omega
    have l2 : a + q * 2 + 1 < b := by omega
    have l3 : a + q * 3 + 1 < b := by omega
    have l4 : a + 1 ≤ a + q := by omega
    have l5 : a + 1 ≤ a + q * 2 := by omega
    have l6 : a + 1 ≤ a + q * 3 := by omega
    clear hq hq1 hq2
    generalize a + q = i1 at *
    generalize a + q * 2 = i2 at *
    generalize a + q * 3 = i3 at *
    refine stepW_raw (by decide) (raw87 F hF d i1 0 0 1 _ (by omega) (by omega) hn (by simp [upd]) fun x1 s1 σ1 hx1 g1 g2 => ?_)
    have b1 : a ≤ x1 ∧ x1 < b := by omega
    clear hx1
    simp +contextual -implicitDefEqProofs (maxSteps := 2000000) only [↓wP, wS, seval]
    refine stepW_raw (by decide) (raw87 F hF d i2 s1 0 1 σ1 (by omega) (by omega) hn g1 fun x2 s2 σ2 hx2 g3 g4 => ?_)
    have b2 : a ≤ x2 ∧ x2 < b := by omega
    clear hx2
    simp +contextual -implicitDefEqProofs (maxSteps := 2000000) only [↓wP, wS, seval]
    refine stepW_raw (by decide) (raw87 F hF d i3 s2 0 1 σ2 (by omega) (by omega) hn g3 fun x3 s3 σ3 hx3 g5 g6 => ?_)
    have b3 : a ≤ x3 ∧ x3 < b := by omega
    clear hx3
    simp +contextual -implicitDefEqProofs (maxSteps := 2000000) only [↓wP, wS, seval]
    refine stepW_raw (by decide) (raw88 F hF d x1 x2 x3 s3 0 1 σ3 (by omega) (by omega) (by omega) g5 fun x s' σ' hx h1 h2 => ?_)
    have hx' : a ≤ x ∧ x < b := by omega
    by_cases e0 : s' = 0
    ·simp +contextual -implicitDefEqProofs (maxSteps := 2000000) only [↓wP, wS, seval, h1, e0]
     exact ⟨x, 1, hx'.1, hx'.2, by simp, rfl⟩
    ·have d0 : (s' == 0) = false := by simpa using e0
     by_cases e12 : s' = 12
     ·simp +contextual -implicitDefEqProofs (maxSteps := 2000000) only [↓wP, wS, seval, h1, e12]
      exact ⟨x, 2, hx'.1, hx'.2, by simp, rfl⟩
     ·have d12 : (s' == 12) = false := by simpa using e12
      simp +contextual -implicitDefEqProofs (maxSteps := 2000000) only [↓wP, wS, seval, h1, d0, d12]
      exact ⟨x, 0, hx'.1, hx'.2, by simp, rfl⟩
   ·simp +contextual -implicitDefEqProofs (maxSteps := 2000000) only [↓wP, wS, seval, w1, q4, w2, w3, w4, w5, w6, w7, c8, c50]
    refine stepW_raw (by decide) (raw88 F hF d _ _ _ 0 0 1 _ (by omega) (by omega) (by omega) (by simp [upd]) fun x s' σ' hx h1 h2 => ?_)
    have hx' : a ≤ x ∧ x < b := by omega
    by_cases e0 : s' = 0
    ·simp +contextual -implicitDefEqProofs (maxSteps := 2000000) only [↓wP, wS, seval, h1, e0]
     exact ⟨x, 1, hx'.1, hx'.2, by simp, rfl⟩
    ·have d0 : (s' == 0) = false := by simpa using e0
     by_cases e12 : s' = 12
     ·simp +contextual -implicitDefEqProofs (maxSteps := 2000000) only [↓wP, wS, seval, h1, e12]
      exact ⟨x, 2, hx'.1, hx'.2, by simp, rfl⟩
     ·have d12 : (s' == 12) = false := by simpa using e12
      simp +contextual -implicitDefEqProofs (maxSteps := 2000000) only [↓wP, wS, seval, h1, d0, d12]
      exact ⟨x, 0, hx'.1, hx'.2, by simp, rfl⟩
  ·simp +contextual -implicitDefEqProofs (maxSteps := 2000000) only [↓wP, wS, seval, w1, q4, w2, w3, w4, w5, w6, w7, c8]
   exact ⟨a + (b - a) / 4 * 2, 1, by omega, by omega, by simp, rfl⟩)
 exact ⟨p, h, h1, h2, h3, hr⟩
end Go.Q.SU
end

section
/- ideal.State; which rows are the same. -/
namespace Go.Q.SU
open Go.Q Go.Sort
theorem asc_step {R : List Rw} (h : Asc R) (w : Wr) : Asc (ovStep R w) := by
 unfold ovStep
 split
 ·exact asc_delR h _
 ·exact asc_putR h _
theorem asc_fold : ∀ (W : List Wr) {R : List Rw}, Asc R → Asc (W.foldl ovStep R)
 | [], _, h => h
 | w :: W, _, h => asc_fold W (asc_step h w)
def sameR1 (a b : Rw) : Bool := a.id == b.id && lst a.v == lst b.v
def SmR (l : Option (List Rw)) : Prop := (lst l).length < 4611686018427387904 ∧ ∀ r ∈ lst l, Sm r.v
theorem r26 (a b : Rw) (ha : Sm a.v) : res T 26 [rwV a, rwV b] = some (.bool (sameR1 a b)) := by
 refine run_res (run_pure (fn := g26) rfl rfl (by decide) ?_)
 simp only [g26, b26, zO, zN, zM, zL, zG, zP, zQ, zI, zA, zT, zF, zB, zC, zD, zE, zH, zJ, zK]
 have f := f48 a.v b.v (by unfold Sm at ha; omega)
 unfold sameR1
 obtain ⟨i, v⟩ := a
 obtain ⟨j, w⟩ := b
 simp only at *
 cases hk : (i == j)
 ·simp +contextual -implicitDefEqProofs (maxSteps := 2000000) only [↓wP, wS, seval, rwV_eq, hk]
 ·simp +contextual -implicitDefEqProofs (maxSteps := 2000000) only [↓wP, wS, seval, rwV_eq, hk, f]
def f26 (a b : Rw) (ha : Sm a.v) := callE_tr (by decide) (r26 a b ha) (by simp [Tr, Tr_slV, rwV_eq]) rfl
theorem r22 (a b : Option (List Rw)) (ha : SmR a) (hb : SmR b) : res T 22 [slV 2 rwV a, slV 2 rwV b] = some (.bool (sameL sameR1 (lst a) (lst b))) := by
 refine run_res (run_pure (fn := g22) rfl rfl (by decide) ?_)
 simp only [g22, b22, zO, zN, zM, zL, zG, zP, zQ, zI, zA, zT, zF, zB, zC, zD, zE, zH, zJ, zK]
 have hla := ha.1
 have hlb := hb.1
 unfold sameL
 by_cases hlen : (lst a).length = (lst b).length
 ·have hd : (((lst a).length : Int) != ((lst b).length : Int)) = false := by simp [hlen]
  rw [decide_eq_true hlen, Bool.true_and]
  simp +contextual -implicitDefEqProofs (maxSteps := 2000000) only [↓wP, wS, seval, hd]
  refine WC_for (lst a).length 0 (fun (j : Nat) env σ n => env 0 = slV 2 rwV a ∧ env 1 = slV 2 rwV b ∧ smU sameR1 (lst a) (lst b) j = true) (by omega) (by decide) (by decide) (fun _ _ => rfl) (fun _ _ _ => rfl) ?_ ?_ _ _ _ rfl rfl ?_
  ·intro j env σ n hj h1 h2 ⟨g1, g2, g3⟩
   simp only [vl_tmp] at h2
   have hx : (lst a)[j]? = some (lst a)[j] := List.getElem?_eq_getElem hj
   have hy : (lst b)[j]? = some (lst b)[j] := List.getElem?_eq_getElem (by omega)
   have hst := smU_step (p := sameR1) hj (by omega : j < (lst b).length)
   rw [g3, Bool.true_and] at hst
   have hvx := ha.2 _ (List.getElem_mem hj)
   have hno : sameR1 (lst a)[j] (lst b)[j] = false → smU sameR1 (lst a) (lst b) (lst a).length = false := fun hk => smU_no (by rw [hst, hk]) _ (by omega)
   generalize (lst a)[j] = x at *
   generalize (lst b)[j] = y at *
   have f := f26 x y hvx
   rw [rwV_eq, rwV_eq] at f
   cases k5 : sameR1 x y
   ·rw [k5] at f
    have hk := hno k5
    simp +contextual -implicitDefEqProofs (maxSteps := 2000000) only [↓wP, wS, seval, h1, h2, g1, g2, hx, hy, rwV_eq, f]
    rw [hk]
   ·rw [k5] at f
    simp +contextual -implicitDefEqProofs (maxSteps := 2000000) only [↓wP, wS, seval, h1, h2, g1, g2, hx, hy, rwV_eq, f]
    rw [hst, k5]
  ·intro env σ n ⟨g1, g2, g3⟩ h1 h2
   simp +contextual -implicitDefEqProofs (maxSteps := 2000000) only [↓wP, wS, seval]
   rw [g3]
  ·simp +contextual -implicitDefEqProofs (maxSteps := 2000000) only [↓wP, wS, seval]
   rfl
 ·have hd : (((lst a).length : Int) != ((lst b).length : Int)) = true := by simp; omega
  rw [decide_eq_false hlen]
  simp +contextual -implicitDefEqProofs (maxSteps := 2000000) only [↓wP, wS, seval, hd]
def f22 (a b : Option (List Rw)) (ha : SmR a) (hb : SmR b) := callE_tr (by decide) (r22 a b ha hb) (by simp [Tr, Tr_slV]) rfl
theorem same_r {l m : List Rw} (h : l.map (fun r => (r.id, lst r.v)) = m.map (fun r => (r.id, lst r.v))) : sameL sameR1 l m = true := sameL_of (q := fun r : Rw => (r.id, lst r.v)) (fun a b h => by
 simp only [Prod.mk.injEq] at h
 unfold sameR1
 rw [h.1, h.2]; simp) h
end Go.Q.SU
end

section
/- The arguments of WritesSeen, as trees. -/
set_option maxRecDepth 20000
namespace Go.Q.SU
open Go.Q Go.Proofs
def eI32 : Enc Try.prog 21 Int := Enc.int .i32 Try.underlying21
def eInt : Enc Try.prog 3 Int := Enc.int .i64 Try.underlying3
def eU64 : Enc Try.prog 26 Int := Enc.int .u64 Try.underlying26
def eBool : Enc Try.prog 4 Bool := Enc.bool Try.underlying4
def eVec : Enc Try.prog 27 (Option (List Int)) := Enc.slice eI32 Try.underlying27 1 (by kernel_rfl) (by decide) 4 (by kernel_rfl)
theorem okVec {o : Option (List Int)} (h : eVec.ok o) : (lst o).length < 4611686018427387904 := by
 cases o with
 | none => simp [lst]
 | some l =>
   obtain ⟨h1, h2, h3⟩ := h l rfl
   rw [reach_eq] at h2
   rw [lst_some]
   omega
def eRo : Enc Try.prog 48 Rw := Enc.map
 (Enc.struct (EncF.cons (off := 0) (sz := 1) eU64 rfl (by kernel_rfl) (EncF.cons (sz := 1) eVec rfl (by kernel_rfl) EncF.nil)) Try.underlying48 (by kernel_rfl))
 (fun x => ⟨x.1, x.2.1⟩) rwV (fun r => Sm r.v) (fun a _ => by obtain ⟨a, d, u⟩ := a; cases d <;> rfl) (fun a h => by have := okVec h.2.1; unfold Sm; dsimp only at this ⊢; omega)
def eRos : Enc Try.prog 37 (Option (List Rw)) := Enc.slice eRo Try.underlying37 2 (by kernel_rfl) (by decide) 32 (by kernel_rfl)
theorem okRos {o : Option (List Rw)} (h : eRos.ok o) : SmR o := by
 cases o with
 | none => exact ⟨by simp [lst], by simp [lst]⟩
 | some l =>
   obtain ⟨h1, h2, h3⟩ := h l rfl
   rw [reach_eq] at h2
   exact ⟨by rw [lst_some]; omega, fun r hr => h3 r hr⟩
def eOp : Enc Try.prog 29 Op := Enc.map
 (Enc.struct (EncF.cons (off := 0) (sz := 1) eBool rfl (by kernel_rfl) (EncF.cons (sz := 1) eBool rfl (by kernel_rfl) (EncF.cons (sz := 1) eInt rfl (by kernel_rfl) (EncF.cons (sz := 1) eU64 rfl (by kernel_rfl) (EncF.cons (sz := 1) eVec rfl (by kernel_rfl) EncF.nil))))) Try.underlying29 (by kernel_rfl))
 (fun x => ⟨x.1, x.2.1, x.2.2.1, x.2.2.2.1, x.2.2.2.2.1⟩) opV (fun r => Sm r.v) (fun a _ => by obtain ⟨a, b, c, d, e, u⟩ := a; cases e <;> rfl) (fun a h => by have := okVec h.2.2.2.2.1; unfold Sm; dsimp only at this ⊢; omega)
def eOps : Enc Try.prog 23 (Option (List Op)) := Enc.slice eOp Try.underlying23 5 (by kernel_rfl) (by decide) 48 (by kernel_rfl)
theorem okOps {o : Option (List Op)} (h : eOps.ok o) : (lst o).length < 4611686018427387904 ∧ ∀ x ∈ lst o, Sm x.v := by
 cases o with
 | none => exact ⟨by simp [lst], by simp [lst]⟩
 | some l =>
   obtain ⟨h1, h2, h3⟩ := h l rfl
   rw [reach_eq] at h2
   exact ⟨by rw [lst_some]; omega, fun r hr => h3 r hr⟩
end Go.Q.SU
end

section
/- What a transaction sees: plain laws. -/
namespace Go.Q.SU
open Go.Q Go.Sort
def roN (l : List Rw) (n : Nat) (r : Rw) : Bool := okV r.v && (match n with | 0 => true | j + 1 => match l[j]? with | some p => decide (p.id < r.id) | none => true)
def roU (l : List Rw) : Nat → Bool
 | 0 => true
 | n + 1 => roU l n && (match l[n]? with | some r => roN l n r | none => true)
theorem roU_step {l : List Rw} {n : Nat} (hn : n < l.length) : roU l (n + 1) = (roU l n && roN l n l[n]) := by
 show (roU l n && _) = _
 rw [List.getElem?_eq_getElem hn]
theorem roU_no {l : List Rw} {n : Nat} (h : roU l n = false) : ∀ m, n ≤ m → roU l m = false
 | 0, hm => by have : n = 0 := by omega
               subst this; cases h
 | m + 1, hm => by
   by_cases e : n = m + 1
   ·subst e; exact h
   ·show (roU l m && _) = false
    rw [roU_no h m (by omega)]; rfl
theorem roU_pre {l : List Rw} : ∀ {n : Nat}, roU l n = true → ∀ j, j < n → (hj : j < l.length) → roN l j l[j] = true
 | 0, _, j, hj, _ => by omega
 | n + 1, h, j, hj, hl => by
   unfold roU at h
   rw [Bool.and_eq_true] at h
   by_cases e : j = n
   ·subst e
    have := h.2
    rw [List.getElem?_eq_getElem hl] at this
    exact this
   ·exact roU_pre h.1 j (by omega) hl
theorem ro_asc {l : List Rw} (h : roU l l.length = true) : Asc l := by
 unfold Asc
 rw [List.pairwise_iff_getElem]
 have step : ∀ j (hj : j + 1 < l.length), (l[j]).id < (l[j + 1]).id := by
  intro j hj
  have := roU_pre h (j + 1) hj hj
  unfold roN at this
  rw [Bool.and_eq_true] at this
  have h2 := this.2
  simp only [List.getElem?_eq_getElem (show j < l.length by omega), decide_eq_true_eq] at h2
  exact h2
 have key : ∀ k i (hi : i < l.length) (hk : i + k + 1 < l.length), (l[i]).id < (l[i + k + 1]).id := by
  intro k
  induction k with
  | zero => intro i hi hk; exact step i hk
  | succ k ih =>
    intro i hi hk
    have h1 := ih i hi (by omega)
    have h2 := step (i + k + 1) (by omega)
    have e : i + (k + 1) + 1 = i + k + 1 + 1 := by omega
    simp only [e]
    omega
 intro i j hi hj hij
 have h1 := key (j - i - 1) i hi (by omega)
 have e : i + (j - i - 1) + 1 = j := by omega
 simp only [e] at h1
 exact h1
theorem w_ids {l : List Wr} (h : rightW l = true) (c : Int) : (l.filter fun w => w.c == c).Pairwise fun a b => a.id < b.id := by
 have h1 := (w_pair h).filter (fun w => w.c == c)
 refine h1.imp_of_mem (fun {a b} ha hb hab => ?_)
 have e1 := (List.mem_filter.1 ha).2
 have e2 := (List.mem_filter.1 hb).2
 simp only [beq_iff_eq] at e1 e2
 unfold bef at hab
 simp only [Bool.or_eq_true, Bool.and_eq_true, decide_eq_true_eq, beq_iff_eq] at hab
 omega
theorem mem_ov : ∀ {W : List Wr} {R : List Rw}, (W.Pairwise fun a b => a.id ≠ b.id) → ∀ x, x ∈ W.foldl ovStep R ↔ (x ∈ R ∧ ∀ w ∈ W, w.id ≠ x.id) ∨ ∃ w ∈ W, w.g = false ∧ x = ⟨w.id, w.v⟩
 | [], R, _, x => by simp
 | w :: W, R, h, x => by
   obtain ⟨h1, h2⟩ := List.pairwise_cons.1 h
   rw [List.foldl_cons, mem_ov h2 x]
   have hs : x ∈ ovStep R w ↔ (x ∈ R ∧ x.id ≠ w.id) ∨ (w.g = false ∧ x = ⟨w.id, w.v⟩) := by
    unfold ovStep
    cases hg : w.g
    ·simp only [Bool.false_eq_true, if_false, mem_putR, true_and]
     constructor
     ·rintro (h | h)
      ·exact .inr h
      ·exact .inl h
     ·rintro (h | h)
      ·exact .inr h
      ·exact .inl h
    ·simp only [if_true, mem_delR, Bool.true_eq_false, false_and, or_false]
   rw [hs]
   constructor
   ·rintro (⟨⟨h3, h4⟩ | ⟨h3, h4⟩, h5⟩ | ⟨w', h3, h4, h5⟩)
    ·exact .inl ⟨h3, fun w' hw' => by
      rcases List.mem_cons.1 hw' with rfl | hw'
      ·exact fun e => h4 e.symm
      ·exact h5 w' hw'⟩
    ·exact .inr ⟨w, List.mem_cons_self, h3, h4⟩
    ·exact .inr ⟨w', List.mem_cons_of_mem _ h3, h4, h5⟩
   ·rintro (⟨h3, h4⟩ | ⟨w', h3, h4, h5⟩)
    ·exact .inl ⟨.inl ⟨h3, fun e => h4 w List.mem_cons_self e.symm⟩, fun w' hw' => h4 w' (List.mem_cons_of_mem _ hw')⟩
    ·rcases List.mem_cons.1 h3 with rfl | h3
     ·exact .inl ⟨.inr ⟨h4, h5⟩, fun w'' hw'' => by
       rw [h5]
       exact fun e => h1 w'' hw'' e.symm⟩
     ·exact .inr ⟨w', h3, h4, h5⟩
theorem fold_put {rows : List Rw} (h : Asc rows) : rows.foldl putR [] = rows := by
 have key : ∀ (l R : List Rw), Asc (R ++ l) → l.foldl putR R = R ++ l := by
  intro l
  induction l with
  | nil => intro R _; simp
  | cons r l ih =>
    intro R hR
    have h1 : putR R r = R ++ [r] := by
     have hRa : Asc R := (List.pairwise_append.1 hR).1
     have hlt : ∀ x ∈ R, x.id < r.id := fun x hx => (List.pairwise_append.1 hR).2.2 x hx r List.mem_cons_self
     refine asc_uniq (asc_putR hRa r) ?_ (fun x => ?_)
     ·unfold Asc
      rw [List.pairwise_append]
      exact ⟨hRa, List.pairwise_singleton _ _, fun a ha b hb => by rw [List.mem_singleton] at hb; subst hb; exact hlt a ha⟩
     ·rw [mem_putR, List.mem_append, List.mem_singleton]
      constructor
      ·rintro (h | ⟨h, -⟩)
       ·exact .inr h
       ·exact .inl h
      ·rintro (h | h)
       ·exact .inr ⟨h, by have := hlt x h; omega⟩
       ·exact .inl h
    rw [List.foldl_cons, h1, ih (R ++ [r]) (by rw [List.append_assoc]; exact hR), List.append_assoc]
    rfl
 have := key rows [] (by simpa using h)
 simpa using this
def ownB (W : List Wr) (id : Int) : Bool := W.any fun w => w.id == id
def ovD (rows : List Rw) (W : List Wr) : List Rw := (rows.filter fun r => !ownB W r.id) ++ (W.filter fun w => !w.g).map fun w => ⟨w.id, w.v⟩
theorem mem_ovD {rows : List Rw} {W : List Wr} (hr : Asc rows) (hw : W.Pairwise fun a b => a.id < b.id) (x : Rw) : x ∈ ovD rows W ↔ x ∈ ovR rows W := by
 unfold ovR
 rw [fold_put hr, mem_ov (hw.imp fun h => by omega)]
 unfold ovD ownB
 rw [List.mem_append, List.mem_filter, List.mem_map]
 constructor
 ·rintro (⟨h1, h2⟩ | ⟨w, h1, h2⟩)
  ·refine .inl ⟨h1, fun w hw e => ?_⟩
   have : (W.any fun w => w.id == x.id) = true := List.any_eq_true.2 ⟨w, hw, by simp [e]⟩
   rw [this] at h2
   exact absurd h2 (by decide)
  ·obtain ⟨h3, h4⟩ := List.mem_filter.1 h1
   exact .inr ⟨w, h3, by simpa using h4, h2.symm⟩
 ·rintro (⟨h1, h2⟩ | ⟨w, h1, h2, h3⟩)
  ·refine .inl ⟨h1, ?_⟩
   have : (W.any fun w => w.id == x.id) = false := List.any_eq_false.2 (fun w hw => by simp [h2 w hw])
   rw [this]; rfl
  ·exact .inr ⟨w, List.mem_filter.2 ⟨h1, by simp [h2]⟩, h3.symm⟩
theorem nodup_ovD {rows : List Rw} {W : List Wr} (hr : Asc rows) (hw : W.Pairwise fun a b => a.id < b.id) : ((ovD rows W).map (·.id)).Nodup := by
 unfold ovD
 rw [List.map_append]
 refine List.nodup_append.2 ⟨?_, ?_, fun a ha b hb hab => ?_⟩
 ·rw [List.nodup_iff_pairwise_ne, List.pairwise_map]
  exact (hr.filter _).imp fun h => by omega
 ·rw [List.map_map, List.nodup_iff_pairwise_ne, List.pairwise_map]
  exact (hw.filter _).imp fun h => by simp only [Function.comp]; omega
 ·obtain ⟨r, h1, rfl⟩ := List.mem_map.1 ha
  obtain ⟨x, h2, rfl⟩ := List.mem_map.1 hb
  obtain ⟨w, h3, rfl⟩ := List.mem_map.1 h2
  have h4 := (List.mem_filter.1 h1).2
  have : ownB W r.id = true := List.any_eq_true.2 ⟨w, (List.mem_filter.1 h3).1, by simpa using hab.symm⟩
  rw [this] at h4
  exact absurd h4 (by decide)
theorem ovR_asc (rows : List Rw) (W : List Wr) : Asc (ovR rows W) := by
 unfold ovR
 refine asc_fold W ?_
 have key : ∀ (l R : List Rw), Asc R → Asc (l.foldl putR R) := by
  intro l
  induction l with
  | nil => intro R h; exact h
  | cons r l ih => intro R h; exact ih _ (asc_putR h r)
 exact key rows [] List.Pairwise.nil
def ovE (l : List Wr) (c : Int) (rows : List Rw) : Int := if rightW l = false then 260 else if collB c = false then 2 else if roU rows rows.length = false then 170 else 0
def ovL (l : List Wr) (c : Int) (rows : List Rw) : List Rw := if ovE l c rows = 0 then ovR rows (l.filter fun w => w.c == c) else []
end Go.Q.SU
end

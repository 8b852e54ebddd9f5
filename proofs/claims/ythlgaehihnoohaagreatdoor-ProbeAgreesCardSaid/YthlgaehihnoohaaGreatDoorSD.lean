/- The table is the program's. -/
import Derived.Test.YthlgaehihnoohaaGreatDoorSC
import Derived.Test.YthlgaehihnoohaaGreatDoorProg
import Derived.KernelRfl
set_option linter.unusedVariables false
set_option linter.unusedSimpArgs false
set_option linter.unusedSectionVars false
set_option linter.defProp false
namespace Go.Q.SD
open Go.Proofs
def Has (f : Nat) (fn : Fn) : Prop := ∃ F, Tryz.prog.funcs[f]? = some F ∧ cFunc Tryz.prog (Go.Q.ownB T) F = some fn ∧ (F.name == "runtime.NumGoroutine") = false
theorem h3 : Has 3 g3 := ⟨Tryz.f3, Tryz.func3, by kernel_rfl, by kernel_rfl⟩
theorem h4 : Has 4 g4 := ⟨Tryz.f4, Tryz.func4, by kernel_rfl, by kernel_rfl⟩
theorem h5 : Has 5 g5 := ⟨Tryz.f5, Tryz.func5, by kernel_rfl, by kernel_rfl⟩
theorem h6 : Has 6 g6 := ⟨Tryz.f6, Tryz.func6, by kernel_rfl, by kernel_rfl⟩
theorem h7 : Has 7 g7 := ⟨Tryz.f7, Tryz.func7, by kernel_rfl, by kernel_rfl⟩
theorem h8 : Has 8 g8 := ⟨Tryz.f8, Tryz.func8, by kernel_rfl, by kernel_rfl⟩
theorem h9 : Has 9 g9 := ⟨Tryz.f9, Tryz.func9, by kernel_rfl, by kernel_rfl⟩
theorem h10 : Has 10 g10 := ⟨Tryz.f10, Tryz.func10, by kernel_rfl, by kernel_rfl⟩
theorem h11 : Has 11 g11 := ⟨Tryz.f11, Tryz.func11, by kernel_rfl, by kernel_rfl⟩
theorem h12 : Has 12 g12 := ⟨Tryz.f12, Tryz.func12, by kernel_rfl, by kernel_rfl⟩
theorem h13 : Has 13 g13 := ⟨Tryz.f13, Tryz.func13, by kernel_rfl, by kernel_rfl⟩
theorem h14 : Has 14 g14 := ⟨Tryz.f14, Tryz.func14, by kernel_rfl, by kernel_rfl⟩
theorem h15 : Has 15 g15 := ⟨Tryz.f15, Tryz.func15, by kernel_rfl, by kernel_rfl⟩
theorem h16 : Has 16 g16 := ⟨Tryz.f16, Tryz.func16, by kernel_rfl, by kernel_rfl⟩
theorem h17 : Has 17 g17 := ⟨Tryz.f17, Tryz.func17, by kernel_rfl, by kernel_rfl⟩
theorem h18 : Has 18 g18 := ⟨Tryz.f18, Tryz.func18, by kernel_rfl, by kernel_rfl⟩
theorem h19 : Has 19 g19 := ⟨Tryz.f19, Tryz.func19, by kernel_rfl, by kernel_rfl⟩
theorem h20 : Has 20 g20 := ⟨Tryz.f20, Tryz.func20, by kernel_rfl, by kernel_rfl⟩
theorem h21 : Has 21 g21 := ⟨Tryz.f21, Tryz.func21, by kernel_rfl, by kernel_rfl⟩
theorem h22 : Has 22 g22 := ⟨Tryz.f22, Tryz.func22, by kernel_rfl, by kernel_rfl⟩
theorem h23 : Has 23 g23 := ⟨Tryz.f23, Tryz.func23, by kernel_rfl, by kernel_rfl⟩
theorem h24 : Has 24 g24 := ⟨Tryz.f24, Tryz.func24, by kernel_rfl, by kernel_rfl⟩
theorem h25 : Has 25 g25 := ⟨Tryz.f25, Tryz.func25, by kernel_rfl, by kernel_rfl⟩
theorem h26 : Has 26 g26 := ⟨Tryz.f26, Tryz.func26, by kernel_rfl, by kernel_rfl⟩
theorem h27 : Has 27 g27 := ⟨Tryz.f27, Tryz.func27, by kernel_rfl, by kernel_rfl⟩
theorem h28 : Has 28 g28 := ⟨Tryz.f28, Tryz.func28, by kernel_rfl, by kernel_rfl⟩
theorem h29 : Has 29 g29 := ⟨Tryz.f29, Tryz.func29, by kernel_rfl, by kernel_rfl⟩
theorem h30 : Has 30 g30 := ⟨Tryz.f30, Tryz.func30, by kernel_rfl, by kernel_rfl⟩
theorem h31 : Has 31 g31 := ⟨Tryz.f31, Tryz.func31, by kernel_rfl, by kernel_rfl⟩
theorem h32 : Has 32 g32 := ⟨Tryz.f32, Tryz.func32, by kernel_rfl, by kernel_rfl⟩
theorem h33 : Has 33 g33 := ⟨Tryz.f33, Tryz.func33, by kernel_rfl, by kernel_rfl⟩
theorem h34 : Has 34 g34 := ⟨Tryz.f34, Tryz.func34, by kernel_rfl, by kernel_rfl⟩
theorem h35 : Has 35 g35 := ⟨Tryz.f35, Tryz.func35, by kernel_rfl, by kernel_rfl⟩
theorem h36 : Has 36 g36 := ⟨Tryz.f36, Tryz.func36, by kernel_rfl, by kernel_rfl⟩
theorem h37 : Has 37 g37 := ⟨Tryz.f37, Tryz.func37, by kernel_rfl, by kernel_rfl⟩
theorem h38 : Has 38 g38 := ⟨Tryz.f38, Tryz.func38, by kernel_rfl, by kernel_rfl⟩
theorem h39 : Has 39 g39 := ⟨Tryz.f39, Tryz.func39, by kernel_rfl, by kernel_rfl⟩
theorem h40 : Has 40 g40 := ⟨Tryz.f40, Tryz.func40, by kernel_rfl, by kernel_rfl⟩
theorem h41 : Has 41 g41 := ⟨Tryz.f41, Tryz.func41, by kernel_rfl, by kernel_rfl⟩
theorem h42 : Has 42 g42 := ⟨Tryz.f42, Tryz.func42, by kernel_rfl, by kernel_rfl⟩
theorem h43 : Has 43 g43 := ⟨Tryz.f43, Tryz.func43, by kernel_rfl, by kernel_rfl⟩
theorem h44 : Has 44 g44 := ⟨Tryz.f44, Tryz.func44, by kernel_rfl, by kernel_rfl⟩
theorem h45 : Has 45 g45 := ⟨Tryz.f45, Tryz.func45, by kernel_rfl, by kernel_rfl⟩
theorem h46 : Has 46 g46 := ⟨Tryz.f46, Tryz.func46, by kernel_rfl, by kernel_rfl⟩
theorem h47 : Has 47 g47 := ⟨Tryz.f47, Tryz.func47, by kernel_rfl, by kernel_rfl⟩
theorem h48 : Has 48 g48 := ⟨Tryz.f48, Tryz.func48, by kernel_rfl, by kernel_rfl⟩
theorem h49 : Has 49 g49 := ⟨Tryz.f49, Tryz.func49, by kernel_rfl, by kernel_rfl⟩
theorem h50 : Has 50 g50 := ⟨Tryz.f50, Tryz.func50, by kernel_rfl, by kernel_rfl⟩
theorem h51 : Has 51 g51 := ⟨Tryz.f51, Tryz.func51, by kernel_rfl, by kernel_rfl⟩
theorem h52 : Has 52 g52 := ⟨Tryz.f52, Tryz.func52, by kernel_rfl, by kernel_rfl⟩
theorem h53 : Has 53 g53 := ⟨Tryz.f53, Tryz.func53, by kernel_rfl, by kernel_rfl⟩
theorem h54 : Has 54 g54 := ⟨Tryz.f54, Tryz.func54, by kernel_rfl, by kernel_rfl⟩
theorem h55 : Has 55 g55 := ⟨Tryz.f55, Tryz.func55, by kernel_rfl, by kernel_rfl⟩
theorem h56 : Has 56 g56 := ⟨Tryz.f56, Tryz.func56, by kernel_rfl, by kernel_rfl⟩
theorem h57 : Has 57 g57 := ⟨Tryz.f57, Tryz.func57, by kernel_rfl, by kernel_rfl⟩
theorem h58 : Has 58 g58 := ⟨Tryz.f58, Tryz.func58, by kernel_rfl, by kernel_rfl⟩
theorem h59 : Has 59 g59 := ⟨Tryz.f59, Tryz.func59, by kernel_rfl, by kernel_rfl⟩
theorem h60 : Has 60 g60 := ⟨Tryz.f60, Tryz.func60, by kernel_rfl, by kernel_rfl⟩
theorem h61 : Has 61 g61 := ⟨Tryz.f61, Tryz.func61, by kernel_rfl, by kernel_rfl⟩
theorem h62 : Has 62 g62 := ⟨Tryz.f62, Tryz.func62, by kernel_rfl, by kernel_rfl⟩
theorem h63 : Has 63 g63 := ⟨Tryz.f63, Tryz.func63, by kernel_rfl, by kernel_rfl⟩
theorem h64 : Has 64 g64 := ⟨Tryz.f64, Tryz.func64, by kernel_rfl, by kernel_rfl⟩
theorem h65 : Has 65 g65 := ⟨Tryz.f65, Tryz.func65, by kernel_rfl, by kernel_rfl⟩
theorem h66 : Has 66 g66 := ⟨Tryz.f66, Tryz.func66, by kernel_rfl, by kernel_rfl⟩
theorem h67 : Has 67 g67 := ⟨Tryz.f67, Tryz.func67, by kernel_rfl, by kernel_rfl⟩
theorem h68 : Has 68 g68 := ⟨Tryz.f68, Tryz.func68, by kernel_rfl, by kernel_rfl⟩
theorem h69 : Has 69 g69 := ⟨Tryz.f69, Tryz.func69, by kernel_rfl, by kernel_rfl⟩
theorem h70 : Has 70 g70 := ⟨Tryz.f70, Tryz.func70, by kernel_rfl, by kernel_rfl⟩
theorem h71 : Has 71 g71 := ⟨Tryz.f71, Tryz.func71, by kernel_rfl, by kernel_rfl⟩
theorem h72 : Has 72 g72 := ⟨Tryz.f72, Tryz.func72, by kernel_rfl, by kernel_rfl⟩
theorem h73 : Has 73 g73 := ⟨Tryz.f73, Tryz.func73, by kernel_rfl, by kernel_rfl⟩
theorem h74 : Has 74 g74 := ⟨Tryz.f74, Tryz.func74, by kernel_rfl, by kernel_rfl⟩
theorem h75 : Has 75 g75 := ⟨Tryz.f75, Tryz.func75, by kernel_rfl, by kernel_rfl⟩
theorem h76 : Has 76 g76 := ⟨Tryz.f76, Tryz.func76, by kernel_rfl, by kernel_rfl⟩
theorem h77 : Has 77 g77 := ⟨Tryz.f77, Tryz.func77, by kernel_rfl, by kernel_rfl⟩
theorem h78 : Has 78 g78 := ⟨Tryz.f78, Tryz.func78, by kernel_rfl, by kernel_rfl⟩
theorem h79 : Has 79 g79 := ⟨Tryz.f79, Tryz.func79, by kernel_rfl, by kernel_rfl⟩
theorem h80 : Has 80 g80 := ⟨Tryz.f80, Tryz.func80, by kernel_rfl, by kernel_rfl⟩
theorem h81 : Has 81 g81 := ⟨Tryz.f81, Tryz.func81, by kernel_rfl, by kernel_rfl⟩
theorem h82 : Has 82 g82 := ⟨Tryz.f82, Tryz.func82, by kernel_rfl, by kernel_rfl⟩
theorem h83 : Has 83 g83 := ⟨Tryz.f83, Tryz.func83, by kernel_rfl, by kernel_rfl⟩
theorem h84 : Has 84 g84 := ⟨Tryz.f84, Tryz.func84, by kernel_rfl, by kernel_rfl⟩
theorem h85 : Has 85 g85 := ⟨Tryz.f85, Tryz.func85, by kernel_rfl, by kernel_rfl⟩
theorem h86 : Has 86 g86 := ⟨Tryz.f86, Tryz.func86, by kernel_rfl, by kernel_rfl⟩
theorem h87 : Has 87 g87 := ⟨Tryz.f87, Tryz.func87, by kernel_rfl, by kernel_rfl⟩
theorem h88 : Has 88 g88 := ⟨Tryz.f88, Tryz.func88, by kernel_rfl, by kernel_rfl⟩
theorem h89 : Has 89 g89 := ⟨Tryz.f89, Tryz.func89, by kernel_rfl, by kernel_rfl⟩
theorem h91 : Has 91 g91 := ⟨Tryz.f91, Tryz.func91, by kernel_rfl, by kernel_rfl⟩
theorem h92 : Has 92 g92 := ⟨Tryz.f92, Tryz.func92, by kernel_rfl, by kernel_rfl⟩
theorem h93 : Has 93 g93 := ⟨Tryz.f93, Tryz.func93, by kernel_rfl, by kernel_rfl⟩
theorem h94 : Has 94 g94 := ⟨Tryz.f94, Tryz.func94, by kernel_rfl, by kernel_rfl⟩
theorem h95 : Has 95 g95 := ⟨Tryz.f95, Tryz.func95, by kernel_rfl, by kernel_rfl⟩
theorem h96 : Has 96 g96 := ⟨Tryz.f96, Tryz.func96, by kernel_rfl, by kernel_rfl⟩
theorem h97 : Has 97 g97 := ⟨Tryz.f97, Tryz.func97, by kernel_rfl, by kernel_rfl⟩
theorem h98 : Has 98 g98 := ⟨Tryz.f98, Tryz.func98, by kernel_rfl, by kernel_rfl⟩
theorem h99 : Has 99 g99 := ⟨Tryz.f99, Tryz.func99, by kernel_rfl, by kernel_rfl⟩
theorem h100 : Has 100 g100 := ⟨Tryz.f100, Tryz.func100, by kernel_rfl, by kernel_rfl⟩
theorem h101 : Has 101 g101 := ⟨Tryz.f101, Tryz.func101, by kernel_rfl, by kernel_rfl⟩
theorem h102 : Has 102 g102 := ⟨Tryz.f102, Tryz.func102, by kernel_rfl, by kernel_rfl⟩
theorem h103 : Has 103 g103 := ⟨Tryz.f103, Tryz.func103, by kernel_rfl, by kernel_rfl⟩
theorem h104 : Has 104 g104 := ⟨Tryz.f104, Tryz.func104, by kernel_rfl, by kernel_rfl⟩
theorem h105 : Has 105 g105 := ⟨Tryz.f105, Tryz.func105, by kernel_rfl, by kernel_rfl⟩
theorem h106 : Has 106 g106 := ⟨Tryz.f106, Tryz.func106, by kernel_rfl, by kernel_rfl⟩
theorem h107 : Has 107 g107 := ⟨Tryz.f107, Tryz.func107, by kernel_rfl, by kernel_rfl⟩
theorem h108 : Has 108 g108 := ⟨Tryz.f108, Tryz.func108, by kernel_rfl, by kernel_rfl⟩
theorem h109 : Has 109 g109 := ⟨Tryz.f109, Tryz.func109, by kernel_rfl, by kernel_rfl⟩
theorem h110 : Has 110 g110 := ⟨Tryz.f110, Tryz.func110, by kernel_rfl, by kernel_rfl⟩
theorem h111 : Has 111 g111 := ⟨Tryz.f111, Tryz.func111, by kernel_rfl, by kernel_rfl⟩
theorem h112 : Has 112 g112 := ⟨Tryz.f112, Tryz.func112, by kernel_rfl, by kernel_rfl⟩
theorem h113 : Has 113 g113 := ⟨Tryz.f113, Tryz.func113, by kernel_rfl, by kernel_rfl⟩
theorem h114 : Has 114 g114 := ⟨Tryz.f114, Tryz.func114, by kernel_rfl, by kernel_rfl⟩
theorem h115 : Has 115 g115 := ⟨Tryz.f115, Tryz.func115, by kernel_rfl, by kernel_rfl⟩
theorem h116 : Has 116 g116 := ⟨Tryz.f116, Tryz.func116, by kernel_rfl, by kernel_rfl⟩
theorem h117 : Has 117 g117 := ⟨Tryz.f117, Tryz.func117, by kernel_rfl, by kernel_rfl⟩
theorem h118 : Has 118 g118 := ⟨Tryz.f118, Tryz.func118, by kernel_rfl, by kernel_rfl⟩
theorem h119 : Has 119 g119 := ⟨Tryz.f119, Tryz.func119, by kernel_rfl, by kernel_rfl⟩
theorem h120 : Has 120 g120 := ⟨Tryz.f120, Tryz.func120, by kernel_rfl, by kernel_rfl⟩
theorem h121 : Has 121 g121 := ⟨Tryz.f121, Tryz.func121, by kernel_rfl, by kernel_rfl⟩
theorem h122 : Has 122 g122 := ⟨Tryz.f122, Tryz.func122, by kernel_rfl, by kernel_rfl⟩
theorem h123 : Has 123 g123 := ⟨Tryz.f123, Tryz.func123, by kernel_rfl, by kernel_rfl⟩
theorem h124 : Has 124 g124 := ⟨Tryz.f124, Tryz.func124, by kernel_rfl, by kernel_rfl⟩
theorem h125 : Has 125 g125 := ⟨Tryz.f125, Tryz.func125, by kernel_rfl, by kernel_rfl⟩
theorem h126 : Has 126 g126 := ⟨Tryz.f126, Tryz.func126, by kernel_rfl, by kernel_rfl⟩
theorem h143 : Has 143 g143 := ⟨Tryz.f143, Tryz.func143, by kernel_rfl, by kernel_rfl⟩
theorem h144 : Has 144 g144 := ⟨Tryz.f144, Tryz.func144, by kernel_rfl, by kernel_rfl⟩
theorem h145 : Has 145 g145 := ⟨Tryz.f145, Tryz.func145, by kernel_rfl, by kernel_rfl⟩
theorem h146 : Has 146 g146 := ⟨Tryz.f146, Tryz.func146, by kernel_rfl, by kernel_rfl⟩
theorem tabOf1 : ∀ f fn, T.fn f = some fn → ∃ F, Tryz.prog.funcs[f]? = some F ∧ cFunc Tryz.prog (Go.Q.ownB T) F = some fn ∧ (F.name == "runtime.NumGoroutine") = false := by
 intro f fn h
 simp only [T] at h
 unfold fnOf at h
 split at h
 all_goals first | (cases h; done) | skip
 all_goals (simp only [Option.some.injEq] at h; subst h)
 ·exact h3
 ·exact h4
 ·exact h5
 ·exact h6
 ·exact h7
 ·exact h8
 ·exact h9
 ·exact h10
 ·exact h11
 ·exact h12
 ·exact h13
 ·exact h14
 ·exact h15
 ·exact h16
 ·exact h17
 ·exact h18
 ·exact h19
 ·exact h20
 ·exact h21
 ·exact h22
 ·exact h23
 ·exact h24
 ·exact h25
 ·exact h26
 ·exact h27
 ·exact h28
 ·exact h29
 ·exact h30
 ·exact h31
 ·exact h32
 ·exact h33
 ·exact h34
 ·exact h35
 ·exact h36
 ·exact h37
 ·exact h38
 ·exact h39
 ·exact h40
 ·exact h41
 ·exact h42
 ·exact h43
 ·exact h44
 ·exact h45
 ·exact h46
 ·exact h47
 ·exact h48
 ·exact h49
 ·exact h50
 ·exact h51
 ·exact h52
 ·exact h53
 ·exact h54
 ·exact h55
 ·exact h56
 ·exact h57
 ·exact h58
 ·exact h59
 ·exact h60
 ·exact h61
 ·exact h62
 ·exact h63
 ·exact h64
 ·exact h65
 ·exact h66
 ·exact h67
 ·exact h68
 ·exact h69
 ·exact h70
 ·exact h71
 ·exact h72
 ·exact h73
 ·exact h74
 ·exact h75
 ·exact h76
 ·exact h77
 ·exact h78
 ·exact h79
 ·exact h80
 ·exact h81
 ·exact h82
 ·exact h83
 ·exact h84
 ·exact h85
 ·exact h86
 ·exact h87
 ·exact h88
 ·exact h89
 ·exact h91
 ·exact h92
 ·exact h93
 ·exact h94
 ·exact h95
 ·exact h96
 ·exact h97
 ·exact h98
 ·exact h99
 ·exact h100
 ·exact h101
 ·exact h102
 ·exact h103
 ·exact h104
 ·exact h105
 ·exact h106
 ·exact h107
 ·exact h108
 ·exact h109
 ·exact h110
 ·exact h111
 ·exact h112
 ·exact h113
 ·exact h114
 ·exact h115
 ·exact h116
 ·exact h117
 ·exact h118
 ·exact h119
 ·exact h120
 ·exact h121
 ·exact h122
 ·exact h123
 ·exact h124
 ·exact h125
 ·exact h126
 ·exact h143
 ·exact h144
 ·exact h145
 ·exact h146
theorem tabOf2 : ∀ f p, T.prim f = some p → Ent Tryz.prog f ∧ PrimOk Tryz.prog f p ∧ PrimSays p := by
 intro f p h
 simp only [T] at h
 unfold primOf at h
 split at h
 all_goals first | (cases h; done) | skip
 all_goals (simp only [Option.some.injEq] at h; subst h)
 ·exact ⟨⟨Tryz.f90, Tryz.func90, by kernel_rfl, by kernel_rfl⟩, SD.tz_ok, tz_says⟩
theorem tabOf : TabOf Tryz.prog T := ⟨tabOf1, tabOf2⟩
theorem mixed : Tryz.prog.follows .mixedOrders = true := by kernel_rfl
end Go.Q.SD

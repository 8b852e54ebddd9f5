/- The table is the program's. -/
import Derived.Test.YtdpinpbjfdobnaaSC
import Derived.Test.YtdpinpbjfdobnaaProg
import Derived.KernelRfl
namespace Go.Q.S11
open Go.Proofs
def Has (f : Nat) (fn : Fn) : Prop := ∃ F, Try.prog.funcs[f]? = some F ∧ cFunc Try.prog (ownB T) F = some fn ∧ (F.name == "runtime.NumGoroutine") = false
theorem h3 : Has 3 g3 := ⟨Try.f3, Try.func3, by kernel_rfl, by kernel_rfl⟩
theorem h4 : Has 4 g4 := ⟨Try.f4, Try.func4, by kernel_rfl, by kernel_rfl⟩
theorem h5 : Has 5 g5 := ⟨Try.f5, Try.func5, by kernel_rfl, by kernel_rfl⟩
theorem h7 : Has 7 g7 := ⟨Try.f7, Try.func7, by kernel_rfl, by kernel_rfl⟩
theorem h8 : Has 8 g8 := ⟨Try.f8, Try.func8, by kernel_rfl, by kernel_rfl⟩
theorem h9 : Has 9 g9 := ⟨Try.f9, Try.func9, by kernel_rfl, by kernel_rfl⟩
theorem h10 : Has 10 g10 := ⟨Try.f10, Try.func10, by kernel_rfl, by kernel_rfl⟩
theorem h11 : Has 11 g11 := ⟨Try.f11, Try.func11, by kernel_rfl, by kernel_rfl⟩
theorem h12 : Has 12 g12 := ⟨Try.f12, Try.func12, by kernel_rfl, by kernel_rfl⟩
theorem h13 : Has 13 g13 := ⟨Try.f13, Try.func13, by kernel_rfl, by kernel_rfl⟩
theorem h14 : Has 14 g14 := ⟨Try.f14, Try.func14, by kernel_rfl, by kernel_rfl⟩
theorem h15 : Has 15 g15 := ⟨Try.f15, Try.func15, by kernel_rfl, by kernel_rfl⟩
theorem h16 : Has 16 g16 := ⟨Try.f16, Try.func16, by kernel_rfl, by kernel_rfl⟩
theorem h17 : Has 17 g17 := ⟨Try.f17, Try.func17, by kernel_rfl, by kernel_rfl⟩
theorem h18 : Has 18 g18 := ⟨Try.f18, Try.func18, by kernel_rfl, by kernel_rfl⟩
theorem h19 : Has 19 g19 := ⟨Try.f19, Try.func19, by kernel_rfl, by kernel_rfl⟩
theorem h20 : Has 20 g20 := ⟨Try.f20, Try.func20, by kernel_rfl, by kernel_rfl⟩
theorem h21 : Has 21 g21 := ⟨Try.f21, Try.func21, by kernel_rfl, by kernel_rfl⟩
theorem h22 : Has 22 g22 := ⟨Try.f22, Try.func22, by kernel_rfl, by kernel_rfl⟩
theorem h23 : Has 23 g23 := ⟨Try.f23, Try.func23, by kernel_rfl, by kernel_rfl⟩
theorem h24 : Has 24 g24 := ⟨Try.f24, Try.func24, by kernel_rfl, by kernel_rfl⟩
theorem h25 : Has 25 g25 := ⟨Try.f25, Try.func25, by kernel_rfl, by kernel_rfl⟩
theorem h26 : Has 26 g26 := ⟨Try.f26, Try.func26, by kernel_rfl, by kernel_rfl⟩
theorem h27 : Has 27 g27 := ⟨Try.f27, Try.func27, by kernel_rfl, by kernel_rfl⟩
theorem h28 : Has 28 g28 := ⟨Try.f28, Try.func28, by kernel_rfl, by kernel_rfl⟩
theorem h29 : Has 29 g29 := ⟨Try.f29, Try.func29, by kernel_rfl, by kernel_rfl⟩
theorem h30 : Has 30 g30 := ⟨Try.f30, Try.func30, by kernel_rfl, by kernel_rfl⟩
theorem h31 : Has 31 g31 := ⟨Try.f31, Try.func31, by kernel_rfl, by kernel_rfl⟩
theorem h32 : Has 32 g32 := ⟨Try.f32, Try.func32, by kernel_rfl, by kernel_rfl⟩
theorem h33 : Has 33 g33 := ⟨Try.f33, Try.func33, by kernel_rfl, by kernel_rfl⟩
theorem h34 : Has 34 g34 := ⟨Try.f34, Try.func34, by kernel_rfl, by kernel_rfl⟩
theorem h35 : Has 35 g35 := ⟨Try.f35, Try.func35, by kernel_rfl, by kernel_rfl⟩
theorem h36 : Has 36 g36 := ⟨Try.f36, Try.func36, by kernel_rfl, by kernel_rfl⟩
theorem h37 : Has 37 g37 := ⟨Try.f37, Try.func37, by kernel_rfl, by kernel_rfl⟩
theorem h38 : Has 38 g38 := ⟨Try.f38, Try.func38, by kernel_rfl, by kernel_rfl⟩
theorem h39 : Has 39 g39 := ⟨Try.f39, Try.func39, by kernel_rfl, by kernel_rfl⟩
theorem h40 : Has 40 g40 := ⟨Try.f40, Try.func40, by kernel_rfl, by kernel_rfl⟩
theorem h41 : Has 41 g41 := ⟨Try.f41, Try.func41, by kernel_rfl, by kernel_rfl⟩
theorem h42 : Has 42 g42 := ⟨Try.f42, Try.func42, by kernel_rfl, by kernel_rfl⟩
theorem h43 : Has 43 g43 := ⟨Try.f43, Try.func43, by kernel_rfl, by kernel_rfl⟩
theorem h44 : Has 44 g44 := ⟨Try.f44, Try.func44, by kernel_rfl, by kernel_rfl⟩
theorem h45 : Has 45 g45 := ⟨Try.f45, Try.func45, by kernel_rfl, by kernel_rfl⟩
theorem h46 : Has 46 g46 := ⟨Try.f46, Try.func46, by kernel_rfl, by kernel_rfl⟩
theorem h47 : Has 47 g47 := ⟨Try.f47, Try.func47, by kernel_rfl, by kernel_rfl⟩
theorem h48 : Has 48 g48 := ⟨Try.f48, Try.func48, by kernel_rfl, by kernel_rfl⟩
theorem h49 : Has 49 g49 := ⟨Try.f49, Try.func49, by kernel_rfl, by kernel_rfl⟩
theorem h50 : Has 50 g50 := ⟨Try.f50, Try.func50, by kernel_rfl, by kernel_rfl⟩
theorem h51 : Has 51 g51 := ⟨Try.f51, Try.func51, by kernel_rfl, by kernel_rfl⟩
theorem h52 : Has 52 g52 := ⟨Try.f52, Try.func52, by kernel_rfl, by kernel_rfl⟩
theorem h53 : Has 53 g53 := ⟨Try.f53, Try.func53, by kernel_rfl, by kernel_rfl⟩
theorem h54 : Has 54 g54 := ⟨Try.f54, Try.func54, by kernel_rfl, by kernel_rfl⟩
theorem h55 : Has 55 g55 := ⟨Try.f55, Try.func55, by kernel_rfl, by kernel_rfl⟩
theorem h56 : Has 56 g56 := ⟨Try.f56, Try.func56, by kernel_rfl, by kernel_rfl⟩
theorem h57 : Has 57 g57 := ⟨Try.f57, Try.func57, by kernel_rfl, by kernel_rfl⟩
theorem h58 : Has 58 g58 := ⟨Try.f58, Try.func58, by kernel_rfl, by kernel_rfl⟩
theorem h59 : Has 59 g59 := ⟨Try.f59, Try.func59, by kernel_rfl, by kernel_rfl⟩
theorem h60 : Has 60 g60 := ⟨Try.f60, Try.func60, by kernel_rfl, by kernel_rfl⟩
theorem h61 : Has 61 g61 := ⟨Try.f61, Try.func61, by kernel_rfl, by kernel_rfl⟩
theorem h62 : Has 62 g62 := ⟨Try.f62, Try.func62, by kernel_rfl, by kernel_rfl⟩
theorem h63 : Has 63 g63 := ⟨Try.f63, Try.func63, by kernel_rfl, by kernel_rfl⟩
theorem h64 : Has 64 g64 := ⟨Try.f64, Try.func64, by kernel_rfl, by kernel_rfl⟩
theorem h65 : Has 65 g65 := ⟨Try.f65, Try.func65, by kernel_rfl, by kernel_rfl⟩
theorem h66 : Has 66 g66 := ⟨Try.f66, Try.func66, by kernel_rfl, by kernel_rfl⟩
theorem h67 : Has 67 g67 := ⟨Try.f67, Try.func67, by kernel_rfl, by kernel_rfl⟩
theorem h68 : Has 68 g68 := ⟨Try.f68, Try.func68, by kernel_rfl, by kernel_rfl⟩
theorem h69 : Has 69 g69 := ⟨Try.f69, Try.func69, by kernel_rfl, by kernel_rfl⟩
theorem h70 : Has 70 g70 := ⟨Try.f70, Try.func70, by kernel_rfl, by kernel_rfl⟩
theorem h71 : Has 71 g71 := ⟨Try.f71, Try.func71, by kernel_rfl, by kernel_rfl⟩
theorem h72 : Has 72 g72 := ⟨Try.f72, Try.func72, by kernel_rfl, by kernel_rfl⟩
theorem h73 : Has 73 g73 := ⟨Try.f73, Try.func73, by kernel_rfl, by kernel_rfl⟩
theorem h74 : Has 74 g74 := ⟨Try.f74, Try.func74, by kernel_rfl, by kernel_rfl⟩
theorem h75 : Has 75 g75 := ⟨Try.f75, Try.func75, by kernel_rfl, by kernel_rfl⟩
theorem h76 : Has 76 g76 := ⟨Try.f76, Try.func76, by kernel_rfl, by kernel_rfl⟩
theorem h77 : Has 77 g77 := ⟨Try.f77, Try.func77, by kernel_rfl, by kernel_rfl⟩
theorem h78 : Has 78 g78 := ⟨Try.f78, Try.func78, by kernel_rfl, by kernel_rfl⟩
theorem h79 : Has 79 g79 := ⟨Try.f79, Try.func79, by kernel_rfl, by kernel_rfl⟩
theorem h80 : Has 80 g80 := ⟨Try.f80, Try.func80, by kernel_rfl, by kernel_rfl⟩
theorem h81 : Has 81 g81 := ⟨Try.f81, Try.func81, by kernel_rfl, by kernel_rfl⟩
theorem h82 : Has 82 g82 := ⟨Try.f82, Try.func82, by kernel_rfl, by kernel_rfl⟩
theorem h83 : Has 83 g83 := ⟨Try.f83, Try.func83, by kernel_rfl, by kernel_rfl⟩
theorem h84 : Has 84 g84 := ⟨Try.f84, Try.func84, by kernel_rfl, by kernel_rfl⟩
theorem h85 : Has 85 g85 := ⟨Try.f85, Try.func85, by kernel_rfl, by kernel_rfl⟩
theorem h86 : Has 86 g86 := ⟨Try.f86, Try.func86, by kernel_rfl, by kernel_rfl⟩
theorem h87 : Has 87 g87 := ⟨Try.f87, Try.func87, by kernel_rfl, by kernel_rfl⟩
theorem h88 : Has 88 g88 := ⟨Try.f88, Try.func88, by kernel_rfl, by kernel_rfl⟩
theorem h89 : Has 89 g89 := ⟨Try.f89, Try.func89, by kernel_rfl, by kernel_rfl⟩
theorem h90 : Has 90 g90 := ⟨Try.f90, Try.func90, by kernel_rfl, by kernel_rfl⟩
theorem h91 : Has 91 g91 := ⟨Try.f91, Try.func91, by kernel_rfl, by kernel_rfl⟩
theorem h92 : Has 92 g92 := ⟨Try.f92, Try.func92, by kernel_rfl, by kernel_rfl⟩
theorem h93 : Has 93 g93 := ⟨Try.f93, Try.func93, by kernel_rfl, by kernel_rfl⟩
theorem h94 : Has 94 g94 := ⟨Try.f94, Try.func94, by kernel_rfl, by kernel_rfl⟩
theorem h95 : Has 95 g95 := ⟨Try.f95, Try.func95, by kernel_rfl, by kernel_rfl⟩
theorem h96 : Has 96 g96 := ⟨Try.f96, Try.func96, by kernel_rfl, by kernel_rfl⟩
theorem h97 : Has 97 g97 := ⟨Try.f97, Try.func97, by kernel_rfl, by kernel_rfl⟩
theorem h98 : Has 98 g98 := ⟨Try.f98, Try.func98, by kernel_rfl, by kernel_rfl⟩
theorem h99 : Has 99 g99 := ⟨Try.f99, Try.func99, by kernel_rfl, by kernel_rfl⟩
theorem h100 : Has 100 g100 := ⟨Try.f100, Try.func100, by kernel_rfl, by kernel_rfl⟩
theorem h101 : Has 101 g101 := ⟨Try.f101, Try.func101, by kernel_rfl, by kernel_rfl⟩
theorem h102 : Has 102 g102 := ⟨Try.f102, Try.func102, by kernel_rfl, by kernel_rfl⟩
theorem h103 : Has 103 g103 := ⟨Try.f103, Try.func103, by kernel_rfl, by kernel_rfl⟩
theorem h104 : Has 104 g104 := ⟨Try.f104, Try.func104, by kernel_rfl, by kernel_rfl⟩
theorem h105 : Has 105 g105 := ⟨Try.f105, Try.func105, by kernel_rfl, by kernel_rfl⟩
theorem h106 : Has 106 g106 := ⟨Try.f106, Try.func106, by kernel_rfl, by kernel_rfl⟩
theorem h107 : Has 107 g107 := ⟨Try.f107, Try.func107, by kernel_rfl, by kernel_rfl⟩
theorem h108 : Has 108 g108 := ⟨Try.f108, Try.func108, by kernel_rfl, by kernel_rfl⟩
theorem h109 : Has 109 g109 := ⟨Try.f109, Try.func109, by kernel_rfl, by kernel_rfl⟩
theorem h110 : Has 110 g110 := ⟨Try.f110, Try.func110, by kernel_rfl, by kernel_rfl⟩
theorem h111 : Has 111 g111 := ⟨Try.f111, Try.func111, by kernel_rfl, by kernel_rfl⟩
theorem h112 : Has 112 g112 := ⟨Try.f112, Try.func112, by kernel_rfl, by kernel_rfl⟩
theorem h113 : Has 113 g113 := ⟨Try.f113, Try.func113, by kernel_rfl, by kernel_rfl⟩
theorem h130 : Has 130 g130 := ⟨Try.f130, Try.func130, by kernel_rfl, by kernel_rfl⟩
theorem h131 : Has 131 g131 := ⟨Try.f131, Try.func131, by kernel_rfl, by kernel_rfl⟩
theorem h132 : Has 132 g132 := ⟨Try.f132, Try.func132, by kernel_rfl, by kernel_rfl⟩
theorem h133 : Has 133 g133 := ⟨Try.f133, Try.func133, by kernel_rfl, by kernel_rfl⟩
theorem tabOf : TabOf Try.prog T := by
  intro f fn h
  simp only [T] at h
  unfold fnOf at h
  split at h
  all_goals first | (cases h; done) | skip
  all_goals (simp only [Option.some.injEq] at h; subst h)
  · exact h3
  · exact h4
  · exact h5
  · exact h7
  · exact h8
  · exact h9
  · exact h10
  · exact h11
  · exact h12
  · exact h13
  · exact h14
  · exact h15
  · exact h16
  · exact h17
  · exact h18
  · exact h19
  · exact h20
  · exact h21
  · exact h22
  · exact h23
  · exact h24
  · exact h25
  · exact h26
  · exact h27
  · exact h28
  · exact h29
  · exact h30
  · exact h31
  · exact h32
  · exact h33
  · exact h34
  · exact h35
  · exact h36
  · exact h37
  · exact h38
  · exact h39
  · exact h40
  · exact h41
  · exact h42
  · exact h43
  · exact h44
  · exact h45
  · exact h46
  · exact h47
  · exact h48
  · exact h49
  · exact h50
  · exact h51
  · exact h52
  · exact h53
  · exact h54
  · exact h55
  · exact h56
  · exact h57
  · exact h58
  · exact h59
  · exact h60
  · exact h61
  · exact h62
  · exact h63
  · exact h64
  · exact h65
  · exact h66
  · exact h67
  · exact h68
  · exact h69
  · exact h70
  · exact h71
  · exact h72
  · exact h73
  · exact h74
  · exact h75
  · exact h76
  · exact h77
  · exact h78
  · exact h79
  · exact h80
  · exact h81
  · exact h82
  · exact h83
  · exact h84
  · exact h85
  · exact h86
  · exact h87
  · exact h88
  · exact h89
  · exact h90
  · exact h91
  · exact h92
  · exact h93
  · exact h94
  · exact h95
  · exact h96
  · exact h97
  · exact h98
  · exact h99
  · exact h100
  · exact h101
  · exact h102
  · exact h103
  · exact h104
  · exact h105
  · exact h106
  · exact h107
  · exact h108
  · exact h109
  · exact h110
  · exact h111
  · exact h112
  · exact h113
  · exact h130
  · exact h131
  · exact h132
  · exact h133
theorem mixed : Try.prog.follows .mixedOrders = true := by kernel_rfl
end Go.Q.S11

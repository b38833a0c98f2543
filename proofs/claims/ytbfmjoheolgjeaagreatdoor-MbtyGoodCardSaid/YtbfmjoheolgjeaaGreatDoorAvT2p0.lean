/- These functions are the program's. -/
import Derived.Test.YtbfmjoheolgjeaaGreatDoorAvT1
import Derived.Test.YtbfmjoheolgjeaaGreatDoorProg
set_option maxRecDepth 100000
set_option linter.unusedVariables false
namespace Go.Av
open Go.Proofs
theorem G3 : fmatch Tryz.prog (dmK Tryz.prog) Tryz.f3 F3 = true := by kernel_rfl
theorem G4 : fmatch Tryz.prog (dmK Tryz.prog) Tryz.f4 F4 = true := by kernel_rfl
theorem G5 : fmatch Tryz.prog (dmK Tryz.prog) Tryz.f5 F5 = true := by kernel_rfl
theorem G6 : fmatch Tryz.prog (dmK Tryz.prog) Tryz.f6 F6 = true := by kernel_rfl
theorem G7 : fmatch Tryz.prog (dmK Tryz.prog) Tryz.f7 F7 = true := by kernel_rfl
theorem G8 : fmatch Tryz.prog (dmK Tryz.prog) Tryz.f8 F8 = true := by kernel_rfl
theorem G9 : fmatch Tryz.prog (dmK Tryz.prog) Tryz.f9 F9 = true := by kernel_rfl
theorem G10 : fmatch Tryz.prog (dmK Tryz.prog) Tryz.f10 F10 = true := by kernel_rfl
theorem G11 : fmatch Tryz.prog (dmK Tryz.prog) Tryz.f11 F11 = true := by kernel_rfl
theorem G12 : fmatch Tryz.prog (dmK Tryz.prog) Tryz.f12 F12 = true := by kernel_rfl
theorem G13 : fmatch Tryz.prog (dmK Tryz.prog) Tryz.f13 F13 = true := by kernel_rfl
theorem G14 : fmatch Tryz.prog (dmK Tryz.prog) Tryz.f14 F14 = true := by kernel_rfl
theorem G15 : fmatch Tryz.prog (dmK Tryz.prog) Tryz.f15 F15 = true := by kernel_rfl
theorem G16 : fmatch Tryz.prog (dmK Tryz.prog) Tryz.f16 F16 = true := by kernel_rfl
theorem G17 : fmatch Tryz.prog (dmK Tryz.prog) Tryz.f17 F17 = true := by kernel_rfl
theorem G18 : fmatch Tryz.prog (dmK Tryz.prog) Tryz.f18 F18 = true := by kernel_rfl
theorem G19 : fmatch Tryz.prog (dmK Tryz.prog) Tryz.f19 F19 = true := by kernel_rfl
theorem G20 : fmatch Tryz.prog (dmK Tryz.prog) Tryz.f20 F20 = true := by kernel_rfl
theorem G21 : fmatch Tryz.prog (dmK Tryz.prog) Tryz.f21 F21 = true := by kernel_rfl
theorem G22 : fmatch Tryz.prog (dmK Tryz.prog) Tryz.f22 F22 = true := by kernel_rfl
theorem G23 : fmatch Tryz.prog (dmK Tryz.prog) Tryz.f23 F23 = true := by kernel_rfl
theorem G25 : fmatch Tryz.prog (dmK Tryz.prog) Tryz.f25 F25 = true := by kernel_rfl
theorem G26 : fmatch Tryz.prog (dmK Tryz.prog) Tryz.f26 F26 = true := by kernel_rfl
theorem G27 : fmatch Tryz.prog (dmK Tryz.prog) Tryz.f27 F27 = true := by kernel_rfl
theorem G28 : fmatch Tryz.prog (dmK Tryz.prog) Tryz.f28 F28 = true := by kernel_rfl
theorem G29 : fmatch Tryz.prog (dmK Tryz.prog) Tryz.f29 F29 = true := by kernel_rfl
theorem G30 : fmatch Tryz.prog (dmK Tryz.prog) Tryz.f30 F30 = true := by kernel_rfl
theorem G31 : fmatch Tryz.prog (dmK Tryz.prog) Tryz.f31 F31 = true := by kernel_rfl
theorem G32 : fmatch Tryz.prog (dmK Tryz.prog) Tryz.f32 F32 = true := by kernel_rfl
theorem G33 : fmatch Tryz.prog (dmK Tryz.prog) Tryz.f33 F33 = true := by kernel_rfl
theorem G34 : fmatch Tryz.prog (dmK Tryz.prog) Tryz.f34 F34 = true := by kernel_rfl
theorem G35 : fmatch Tryz.prog (dmK Tryz.prog) Tryz.f35 F35 = true := by kernel_rfl
theorem G36 : fmatch Tryz.prog (dmK Tryz.prog) Tryz.f36 F36 = true := by kernel_rfl
theorem G39 : fmatch Tryz.prog (dmK Tryz.prog) Tryz.f39 F39 = true := by kernel_rfl
theorem G40 : fmatch Tryz.prog (dmK Tryz.prog) Tryz.f40 F40 = true := by kernel_rfl
theorem G41 : fmatch Tryz.prog (dmK Tryz.prog) Tryz.f41 F41 = true := by kernel_rfl
theorem G43 : fmatch Tryz.prog (dmK Tryz.prog) Tryz.f43 F43 = true := by kernel_rfl
theorem G45 : fmatch Tryz.prog (dmK Tryz.prog) Tryz.f45 F45 = true := by kernel_rfl
theorem G46 : fmatch Tryz.prog (dmK Tryz.prog) Tryz.f46 F46 = true := by kernel_rfl
theorem G47 : fmatch Tryz.prog (dmK Tryz.prog) Tryz.f47 F47 = true := by kernel_rfl
theorem G48 : fmatch Tryz.prog (dmK Tryz.prog) Tryz.f48 F48 = true := by kernel_rfl
theorem G49 : fmatch Tryz.prog (dmK Tryz.prog) Tryz.f49 F49 = true := by kernel_rfl
theorem G50 : fmatch Tryz.prog (dmK Tryz.prog) Tryz.f50 F50 = true := by kernel_rfl
theorem G51 : fmatch Tryz.prog (dmK Tryz.prog) Tryz.f51 F51 = true := by kernel_rfl
theorem G52 : fmatch Tryz.prog (dmK Tryz.prog) Tryz.f52 F52 = true := by kernel_rfl
theorem G53 : fmatch Tryz.prog (dmK Tryz.prog) Tryz.f53 F53 = true := by kernel_rfl
theorem G54 : fmatch Tryz.prog (dmK Tryz.prog) Tryz.f54 F54 = true := by kernel_rfl
theorem G55 : fmatch Tryz.prog (dmK Tryz.prog) Tryz.f55 F55 = true := by kernel_rfl
theorem G56 : fmatch Tryz.prog (dmK Tryz.prog) Tryz.f56 F56 = true := by kernel_rfl
theorem G57 : fmatch Tryz.prog (dmK Tryz.prog) Tryz.f57 F57 = true := by kernel_rfl
theorem G58 : fmatch Tryz.prog (dmK Tryz.prog) Tryz.f58 F58 = true := by kernel_rfl
theorem G59 : fmatch Tryz.prog (dmK Tryz.prog) Tryz.f59 F59 = true := by kernel_rfl
theorem G60 : fmatch Tryz.prog (dmK Tryz.prog) Tryz.f60 F60 = true := by kernel_rfl
theorem G61 : fmatch Tryz.prog (dmK Tryz.prog) Tryz.f61 F61 = true := by kernel_rfl
theorem G62 : fmatch Tryz.prog (dmK Tryz.prog) Tryz.f62 F62 = true := by kernel_rfl
theorem G63 : fmatch Tryz.prog (dmK Tryz.prog) Tryz.f63 F63 = true := by kernel_rfl
theorem G65 : fmatch Tryz.prog (dmK Tryz.prog) Tryz.f65 F65 = true := by kernel_rfl
theorem G66 : fmatch Tryz.prog (dmK Tryz.prog) Tryz.f66 F66 = true := by kernel_rfl
theorem G67 : fmatch Tryz.prog (dmK Tryz.prog) Tryz.f67 F67 = true := by kernel_rfl
theorem G68 : fmatch Tryz.prog (dmK Tryz.prog) Tryz.f68 F68 = true := by kernel_rfl
theorem G69 : fmatch Tryz.prog (dmK Tryz.prog) Tryz.f69 F69 = true := by kernel_rfl
theorem G70 : fmatch Tryz.prog (dmK Tryz.prog) Tryz.f70 F70 = true := by kernel_rfl
theorem G71 : fmatch Tryz.prog (dmK Tryz.prog) Tryz.f71 F71 = true := by kernel_rfl
end Go.Av

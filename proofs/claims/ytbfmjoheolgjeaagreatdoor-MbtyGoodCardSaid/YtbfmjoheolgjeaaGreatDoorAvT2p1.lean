/- These functions are the program's. -/
import Derived.Test.YtbfmjoheolgjeaaGreatDoorAvT1
import Derived.Test.YtbfmjoheolgjeaaGreatDoorProg
set_option maxRecDepth 100000
set_option linter.unusedVariables false
namespace Go.Av
open Go.Proofs
theorem G72 : fmatch Tryz.prog (dmK Tryz.prog) Tryz.f72 F72 = true := by kernel_rfl
theorem G73 : fmatch Tryz.prog (dmK Tryz.prog) Tryz.f73 F73 = true := by kernel_rfl
theorem G74 : fmatch Tryz.prog (dmK Tryz.prog) Tryz.f74 F74 = true := by kernel_rfl
theorem G75 : fmatch Tryz.prog (dmK Tryz.prog) Tryz.f75 F75 = true := by kernel_rfl
theorem G76 : fmatch Tryz.prog (dmK Tryz.prog) Tryz.f76 F76 = true := by kernel_rfl
theorem G77 : fmatch Tryz.prog (dmK Tryz.prog) Tryz.f77 F77 = true := by kernel_rfl
theorem G78 : fmatch Tryz.prog (dmK Tryz.prog) Tryz.f78 F78 = true := by kernel_rfl
theorem G79 : fmatch Tryz.prog (dmK Tryz.prog) Tryz.f79 F79 = true := by kernel_rfl
theorem G80 : fmatch Tryz.prog (dmK Tryz.prog) Tryz.f80 F80 = true := by kernel_rfl
theorem G81 : fmatch Tryz.prog (dmK Tryz.prog) Tryz.f81 F81 = true := by kernel_rfl
theorem G82 : fmatch Tryz.prog (dmK Tryz.prog) Tryz.f82 F82 = true := by kernel_rfl
theorem G83 : fmatch Tryz.prog (dmK Tryz.prog) Tryz.f83 F83 = true := by kernel_rfl
theorem G84 : fmatch Tryz.prog (dmK Tryz.prog) Tryz.f84 F84 = true := by kernel_rfl
theorem G85 : fmatch Tryz.prog (dmK Tryz.prog) Tryz.f85 F85 = true := by kernel_rfl
theorem G86 : fmatch Tryz.prog (dmK Tryz.prog) Tryz.f86 F86 = true := by kernel_rfl
theorem G87 : fmatch Tryz.prog (dmK Tryz.prog) Tryz.f87 F87 = true := by kernel_rfl
theorem G89 : fmatch Tryz.prog (dmK Tryz.prog) Tryz.f89 F89 = true := by kernel_rfl
theorem G90 : fmatch Tryz.prog (dmK Tryz.prog) Tryz.f90 F90 = true := by kernel_rfl
theorem G91 : fmatch Tryz.prog (dmK Tryz.prog) Tryz.f91 F91 = true := by kernel_rfl
theorem G92 : fmatch Tryz.prog (dmK Tryz.prog) Tryz.f92 F92 = true := by kernel_rfl
theorem G93 : fmatch Tryz.prog (dmK Tryz.prog) Tryz.f93 F93 = true := by kernel_rfl
theorem G94 : fmatch Tryz.prog (dmK Tryz.prog) Tryz.f94 F94 = true := by kernel_rfl
theorem G95 : fmatch Tryz.prog (dmK Tryz.prog) Tryz.f95 F95 = true := by kernel_rfl
theorem G96 : fmatch Tryz.prog (dmK Tryz.prog) Tryz.f96 F96 = true := by kernel_rfl
theorem G97 : fmatch Tryz.prog (dmK Tryz.prog) Tryz.f97 F97 = true := by kernel_rfl
theorem G98 : fmatch Tryz.prog (dmK Tryz.prog) Tryz.f98 F98 = true := by kernel_rfl
theorem G99 : fmatch Tryz.prog (dmK Tryz.prog) Tryz.f99 F99 = true := by kernel_rfl
theorem G100 : fmatch Tryz.prog (dmK Tryz.prog) Tryz.f100 F100 = true := by kernel_rfl
theorem G101 : fmatch Tryz.prog (dmK Tryz.prog) Tryz.f101 F101 = true := by kernel_rfl
theorem G102 : fmatch Tryz.prog (dmK Tryz.prog) Tryz.f102 F102 = true := by kernel_rfl
theorem G103 : fmatch Tryz.prog (dmK Tryz.prog) Tryz.f103 F103 = true := by kernel_rfl
theorem G104 : fmatch Tryz.prog (dmK Tryz.prog) Tryz.f104 F104 = true := by kernel_rfl
theorem G105 : fmatch Tryz.prog (dmK Tryz.prog) Tryz.f105 F105 = true := by kernel_rfl
theorem G106 : fmatch Tryz.prog (dmK Tryz.prog) Tryz.f106 F106 = true := by kernel_rfl
theorem G107 : fmatch Tryz.prog (dmK Tryz.prog) Tryz.f107 F107 = true := by kernel_rfl
theorem G108 : fmatch Tryz.prog (dmK Tryz.prog) Tryz.f108 F108 = true := by kernel_rfl
theorem G109 : fmatch Tryz.prog (dmK Tryz.prog) Tryz.f109 F109 = true := by kernel_rfl
theorem G110 : fmatch Tryz.prog (dmK Tryz.prog) Tryz.f110 F110 = true := by kernel_rfl
theorem G111 : fmatch Tryz.prog (dmK Tryz.prog) Tryz.f111 F111 = true := by kernel_rfl
theorem G112 : fmatch Tryz.prog (dmK Tryz.prog) Tryz.f112 F112 = true := by kernel_rfl
theorem G113 : fmatch Tryz.prog (dmK Tryz.prog) Tryz.f113 F113 = true := by kernel_rfl
theorem G115 : fmatch Tryz.prog (dmK Tryz.prog) Tryz.f115 F115 = true := by kernel_rfl
theorem G116 : fmatch Tryz.prog (dmK Tryz.prog) Tryz.f116 F116 = true := by kernel_rfl
theorem G117 : fmatch Tryz.prog (dmK Tryz.prog) Tryz.f117 F117 = true := by kernel_rfl
theorem G118 : fmatch Tryz.prog (dmK Tryz.prog) Tryz.f118 F118 = true := by kernel_rfl
theorem G119 : fmatch Tryz.prog (dmK Tryz.prog) Tryz.f119 F119 = true := by kernel_rfl
theorem G120 : fmatch Tryz.prog (dmK Tryz.prog) Tryz.f120 F120 = true := by kernel_rfl
theorem G121 : fmatch Tryz.prog (dmK Tryz.prog) Tryz.f121 F121 = true := by kernel_rfl
theorem G122 : fmatch Tryz.prog (dmK Tryz.prog) Tryz.f122 F122 = true := by kernel_rfl
theorem G123 : fmatch Tryz.prog (dmK Tryz.prog) Tryz.f123 F123 = true := by kernel_rfl
theorem G124 : fmatch Tryz.prog (dmK Tryz.prog) Tryz.f124 F124 = true := by kernel_rfl
theorem G125 : fmatch Tryz.prog (dmK Tryz.prog) Tryz.f125 F125 = true := by kernel_rfl
theorem G126 : fmatch Tryz.prog (dmK Tryz.prog) Tryz.f126 F126 = true := by kernel_rfl
theorem G127 : fmatch Tryz.prog (dmK Tryz.prog) Tryz.f127 F127 = true := by kernel_rfl
theorem G128 : fmatch Tryz.prog (dmK Tryz.prog) Tryz.f128 F128 = true := by kernel_rfl
theorem G129 : fmatch Tryz.prog (dmK Tryz.prog) Tryz.f129 F129 = true := by kernel_rfl
theorem G130 : fmatch Tryz.prog (dmK Tryz.prog) Tryz.f130 F130 = true := by kernel_rfl
theorem G131 : fmatch Tryz.prog (dmK Tryz.prog) Tryz.f131 F131 = true := by kernel_rfl
theorem G132 : fmatch Tryz.prog (dmK Tryz.prog) Tryz.f132 F132 = true := by kernel_rfl
theorem G133 : fmatch Tryz.prog (dmK Tryz.prog) Tryz.f133 F133 = true := by kernel_rfl
theorem G136 : fmatch Tryz.prog (dmK Tryz.prog) Tryz.f136 F136 = true := by kernel_rfl
theorem G137 : fmatch Tryz.prog (dmK Tryz.prog) Tryz.f137 F137 = true := by kernel_rfl
theorem G140 : fmatch Tryz.prog (dmK Tryz.prog) Tryz.f140 F140 = true := by kernel_rfl
end Go.Av

/- These functions are the program's. -/
import Derived.Test.YtbfmjoheolgjeaaGreatDoorAvT1
import Derived.Test.YtbfmjoheolgjeaaGreatDoorProg
set_option maxRecDepth 100000
set_option linter.unusedVariables false
namespace Go.Av
open Go.Proofs
theorem G141 : fmatch Tryz.prog (dmK Tryz.prog) Tryz.f141 F141 = true := by kernel_rfl
theorem G142 : fmatch Tryz.prog (dmK Tryz.prog) Tryz.f142 F142 = true := by kernel_rfl
theorem G143 : fmatch Tryz.prog (dmK Tryz.prog) Tryz.f143 F143 = true := by kernel_rfl
theorem G144 : fmatch Tryz.prog (dmK Tryz.prog) Tryz.f144 F144 = true := by kernel_rfl
theorem G145 : fmatch Tryz.prog (dmK Tryz.prog) Tryz.f145 F145 = true := by kernel_rfl
theorem G146 : fmatch Tryz.prog (dmK Tryz.prog) Tryz.f146 F146 = true := by kernel_rfl
theorem G147 : fmatch Tryz.prog (dmK Tryz.prog) Tryz.f147 F147 = true := by kernel_rfl
theorem G148 : fmatch Tryz.prog (dmK Tryz.prog) Tryz.f148 F148 = true := by kernel_rfl
theorem G149 : fmatch Tryz.prog (dmK Tryz.prog) Tryz.f149 F149 = true := by kernel_rfl
theorem G150 : fmatch Tryz.prog (dmK Tryz.prog) Tryz.f150 F150 = true := by kernel_rfl
theorem G151 : fmatch Tryz.prog (dmK Tryz.prog) Tryz.f151 F151 = true := by kernel_rfl
theorem G152 : fmatch Tryz.prog (dmK Tryz.prog) Tryz.f152 F152 = true := by kernel_rfl
theorem G153 : fmatch Tryz.prog (dmK Tryz.prog) Tryz.f153 F153 = true := by kernel_rfl
theorem G154 : fmatch Tryz.prog (dmK Tryz.prog) Tryz.f154 F154 = true := by kernel_rfl
theorem G155 : fmatch Tryz.prog (dmK Tryz.prog) Tryz.f155 F155 = true := by kernel_rfl
theorem G156 : fmatch Tryz.prog (dmK Tryz.prog) Tryz.f156 F156 = true := by kernel_rfl
theorem G157 : fmatch Tryz.prog (dmK Tryz.prog) Tryz.f157 F157 = true := by kernel_rfl
theorem G158 : fmatch Tryz.prog (dmK Tryz.prog) Tryz.f158 F158 = true := by kernel_rfl
theorem G159 : fmatch Tryz.prog (dmK Tryz.prog) Tryz.f159 F159 = true := by kernel_rfl
theorem G160 : fmatch Tryz.prog (dmK Tryz.prog) Tryz.f160 F160 = true := by kernel_rfl
theorem G161 : fmatch Tryz.prog (dmK Tryz.prog) Tryz.f161 F161 = true := by kernel_rfl
theorem G162 : fmatch Tryz.prog (dmK Tryz.prog) Tryz.f162 F162 = true := by kernel_rfl
theorem G163 : fmatch Tryz.prog (dmK Tryz.prog) Tryz.f163 F163 = true := by kernel_rfl
theorem G164 : fmatch Tryz.prog (dmK Tryz.prog) Tryz.f164 F164 = true := by kernel_rfl
theorem G165 : fmatch Tryz.prog (dmK Tryz.prog) Tryz.f165 F165 = true := by kernel_rfl
theorem G166 : fmatch Tryz.prog (dmK Tryz.prog) Tryz.f166 F166 = true := by kernel_rfl
theorem G167 : fmatch Tryz.prog (dmK Tryz.prog) Tryz.f167 F167 = true := by kernel_rfl
theorem G168 : fmatch Tryz.prog (dmK Tryz.prog) Tryz.f168 F168 = true := by kernel_rfl
theorem G169 : fmatch Tryz.prog (dmK Tryz.prog) Tryz.f169 F169 = true := by kernel_rfl
theorem G170 : fmatch Tryz.prog (dmK Tryz.prog) Tryz.f170 F170 = true := by kernel_rfl
theorem G171 : fmatch Tryz.prog (dmK Tryz.prog) Tryz.f171 F171 = true := by kernel_rfl
theorem G172 : fmatch Tryz.prog (dmK Tryz.prog) Tryz.f172 F172 = true := by kernel_rfl
theorem G173 : fmatch Tryz.prog (dmK Tryz.prog) Tryz.f173 F173 = true := by kernel_rfl
theorem G174 : fmatch Tryz.prog (dmK Tryz.prog) Tryz.f174 F174 = true := by kernel_rfl
theorem G180 : fmatch Tryz.prog (dmK Tryz.prog) Tryz.f180 F180 = true := by kernel_rfl
theorem G183 : fmatch Tryz.prog (dmK Tryz.prog) Tryz.f183 F183 = true := by kernel_rfl
theorem G184 : fmatch Tryz.prog (dmK Tryz.prog) Tryz.f184 F184 = true := by kernel_rfl
theorem G186 : fmatch Tryz.prog (dmK Tryz.prog) Tryz.f186 F186 = true := by kernel_rfl
theorem G187 : fmatch Tryz.prog (dmK Tryz.prog) Tryz.f187 F187 = true := by kernel_rfl
theorem G188 : fmatch Tryz.prog (dmK Tryz.prog) Tryz.f188 F188 = true := by kernel_rfl
theorem G189 : fmatch Tryz.prog (dmK Tryz.prog) Tryz.f189 F189 = true := by kernel_rfl
theorem G190 : fmatch Tryz.prog (dmK Tryz.prog) Tryz.f190 F190 = true := by kernel_rfl
theorem G191 : fmatch Tryz.prog (dmK Tryz.prog) Tryz.f191 F191 = true := by kernel_rfl
theorem G192 : fmatch Tryz.prog (dmK Tryz.prog) Tryz.f192 F192 = true := by kernel_rfl
theorem G193 : fmatch Tryz.prog (dmK Tryz.prog) Tryz.f193 F193 = true := by kernel_rfl
theorem G194 : fmatch Tryz.prog (dmK Tryz.prog) Tryz.f194 F194 = true := by kernel_rfl
theorem G195 : fmatch Tryz.prog (dmK Tryz.prog) Tryz.f195 F195 = true := by kernel_rfl
theorem G196 : fmatch Tryz.prog (dmK Tryz.prog) Tryz.f196 F196 = true := by kernel_rfl
theorem G197 : fmatch Tryz.prog (dmK Tryz.prog) Tryz.f197 F197 = true := by kernel_rfl
theorem G198 : fmatch Tryz.prog (dmK Tryz.prog) Tryz.f198 F198 = true := by kernel_rfl
theorem G199 : fmatch Tryz.prog (dmK Tryz.prog) Tryz.f199 F199 = true := by kernel_rfl
theorem G200 : fmatch Tryz.prog (dmK Tryz.prog) Tryz.f200 F200 = true := by kernel_rfl
theorem G201 : fmatch Tryz.prog (dmK Tryz.prog) Tryz.f201 F201 = true := by kernel_rfl
theorem G202 : fmatch Tryz.prog (dmK Tryz.prog) Tryz.f202 F202 = true := by kernel_rfl
theorem G203 : fmatch Tryz.prog (dmK Tryz.prog) Tryz.f203 F203 = true := by kernel_rfl
theorem G204 : fmatch Tryz.prog (dmK Tryz.prog) Tryz.f204 F204 = true := by kernel_rfl
theorem G206 : fmatch Tryz.prog (dmK Tryz.prog) Tryz.f206 F206 = true := by kernel_rfl
theorem G207 : fmatch Tryz.prog (dmK Tryz.prog) Tryz.f207 F207 = true := by kernel_rfl
theorem G208 : fmatch Tryz.prog (dmK Tryz.prog) Tryz.f208 F208 = true := by kernel_rfl
theorem G209 : fmatch Tryz.prog (dmK Tryz.prog) Tryz.f209 F209 = true := by kernel_rfl
theorem G210 : fmatch Tryz.prog (dmK Tryz.prog) Tryz.f210 F210 = true := by kernel_rfl
theorem G211 : fmatch Tryz.prog (dmK Tryz.prog) Tryz.f211 F211 = true := by kernel_rfl
theorem G212 : fmatch Tryz.prog (dmK Tryz.prog) Tryz.f212 F212 = true := by kernel_rfl
end Go.Av

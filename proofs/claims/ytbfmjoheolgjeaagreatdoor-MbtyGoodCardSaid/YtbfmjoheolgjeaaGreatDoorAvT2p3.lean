/- These functions are the program's. -/
import Derived.Test.YtbfmjoheolgjeaaGreatDoorAvT1
import Derived.Test.YtbfmjoheolgjeaaGreatDoorProg
set_option maxRecDepth 100000
set_option linter.unusedVariables false
namespace Go.Av
open Go.Proofs
theorem G213 : fmatch Tryz.prog (dmK Tryz.prog) Tryz.f213 F213 = true := by kernel_rfl
theorem G214 : fmatch Tryz.prog (dmK Tryz.prog) Tryz.f214 F214 = true := by kernel_rfl
theorem G215 : fmatch Tryz.prog (dmK Tryz.prog) Tryz.f215 F215 = true := by kernel_rfl
theorem G216 : fmatch Tryz.prog (dmK Tryz.prog) Tryz.f216 F216 = true := by kernel_rfl
theorem G217 : fmatch Tryz.prog (dmK Tryz.prog) Tryz.f217 F217 = true := by kernel_rfl
theorem G220 : fmatch Tryz.prog (dmK Tryz.prog) Tryz.f220 F220 = true := by kernel_rfl
theorem G221 : fmatch Tryz.prog (dmK Tryz.prog) Tryz.f221 F221 = true := by kernel_rfl
theorem G222 : fmatch Tryz.prog (dmK Tryz.prog) Tryz.f222 F222 = true := by kernel_rfl
theorem G223 : fmatch Tryz.prog (dmK Tryz.prog) Tryz.f223 F223 = true := by kernel_rfl
theorem G229 : fmatch Tryz.prog (dmK Tryz.prog) Tryz.f229 F229 = true := by kernel_rfl
theorem G231 : fmatch Tryz.prog (dmK Tryz.prog) Tryz.f231 F231 = true := by kernel_rfl
theorem G232 : fmatch Tryz.prog (dmK Tryz.prog) Tryz.f232 F232 = true := by kernel_rfl
theorem G233 : fmatch Tryz.prog (dmK Tryz.prog) Tryz.f233 F233 = true := by kernel_rfl
theorem G241 : fmatch Tryz.prog (dmK Tryz.prog) Tryz.f241 F241 = true := by kernel_rfl
theorem G242 : fmatch Tryz.prog (dmK Tryz.prog) Tryz.f242 F242 = true := by kernel_rfl
theorem G243 : fmatch Tryz.prog (dmK Tryz.prog) Tryz.f243 F243 = true := by kernel_rfl
theorem G245 : fmatch Tryz.prog (dmK Tryz.prog) Tryz.f245 F245 = true := by kernel_rfl
theorem G246 : fmatch Tryz.prog (dmK Tryz.prog) Tryz.f246 F246 = true := by kernel_rfl
theorem G247 : fmatch Tryz.prog (dmK Tryz.prog) Tryz.f247 F247 = true := by kernel_rfl
theorem G248 : fmatch Tryz.prog (dmK Tryz.prog) Tryz.f248 F248 = true := by kernel_rfl
theorem G250 : fmatch Tryz.prog (dmK Tryz.prog) Tryz.f250 F250 = true := by kernel_rfl
theorem G251 : fmatch Tryz.prog (dmK Tryz.prog) Tryz.f251 F251 = true := by kernel_rfl
theorem G252 : fmatch Tryz.prog (dmK Tryz.prog) Tryz.f252 F252 = true := by kernel_rfl
theorem G253 : fmatch Tryz.prog (dmK Tryz.prog) Tryz.f253 F253 = true := by kernel_rfl
theorem G254 : fmatch Tryz.prog (dmK Tryz.prog) Tryz.f254 F254 = true := by kernel_rfl
theorem G255 : fmatch Tryz.prog (dmK Tryz.prog) Tryz.f255 F255 = true := by kernel_rfl
theorem G256 : fmatch Tryz.prog (dmK Tryz.prog) Tryz.f256 F256 = true := by kernel_rfl
theorem G258 : fmatch Tryz.prog (dmK Tryz.prog) Tryz.f258 F258 = true := by kernel_rfl
theorem G259 : fmatch Tryz.prog (dmK Tryz.prog) Tryz.f259 F259 = true := by kernel_rfl
theorem G260 : fmatch Tryz.prog (dmK Tryz.prog) Tryz.f260 F260 = true := by kernel_rfl
theorem G261 : fmatch Tryz.prog (dmK Tryz.prog) Tryz.f261 F261 = true := by kernel_rfl
theorem G262 : fmatch Tryz.prog (dmK Tryz.prog) Tryz.f262 F262 = true := by kernel_rfl
theorem G263 : fmatch Tryz.prog (dmK Tryz.prog) Tryz.f263 F263 = true := by kernel_rfl
theorem G268 : fmatch Tryz.prog (dmK Tryz.prog) Tryz.f268 F268 = true := by kernel_rfl
theorem G269 : fmatch Tryz.prog (dmK Tryz.prog) Tryz.f269 F269 = true := by kernel_rfl
theorem G270 : fmatch Tryz.prog (dmK Tryz.prog) Tryz.f270 F270 = true := by kernel_rfl
theorem G271 : fmatch Tryz.prog (dmK Tryz.prog) Tryz.f271 F271 = true := by kernel_rfl
theorem G272 : fmatch Tryz.prog (dmK Tryz.prog) Tryz.f272 F272 = true := by kernel_rfl
theorem G273 : fmatch Tryz.prog (dmK Tryz.prog) Tryz.f273 F273 = true := by kernel_rfl
theorem G274 : fmatch Tryz.prog (dmK Tryz.prog) Tryz.f274 F274 = true := by kernel_rfl
theorem G275 : fmatch Tryz.prog (dmK Tryz.prog) Tryz.f275 F275 = true := by kernel_rfl
theorem G284 : fmatch Tryz.prog (dmK Tryz.prog) Tryz.f284 F284 = true := by kernel_rfl
theorem G285 : fmatch Tryz.prog (dmK Tryz.prog) Tryz.f285 F285 = true := by kernel_rfl
theorem G286 : fmatch Tryz.prog (dmK Tryz.prog) Tryz.f286 F286 = true := by kernel_rfl
theorem G287 : fmatch Tryz.prog (dmK Tryz.prog) Tryz.f287 F287 = true := by kernel_rfl
theorem G288 : fmatch Tryz.prog (dmK Tryz.prog) Tryz.f288 F288 = true := by kernel_rfl
theorem G289 : fmatch Tryz.prog (dmK Tryz.prog) Tryz.f289 F289 = true := by kernel_rfl
theorem G290 : fmatch Tryz.prog (dmK Tryz.prog) Tryz.f290 F290 = true := by kernel_rfl
theorem G291 : fmatch Tryz.prog (dmK Tryz.prog) Tryz.f291 F291 = true := by kernel_rfl
theorem G292 : fmatch Tryz.prog (dmK Tryz.prog) Tryz.f292 F292 = true := by kernel_rfl
theorem G294 : fmatch Tryz.prog (dmK Tryz.prog) Tryz.f294 F294 = true := by kernel_rfl
theorem G295 : fmatch Tryz.prog (dmK Tryz.prog) Tryz.f295 F295 = true := by kernel_rfl
theorem G306 : fmatch Tryz.prog (dmK Tryz.prog) Tryz.f306 F306 = true := by kernel_rfl
theorem G307 : fmatch Tryz.prog (dmK Tryz.prog) Tryz.f307 F307 = true := by kernel_rfl
theorem G308 : fmatch Tryz.prog (dmK Tryz.prog) Tryz.f308 F308 = true := by kernel_rfl
theorem G313 : fmatch Tryz.prog (dmK Tryz.prog) Tryz.f313 F313 = true := by kernel_rfl
theorem G314 : fmatch Tryz.prog (dmK Tryz.prog) Tryz.f314 F314 = true := by kernel_rfl
theorem G323 : fmatch Tryz.prog (dmK Tryz.prog) Tryz.f323 F323 = true := by kernel_rfl
theorem G330 : fmatch Tryz.prog (dmK Tryz.prog) Tryz.f330 F330 = true := by kernel_rfl
theorem G331 : fmatch Tryz.prog (dmK Tryz.prog) Tryz.f331 F331 = true := by kernel_rfl
end Go.Av

/- Segments of a run of WorldNil, each by the kernel. -/
import Derived.Test.YtonjafmghabilaaGreatDoorWorldNilSt2
namespace Go.Proofs.YtonjafmghabilaaGreatDoor.worldNilSeg
open Go.Sx
set_option maxRecDepth 10000000 in
theorem g12 : (mrun Tryz.prog noTbl 400 6787 s12.m s12.k s12.c s12.h).map (mcut s13.h) = some s13 := by kernel_rfl
set_option maxRecDepth 10000000 in
theorem g13 : (mrun Tryz.prog noTbl 400 236 s13.m s13.k s13.c s13.h).map (mcut s14.h) = some s14 := by kernel_rfl
end Go.Proofs.YtonjafmghabilaaGreatDoor.worldNilSeg

/- Segments of a run of WorldNil, each by the kernel. -/
import Derived.Test.YtonjafmghabilaaGreatDoorWorldNilSt2
namespace Go.Proofs.YtonjafmghabilaaGreatDoor.worldNilSeg
open Go.Sx
set_option maxRecDepth 10000000 in
theorem g22 : (mrun Tryz.prog noTbl 400 9000 s22.m s22.k s22.c s22.h).map (mcut s23.h) = some s23 := by kernel_rfl
set_option maxRecDepth 10000000 in
theorem g23 : (mrun Tryz.prog noTbl 400 9000 s23.m s23.k s23.c s23.h).map (mcut s24.h) = some s24 := by kernel_rfl
end Go.Proofs.YtonjafmghabilaaGreatDoor.worldNilSeg

/- Segments of a run of WorldNil, each by the kernel. -/
import Derived.Test.YtonjafmghabilaaGreatDoorWorldNilSt2
namespace Go.Proofs.YtonjafmghabilaaGreatDoor.worldNilSeg
open Go.Sx
set_option maxRecDepth 10000000 in
theorem g6 : (mrun Tryz.prog noTbl 400 9000 s6.m s6.k s6.c s6.h).map (mcut s7.h) = some s7 := by kernel_rfl
set_option maxRecDepth 10000000 in
theorem g7 : (mrun Tryz.prog noTbl 400 9000 s7.m s7.k s7.c s7.h).map (mcut s8.h) = some s8 := by kernel_rfl
end Go.Proofs.YtonjafmghabilaaGreatDoor.worldNilSeg

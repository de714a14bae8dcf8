/- Segments of a run of WorldNil, each by the kernel. -/
import Derived.Test.YtonjafmghabilaaGreatDoorWorldNilSt2
namespace Go.Proofs.YtonjafmghabilaaGreatDoor.worldNilSeg
open Go.Sx
set_option maxRecDepth 10000000 in
theorem g16 : (mrun Tryz.prog noTbl 400 9000 s16.m s16.k s16.c s16.h).map (mcut s17.h) = some s17 := by kernel_rfl
set_option maxRecDepth 10000000 in
theorem g17 : (mrun Tryz.prog noTbl 400 9000 s17.m s17.k s17.c s17.h).map (mcut s18.h) = some s18 := by kernel_rfl
end Go.Proofs.YtonjafmghabilaaGreatDoor.worldNilSeg

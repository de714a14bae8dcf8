/- Segments of a run of WorldNil, each by the kernel. -/
import Derived.Test.YtonjafmghabilaaGreatDoorWorldNilSt2
namespace Go.Proofs.YtonjafmghabilaaGreatDoor.worldNilSeg
open Go.Sx
set_option maxRecDepth 10000000 in
theorem g14 : (mrun Tryz.prog noTbl 400 4347 s14.m s14.k s14.c s14.h).map (mcut s15.h) = some s15 := by kernel_rfl
set_option maxRecDepth 10000000 in
theorem g15 : (mrun Tryz.prog noTbl 400 9000 s15.m s15.k s15.c s15.h).map (mcut s16.h) = some s16 := by kernel_rfl
end Go.Proofs.YtonjafmghabilaaGreatDoor.worldNilSeg

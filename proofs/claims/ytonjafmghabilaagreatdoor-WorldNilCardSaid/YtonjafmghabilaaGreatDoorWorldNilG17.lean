/- Segments of a run of WorldNil, each by the kernel. -/
import Derived.Test.YtonjafmghabilaaGreatDoorWorldNilSt2
namespace Go.Proofs.YtonjafmghabilaaGreatDoor.worldNilSeg
open Go.Sx
set_option maxRecDepth 10000000 in
theorem g32 : (mrun Tryz.prog noTbl 400 9000 s32.m s32.k s32.c s32.h).map (mcut s33.h) = some s33 := by kernel_rfl
set_option maxRecDepth 10000000 in
theorem g33 : (mrun Tryz.prog noTbl 400 9000 s33.m s33.k s33.c s33.h).map (mcut s34.h) = some s34 := by kernel_rfl
end Go.Proofs.YtonjafmghabilaaGreatDoor.worldNilSeg

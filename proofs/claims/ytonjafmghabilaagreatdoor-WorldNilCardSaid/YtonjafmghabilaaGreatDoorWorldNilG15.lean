/- Segments of a run of WorldNil, each by the kernel. -/
import Derived.Test.YtonjafmghabilaaGreatDoorWorldNilSt2
namespace Go.Proofs.YtonjafmghabilaaGreatDoor.worldNilSeg
open Go.Sx
set_option maxRecDepth 10000000 in
theorem g28 : (mrun Tryz.prog noTbl 400 9000 s28.m s28.k s28.c s28.h).map (mcut s29.h) = some s29 := by kernel_rfl
set_option maxRecDepth 10000000 in
theorem g29 : (mrun Tryz.prog noTbl 400 9000 s29.m s29.k s29.c s29.h).map (mcut s30.h) = some s30 := by kernel_rfl
end Go.Proofs.YtonjafmghabilaaGreatDoor.worldNilSeg

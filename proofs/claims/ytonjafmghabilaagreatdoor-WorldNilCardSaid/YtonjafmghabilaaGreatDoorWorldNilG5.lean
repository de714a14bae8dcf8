/- Segments of a run of WorldNil, each by the kernel. -/
import Derived.Test.YtonjafmghabilaaGreatDoorWorldNilSt2
namespace Go.Proofs.YtonjafmghabilaaGreatDoor.worldNilSeg
open Go.Sx
set_option maxRecDepth 10000000 in
theorem g8 : (mrun Tryz.prog noTbl 400 9000 s8.m s8.k s8.c s8.h).map (mcut s9.h) = some s9 := by kernel_rfl
set_option maxRecDepth 10000000 in
theorem g9 : (mrun Tryz.prog noTbl 400 9000 s9.m s9.k s9.c s9.h).map (mcut s10.h) = some s10 := by kernel_rfl
end Go.Proofs.YtonjafmghabilaaGreatDoor.worldNilSeg

/- Segments of a run of WorldNil, each by the kernel. -/
import Derived.Test.YtonjafmghabilaaGreatDoorWorldNilSt2
namespace Go.Proofs.YtonjafmghabilaaGreatDoor.worldNilSeg
open Go.Sx
set_option maxRecDepth 10000000 in
theorem g24 : (mrun Tryz.prog noTbl 400 2539 s24.m s24.k s24.c s24.h).map (mcut s25.h) = some s25 := by kernel_rfl
set_option maxRecDepth 10000000 in
theorem g25 : (mrun Tryz.prog noTbl 400 4347 s25.m s25.k s25.c s25.h).map (mcut s26.h) = some s26 := by kernel_rfl
end Go.Proofs.YtonjafmghabilaaGreatDoor.worldNilSeg

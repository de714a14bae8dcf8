/- Segments of a run of WorldNil, each by the kernel. -/
import Derived.Test.YtonjafmghabilaaGreatDoorWorldNilSt2
namespace Go.Proofs.YtonjafmghabilaaGreatDoor.worldNilSeg
open Go.Sx
set_option maxRecDepth 10000000 in
theorem g0 : (mrun Tryz.prog noTbl 400 9000 s0.m s0.k s0.c s0.h).map (mcut s1.h) = some s1 := by kernel_rfl
set_option maxRecDepth 10000000 in
theorem g1 : (mrun Tryz.prog noTbl 400 9000 s1.m s1.k s1.c s1.h).map (mcut s2.h) = some s2 := by kernel_rfl
end Go.Proofs.YtonjafmghabilaaGreatDoor.worldNilSeg

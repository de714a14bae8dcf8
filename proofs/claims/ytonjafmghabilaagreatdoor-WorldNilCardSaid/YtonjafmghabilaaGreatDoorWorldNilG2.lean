/- Segments of a run of WorldNil, each by the kernel. -/
import Derived.Test.YtonjafmghabilaaGreatDoorWorldNilSt2
namespace Go.Proofs.YtonjafmghabilaaGreatDoor.worldNilSeg
open Go.Sx
set_option maxRecDepth 10000000 in
theorem g2 : (mrun Tryz.prog noTbl 400 9000 s2.m s2.k s2.c s2.h).map (mcut s3.h) = some s3 := by kernel_rfl
set_option maxRecDepth 10000000 in
theorem g3 : (mrun Tryz.prog noTbl 400 9000 s3.m s3.k s3.c s3.h).map (mcut s4.h) = some s4 := by kernel_rfl
end Go.Proofs.YtonjafmghabilaaGreatDoor.worldNilSeg

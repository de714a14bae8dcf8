/- Segments of a run of WorldNil, each by the kernel. -/
import Derived.Test.YtonjafmghabilaaGreatDoorWorldNilSt2
namespace Go.Proofs.YtonjafmghabilaaGreatDoor.worldNilSeg
open Go.Sx
set_option maxRecDepth 10000000 in
theorem g26 : (mrun Tryz.prog noTbl 400 4936 s26.m s26.k s26.c s26.h).map (mcut s27.h) = some s27 := by kernel_rfl
set_option maxRecDepth 10000000 in
theorem g27 : (mrun Tryz.prog noTbl 400 4346 s27.m s27.k s27.c s27.h).map (mcut s28.h) = some s28 := by kernel_rfl
end Go.Proofs.YtonjafmghabilaaGreatDoor.worldNilSeg

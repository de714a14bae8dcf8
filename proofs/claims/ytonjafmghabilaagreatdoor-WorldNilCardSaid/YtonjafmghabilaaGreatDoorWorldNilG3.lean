/- Segments of a run of WorldNil, each by the kernel. -/
import Derived.Test.YtonjafmghabilaaGreatDoorWorldNilSt2
namespace Go.Proofs.YtonjafmghabilaaGreatDoor.worldNilSeg
open Go.Sx
set_option maxRecDepth 10000000 in
theorem g4 : (mrun Tryz.prog noTbl 400 3371 s4.m s4.k s4.c s4.h).map (mcut s5.h) = some s5 := by kernel_rfl
set_option maxRecDepth 10000000 in
theorem g5 : (mrun Tryz.prog noTbl 400 4347 s5.m s5.k s5.c s5.h).map (mcut s6.h) = some s6 := by kernel_rfl
end Go.Proofs.YtonjafmghabilaaGreatDoor.worldNilSeg

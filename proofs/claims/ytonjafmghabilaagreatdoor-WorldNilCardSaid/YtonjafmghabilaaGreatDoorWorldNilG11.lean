/- Segments of a run of WorldNil, each by the kernel. -/
import Derived.Test.YtonjafmghabilaaGreatDoorWorldNilSt2
namespace Go.Proofs.YtonjafmghabilaaGreatDoor.worldNilSeg
open Go.Sx
set_option maxRecDepth 10000000 in
theorem g20 : (mrun Tryz.prog noTbl 400 9000 s20.m s20.k s20.c s20.h).map (mcut s21.h) = some s21 := by kernel_rfl
set_option maxRecDepth 10000000 in
theorem g21 : (mrun Tryz.prog noTbl 400 9000 s21.m s21.k s21.c s21.h).map (mcut s22.h) = some s22 := by kernel_rfl
end Go.Proofs.YtonjafmghabilaaGreatDoor.worldNilSeg

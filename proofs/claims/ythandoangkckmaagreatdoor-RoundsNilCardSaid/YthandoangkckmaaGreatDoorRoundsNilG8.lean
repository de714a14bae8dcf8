/- Segments of a run of RoundsNil, each by the kernel. -/
import Derived.Test.YthandoangkckmaaGreatDoorRoundsNilSt3
namespace Go.Proofs.YthandoangkckmaaGreatDoor.roundsNilSeg
open Go.Sx
set_option maxRecDepth 10000000 in
theorem g21 : (mrun Tryz.prog noTbl 400 4347 s21.m s21.k s21.c s21.h).map (mcut s22.h) = some s22 := by kernel_rfl
set_option maxRecDepth 10000000 in
theorem g22 : (mrun Tryz.prog noTbl 400 7405 s22.m s22.k s22.c s22.h).map (mcut s23.h) = some s23 := by kernel_rfl
set_option maxRecDepth 10000000 in
theorem g23 : (mrun Tryz.prog noTbl 400 4347 s23.m s23.k s23.c s23.h).map (mcut s24.h) = some s24 := by kernel_rfl
end Go.Proofs.YthandoangkckmaaGreatDoor.roundsNilSeg

/- Segments of a run of RoundsNil, each by the kernel. -/
import Derived.Test.YthandoangkckmaaGreatDoorRoundsNilSt3
namespace Go.Proofs.YthandoangkckmaaGreatDoor.roundsNilSeg
open Go.Sx
set_option maxRecDepth 10000000 in
theorem g33 : (mrun Tryz.prog noTbl 400 9000 s33.m s33.k s33.c s33.h).map (mcut s34.h) = some s34 := by kernel_rfl
set_option maxRecDepth 10000000 in
theorem g34 : (mrun Tryz.prog noTbl 400 9000 s34.m s34.k s34.c s34.h).map (mcut s35.h) = some s35 := by kernel_rfl
set_option maxRecDepth 10000000 in
theorem g35 : (mrun Tryz.prog noTbl 400 9000 s35.m s35.k s35.c s35.h).map (mcut s36.h) = some s36 := by kernel_rfl
end Go.Proofs.YthandoangkckmaaGreatDoor.roundsNilSeg

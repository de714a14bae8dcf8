/- Segments of a run of RoundsNil, each by the kernel. -/
import Derived.Test.YthandoangkckmaaGreatDoorRoundsNilSt3
namespace Go.Proofs.YthandoangkckmaaGreatDoor.roundsNilSeg
open Go.Sx
set_option maxRecDepth 10000000 in
theorem g36 : (mrun Tryz.prog noTbl 400 9000 s36.m s36.k s36.c s36.h).map (mcut s37.h) = some s37 := by kernel_rfl
set_option maxRecDepth 10000000 in
theorem g37 : (mrun Tryz.prog noTbl 400 9000 s37.m s37.k s37.c s37.h).map (mcut s38.h) = some s38 := by kernel_rfl
set_option maxRecDepth 10000000 in
theorem g38 : (mrun Tryz.prog noTbl 400 9000 s38.m s38.k s38.c s38.h).map (mcut s39.h) = some s39 := by kernel_rfl
end Go.Proofs.YthandoangkckmaaGreatDoor.roundsNilSeg

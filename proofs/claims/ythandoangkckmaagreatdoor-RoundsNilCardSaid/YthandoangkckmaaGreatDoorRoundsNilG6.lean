/- Segments of a run of RoundsNil, each by the kernel. -/
import Derived.Test.YthandoangkckmaaGreatDoorRoundsNilSt3
namespace Go.Proofs.YthandoangkckmaaGreatDoor.roundsNilSeg
open Go.Sx
set_option maxRecDepth 10000000 in
theorem g15 : (mrun Tryz.prog noTbl 400 9000 s15.m s15.k s15.c s15.h).map (mcut s16.h) = some s16 := by kernel_rfl
set_option maxRecDepth 10000000 in
theorem g16 : (mrun Tryz.prog noTbl 400 9000 s16.m s16.k s16.c s16.h).map (mcut s17.h) = some s17 := by kernel_rfl
set_option maxRecDepth 10000000 in
theorem g17 : (mrun Tryz.prog noTbl 400 9000 s17.m s17.k s17.c s17.h).map (mcut s18.h) = some s18 := by kernel_rfl
end Go.Proofs.YthandoangkckmaaGreatDoor.roundsNilSeg

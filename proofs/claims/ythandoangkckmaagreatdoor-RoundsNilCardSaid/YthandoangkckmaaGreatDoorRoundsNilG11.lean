/- Segments of a run of RoundsNil, each by the kernel. -/
import Derived.Test.YthandoangkckmaaGreatDoorRoundsNilSt3
namespace Go.Proofs.YthandoangkckmaaGreatDoor.roundsNilSeg
open Go.Sx
set_option maxRecDepth 10000000 in
theorem g30 : (mrun Tryz.prog noTbl 400 9000 s30.m s30.k s30.c s30.h).map (mcut s31.h) = some s31 := by kernel_rfl
set_option maxRecDepth 10000000 in
theorem g31 : (mrun Tryz.prog noTbl 400 9000 s31.m s31.k s31.c s31.h).map (mcut s32.h) = some s32 := by kernel_rfl
set_option maxRecDepth 10000000 in
theorem g32 : (mrun Tryz.prog noTbl 400 9000 s32.m s32.k s32.c s32.h).map (mcut s33.h) = some s33 := by kernel_rfl
end Go.Proofs.YthandoangkckmaaGreatDoor.roundsNilSeg

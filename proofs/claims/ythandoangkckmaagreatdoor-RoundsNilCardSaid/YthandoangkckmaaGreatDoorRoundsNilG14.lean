/- Segments of a run of RoundsNil, each by the kernel. -/
import Derived.Test.YthandoangkckmaaGreatDoorRoundsNilSt3
namespace Go.Proofs.YthandoangkckmaaGreatDoor.roundsNilSeg
open Go.Sx
set_option maxRecDepth 10000000 in
theorem g39 : (mrun Tryz.prog noTbl 400 9000 s39.m s39.k s39.c s39.h).map (mcut s40.h) = some s40 := by kernel_rfl
set_option maxRecDepth 10000000 in
theorem g40 : (mrun Tryz.prog noTbl 400 9000 s40.m s40.k s40.c s40.h).map (mcut s41.h) = some s41 := by kernel_rfl
set_option maxRecDepth 10000000 in
theorem g41 : (mrun Tryz.prog noTbl 400 9000 s41.m s41.k s41.c s41.h).map (mcut s42.h) = some s42 := by kernel_rfl
end Go.Proofs.YthandoangkckmaaGreatDoor.roundsNilSeg

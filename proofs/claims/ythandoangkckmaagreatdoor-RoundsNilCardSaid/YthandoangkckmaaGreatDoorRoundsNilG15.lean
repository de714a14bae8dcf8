/- Segments of a run of RoundsNil, each by the kernel. -/
import Derived.Test.YthandoangkckmaaGreatDoorRoundsNilSt3
namespace Go.Proofs.YthandoangkckmaaGreatDoor.roundsNilSeg
open Go.Sx
set_option maxRecDepth 10000000 in
theorem g42 : (mrun Tryz.prog noTbl 400 9000 s42.m s42.k s42.c s42.h).map (mcut s43.h) = some s43 := by kernel_rfl
set_option maxRecDepth 10000000 in
theorem g43 : (mrun Tryz.prog noTbl 400 9000 s43.m s43.k s43.c s43.h).map (mcut s44.h) = some s44 := by kernel_rfl
set_option maxRecDepth 10000000 in
theorem g44 : (mrun Tryz.prog noTbl 400 9000 s44.m s44.k s44.c s44.h).map (mcut s45.h) = some s45 := by kernel_rfl
end Go.Proofs.YthandoangkckmaaGreatDoor.roundsNilSeg

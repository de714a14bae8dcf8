/- Segments of a run of RoundsNil, each by the kernel. -/
import Derived.Test.YthandoangkckmaaGreatDoorRoundsNilSt3
namespace Go.Proofs.YthandoangkckmaaGreatDoor.roundsNilSeg
open Go.Sx
set_option maxRecDepth 10000000 in
theorem g48 : (mrun Tryz.prog noTbl 400 9000 s48.m s48.k s48.c s48.h).map (mcut s49.h) = some s49 := by kernel_rfl
set_option maxRecDepth 10000000 in
theorem g49 : (mrun Tryz.prog noTbl 400 9000 s49.m s49.k s49.c s49.h).map (mcut s50.h) = some s50 := by kernel_rfl
set_option maxRecDepth 10000000 in
theorem g50 : (mrun Tryz.prog noTbl 400 9000 s50.m s50.k s50.c s50.h).map (mcut s51.h) = some s51 := by kernel_rfl
end Go.Proofs.YthandoangkckmaaGreatDoor.roundsNilSeg

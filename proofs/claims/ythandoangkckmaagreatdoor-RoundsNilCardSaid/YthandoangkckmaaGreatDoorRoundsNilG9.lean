/- Segments of a run of RoundsNil, each by the kernel. -/
import Derived.Test.YthandoangkckmaaGreatDoorRoundsNilSt3
namespace Go.Proofs.YthandoangkckmaaGreatDoor.roundsNilSeg
open Go.Sx
set_option maxRecDepth 10000000 in
theorem g24 : (mrun Tryz.prog noTbl 400 5346 s24.m s24.k s24.c s24.h).map (mcut s25.h) = some s25 := by kernel_rfl
set_option maxRecDepth 10000000 in
theorem g25 : (mrun Tryz.prog noTbl 400 4347 s25.m s25.k s25.c s25.h).map (mcut s26.h) = some s26 := by kernel_rfl
set_option maxRecDepth 10000000 in
theorem g26 : (mrun Tryz.prog noTbl 400 9000 s26.m s26.k s26.c s26.h).map (mcut s27.h) = some s27 := by kernel_rfl
end Go.Proofs.YthandoangkckmaaGreatDoor.roundsNilSeg

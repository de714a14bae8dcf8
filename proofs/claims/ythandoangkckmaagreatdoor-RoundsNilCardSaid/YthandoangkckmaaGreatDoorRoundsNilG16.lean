/- Segments of a run of RoundsNil, each by the kernel. -/
import Derived.Test.YthandoangkckmaaGreatDoorRoundsNilSt3
namespace Go.Proofs.YthandoangkckmaaGreatDoor.roundsNilSeg
open Go.Sx
set_option maxRecDepth 10000000 in
theorem g45 : (mrun Tryz.prog noTbl 400 9000 s45.m s45.k s45.c s45.h).map (mcut s46.h) = some s46 := by kernel_rfl
set_option maxRecDepth 10000000 in
theorem g46 : (mrun Tryz.prog noTbl 400 9000 s46.m s46.k s46.c s46.h).map (mcut s47.h) = some s47 := by kernel_rfl
set_option maxRecDepth 10000000 in
theorem g47 : (mrun Tryz.prog noTbl 400 9000 s47.m s47.k s47.c s47.h).map (mcut s48.h) = some s48 := by kernel_rfl
end Go.Proofs.YthandoangkckmaaGreatDoor.roundsNilSeg

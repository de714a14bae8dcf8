/- Segments of a run of RoundsNil, each by the kernel. -/
import Derived.Test.YthandoangkckmaaGreatDoorRoundsNilSt3
namespace Go.Proofs.YthandoangkckmaaGreatDoor.roundsNilSeg
open Go.Sx
set_option maxRecDepth 10000000 in
theorem g6 : (mrun Tryz.prog noTbl 400 4347 s6.m s6.k s6.c s6.h).map (mcut s7.h) = some s7 := by kernel_rfl
set_option maxRecDepth 10000000 in
theorem g7 : (mrun Tryz.prog noTbl 400 9000 s7.m s7.k s7.c s7.h).map (mcut s8.h) = some s8 := by kernel_rfl
set_option maxRecDepth 10000000 in
theorem g8 : (mrun Tryz.prog noTbl 400 9000 s8.m s8.k s8.c s8.h).map (mcut s9.h) = some s9 := by kernel_rfl
end Go.Proofs.YthandoangkckmaaGreatDoor.roundsNilSeg

/- Segments of a run of RoundsNil, each by the kernel. -/
import Derived.Test.YthandoangkckmaaGreatDoorRoundsNilSt3
namespace Go.Proofs.YthandoangkckmaaGreatDoor.roundsNilSeg
open Go.Sx
set_option maxRecDepth 10000000 in
theorem g27 : (mrun Tryz.prog noTbl 400 9000 s27.m s27.k s27.c s27.h).map (mcut s28.h) = some s28 := by kernel_rfl
set_option maxRecDepth 10000000 in
theorem g28 : (mrun Tryz.prog noTbl 400 9000 s28.m s28.k s28.c s28.h).map (mcut s29.h) = some s29 := by kernel_rfl
set_option maxRecDepth 10000000 in
theorem g29 : (mrun Tryz.prog noTbl 400 9000 s29.m s29.k s29.c s29.h).map (mcut s30.h) = some s30 := by kernel_rfl
end Go.Proofs.YthandoangkckmaaGreatDoor.roundsNilSeg

/- Segments of a run of RoundsNil, each by the kernel. -/
import Derived.Test.YthandoangkckmaaGreatDoorRoundsNilSt3
namespace Go.Proofs.YthandoangkckmaaGreatDoor.roundsNilSeg
open Go.Sx
set_option maxRecDepth 10000000 in
theorem g3 : (mrun Tryz.prog noTbl 400 9000 s3.m s3.k s3.c s3.h).map (mcut s4.h) = some s4 := by kernel_rfl
set_option maxRecDepth 10000000 in
theorem g4 : (mrun Tryz.prog noTbl 400 9000 s4.m s4.k s4.c s4.h).map (mcut s5.h) = some s5 := by kernel_rfl
set_option maxRecDepth 10000000 in
theorem g5 : (mrun Tryz.prog noTbl 400 3217 s5.m s5.k s5.c s5.h).map (mcut s6.h) = some s6 := by kernel_rfl
end Go.Proofs.YthandoangkckmaaGreatDoor.roundsNilSeg

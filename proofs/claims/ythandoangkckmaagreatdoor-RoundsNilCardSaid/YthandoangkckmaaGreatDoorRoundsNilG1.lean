/- Segments of a run of RoundsNil, each by the kernel. -/
import Derived.Test.YthandoangkckmaaGreatDoorRoundsNilSt3
namespace Go.Proofs.YthandoangkckmaaGreatDoor.roundsNilSeg
open Go.Sx
set_option maxRecDepth 10000000 in
theorem g0 : (mrun Tryz.prog noTbl 400 9000 s0.m s0.k s0.c s0.h).map (mcut s1.h) = some s1 := by kernel_rfl
set_option maxRecDepth 10000000 in
theorem g1 : (mrun Tryz.prog noTbl 400 9000 s1.m s1.k s1.c s1.h).map (mcut s2.h) = some s2 := by kernel_rfl
set_option maxRecDepth 10000000 in
theorem g2 : (mrun Tryz.prog noTbl 400 9000 s2.m s2.k s2.c s2.h).map (mcut s3.h) = some s3 := by kernel_rfl
end Go.Proofs.YthandoangkckmaaGreatDoor.roundsNilSeg

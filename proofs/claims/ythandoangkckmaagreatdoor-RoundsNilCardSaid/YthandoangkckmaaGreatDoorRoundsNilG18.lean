/- Segments of a run of RoundsNil, each by the kernel. -/
import Derived.Test.YthandoangkckmaaGreatDoorRoundsNilSt3
namespace Go.Proofs.YthandoangkckmaaGreatDoor.roundsNilSeg
open Go.Sx
set_option maxRecDepth 10000000 in
theorem g51 : (mrun Tryz.prog noTbl 400 9000 s51.m s51.k s51.c s51.h).map (mcut s52.h) = some s52 := by kernel_rfl
set_option maxRecDepth 10000000 in
theorem g52 : endB (mrun Tryz.prog noTbl 400 6857 s52.m s52.k s52.c s52.h) = true := by kernel_rfl
end Go.Proofs.YthandoangkckmaaGreatDoor.roundsNilSeg

/- Segments of a run of RoundsNil, each by the kernel. -/
import Derived.Test.YthandoangkckmaaGreatDoorRoundsNilSt3
namespace Go.Proofs.YthandoangkckmaaGreatDoor.roundsNilSeg
open Go.Sx
set_option maxRecDepth 10000000 in
theorem g12 : (mrun Tryz.prog noTbl 400 9000 s12.m s12.k s12.c s12.h).map (mcut s13.h) = some s13 := by kernel_rfl
set_option maxRecDepth 10000000 in
theorem g13 : (mrun Tryz.prog noTbl 400 9000 s13.m s13.k s13.c s13.h).map (mcut s14.h) = some s14 := by kernel_rfl
set_option maxRecDepth 10000000 in
theorem g14 : (mrun Tryz.prog noTbl 400 9000 s14.m s14.k s14.c s14.h).map (mcut s15.h) = some s15 := by kernel_rfl
end Go.Proofs.YthandoangkckmaaGreatDoor.roundsNilSeg

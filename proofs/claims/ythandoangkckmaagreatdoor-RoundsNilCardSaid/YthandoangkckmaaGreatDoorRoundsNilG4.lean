/- Segments of a run of RoundsNil, each by the kernel. -/
import Derived.Test.YthandoangkckmaaGreatDoorRoundsNilSt3
namespace Go.Proofs.YthandoangkckmaaGreatDoor.roundsNilSeg
open Go.Sx
set_option maxRecDepth 10000000 in
theorem g9 : (mrun Tryz.prog noTbl 400 9000 s9.m s9.k s9.c s9.h).map (mcut s10.h) = some s10 := by kernel_rfl
set_option maxRecDepth 10000000 in
theorem g10 : (mrun Tryz.prog noTbl 400 9000 s10.m s10.k s10.c s10.h).map (mcut s11.h) = some s11 := by kernel_rfl
set_option maxRecDepth 10000000 in
theorem g11 : (mrun Tryz.prog noTbl 400 9000 s11.m s11.k s11.c s11.h).map (mcut s12.h) = some s12 := by kernel_rfl
end Go.Proofs.YthandoangkckmaaGreatDoor.roundsNilSeg

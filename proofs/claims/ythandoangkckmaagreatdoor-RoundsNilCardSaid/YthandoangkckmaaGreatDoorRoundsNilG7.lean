/- Segments of a run of RoundsNil, each by the kernel. -/
import Derived.Test.YthandoangkckmaaGreatDoorRoundsNilSt3
namespace Go.Proofs.YthandoangkckmaaGreatDoor.roundsNilSeg
open Go.Sx
set_option maxRecDepth 10000000 in
theorem g18 : (mrun Tryz.prog noTbl 400 9000 s18.m s18.k s18.c s18.h).map (mcut s19.h) = some s19 := by kernel_rfl
set_option maxRecDepth 10000000 in
theorem g19 : (mrun Tryz.prog noTbl 400 9000 s19.m s19.k s19.c s19.h).map (mcut s20.h) = some s20 := by kernel_rfl
set_option maxRecDepth 10000000 in
theorem g20 : (mrun Tryz.prog noTbl 400 3594 s20.m s20.k s20.c s20.h).map (mcut s21.h) = some s21 := by kernel_rfl
end Go.Proofs.YthandoangkckmaaGreatDoor.roundsNilSeg

/- Segments of a run of NodeNil, each by the kernel. -/
import Derived.Test.YtlbhnanddkjhnaaGreatDoorNodeNilSt1
namespace Go.Proofs.YtlbhnanddkjhnaaGreatDoor.nodeNilSeg
open Go.Sx
set_option maxRecDepth 10000000 in
theorem g8 : (mrun Tryz.prog noTbl 400 500 s8.m s8.k s8.c s8.h).map (mcut s9.h) = some s9 := by kernel_rfl
end Go.Proofs.YtlbhnanddkjhnaaGreatDoor.nodeNilSeg

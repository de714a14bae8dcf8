/- Segments of a run of NodeNil, each by the kernel. -/
import Derived.Test.YtlbhnanddkjhnaaGreatDoorNodeNilSt1
namespace Go.Proofs.YtlbhnanddkjhnaaGreatDoor.nodeNilSeg
open Go.Sx
theorem g7 : (mrun Tryz.prog noTbl 400 500 s7.m s7.k s7.c s7.h).map (mcut s8.h) = some s8 := by kernel_rfl
end Go.Proofs.YtlbhnanddkjhnaaGreatDoor.nodeNilSeg

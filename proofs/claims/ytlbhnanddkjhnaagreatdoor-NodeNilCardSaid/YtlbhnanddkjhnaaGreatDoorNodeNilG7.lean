/- Segments of a run of NodeNil, each by the kernel. -/
import Derived.Test.YtlbhnanddkjhnaaGreatDoorNodeNilSt1
namespace Go.Proofs.YtlbhnanddkjhnaaGreatDoor.nodeNilSeg
open Go.Sx
theorem g6 : (mrun Tryz.prog noTbl 400 500 s6.m s6.k s6.c s6.h).map (mcut s7.h) = some s7 := by kernel_rfl
end Go.Proofs.YtlbhnanddkjhnaaGreatDoor.nodeNilSeg

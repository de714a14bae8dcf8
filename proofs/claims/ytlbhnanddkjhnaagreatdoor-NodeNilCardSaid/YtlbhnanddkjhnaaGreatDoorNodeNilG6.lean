/- Segments of a run of NodeNil, each by the kernel. -/
import Derived.Test.YtlbhnanddkjhnaaGreatDoorNodeNilSt1
namespace Go.Proofs.YtlbhnanddkjhnaaGreatDoor.nodeNilSeg
open Go.Sx
theorem g5 : (mrun Tryz.prog noTbl 400 500 s5.m s5.k s5.c s5.h).map (mcut s6.h) = some s6 := by kernel_rfl
end Go.Proofs.YtlbhnanddkjhnaaGreatDoor.nodeNilSeg

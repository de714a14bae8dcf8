/- Segments of a run of NodeNil, each by the kernel. -/
import Derived.Test.YtlbhnanddkjhnaaGreatDoorNodeNilSt1
namespace Go.Proofs.YtlbhnanddkjhnaaGreatDoor.nodeNilSeg
open Go.Sx
theorem g9 : (mrun Tryz.prog noTbl 400 266 s9.m s9.k s9.c s9.h).map (mcut s10.h) = some s10 := by kernel_rfl
end Go.Proofs.YtlbhnanddkjhnaaGreatDoor.nodeNilSeg

/- Segments of a run of RebuildNil, each by the kernel. -/
import Derived.Test.YtpennfojidpmeaaRebuildNilSt2
namespace Go.Proofs.Ytpennfojidpmeaa.rebuildNilSeg
open Go.Sx
theorem g42 : (mrun Try.prog noTbl 300 4000 s42.m s42.k s42.c s42.h).map (mcut s43.h) = some s43 := by kernel_rfl
theorem g43 : endB (mrun Try.prog noTbl 300 2664 s43.m s43.k s43.c s43.h) = true := by kernel_rfl
end Go.Proofs.Ytpennfojidpmeaa.rebuildNilSeg

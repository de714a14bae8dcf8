/- Segments of a run of RebuildNil, each by the kernel. -/
import Derived.Test.YtpennfojidpmeaaRebuildNilSt2
namespace Go.Proofs.Ytpennfojidpmeaa.rebuildNilSeg
open Go.Sx
theorem g36 : (mrun Try.prog noTbl 300 4000 s36.m s36.k s36.c s36.h).map (mcut s37.h) = some s37 := by kernel_rfl
theorem g37 : (mrun Try.prog noTbl 300 4000 s37.m s37.k s37.c s37.h).map (mcut s38.h) = some s38 := by kernel_rfl
theorem g38 : (mrun Try.prog noTbl 300 4000 s38.m s38.k s38.c s38.h).map (mcut s39.h) = some s39 := by kernel_rfl
theorem g39 : (mrun Try.prog noTbl 300 4000 s39.m s39.k s39.c s39.h).map (mcut s40.h) = some s40 := by kernel_rfl
theorem g40 : (mrun Try.prog noTbl 300 4000 s40.m s40.k s40.c s40.h).map (mcut s41.h) = some s41 := by kernel_rfl
theorem g41 : (mrun Try.prog noTbl 300 4000 s41.m s41.k s41.c s41.h).map (mcut s42.h) = some s42 := by kernel_rfl
end Go.Proofs.Ytpennfojidpmeaa.rebuildNilSeg

/- Segments of a run of RebuildNil, each by the kernel. -/
import Derived.Test.YtpennfojidpmeaaRebuildNilSt2
namespace Go.Proofs.Ytpennfojidpmeaa.rebuildNilSeg
open Go.Sx
theorem g30 : (mrun Try.prog noTbl 300 18000 s30.m s30.k s30.c s30.h).map (mcut s31.h) = some s31 := by kernel_rfl
theorem g31 : (mrun Try.prog noTbl 300 18000 s31.m s31.k s31.c s31.h).map (mcut s32.h) = some s32 := by kernel_rfl
theorem g32 : (mrun Try.prog noTbl 300 18000 s32.m s32.k s32.c s32.h).map (mcut s33.h) = some s33 := by kernel_rfl
theorem g33 : (mrun Try.prog noTbl 300 4000 s33.m s33.k s33.c s33.h).map (mcut s34.h) = some s34 := by kernel_rfl
theorem g34 : (mrun Try.prog noTbl 300 4000 s34.m s34.k s34.c s34.h).map (mcut s35.h) = some s35 := by kernel_rfl
theorem g35 : (mrun Try.prog noTbl 300 4000 s35.m s35.k s35.c s35.h).map (mcut s36.h) = some s36 := by kernel_rfl
end Go.Proofs.Ytpennfojidpmeaa.rebuildNilSeg

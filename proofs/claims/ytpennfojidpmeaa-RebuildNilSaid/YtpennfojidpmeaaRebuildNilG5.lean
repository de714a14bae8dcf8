/- Segments of a run of RebuildNil, each by the kernel. -/
import Derived.Test.YtpennfojidpmeaaRebuildNilSt2
namespace Go.Proofs.Ytpennfojidpmeaa.rebuildNilSeg
open Go.Sx
theorem g24 : (mrun Try.prog noTbl 300 18000 s24.m s24.k s24.c s24.h).map (mcut s25.h) = some s25 := by kernel_rfl
theorem g25 : (mrun Try.prog noTbl 300 18000 s25.m s25.k s25.c s25.h).map (mcut s26.h) = some s26 := by kernel_rfl
theorem g26 : (mrun Try.prog noTbl 300 18000 s26.m s26.k s26.c s26.h).map (mcut s27.h) = some s27 := by kernel_rfl
theorem g27 : (mrun Try.prog noTbl 300 18000 s27.m s27.k s27.c s27.h).map (mcut s28.h) = some s28 := by kernel_rfl
theorem g28 : (mrun Try.prog noTbl 300 18000 s28.m s28.k s28.c s28.h).map (mcut s29.h) = some s29 := by kernel_rfl
theorem g29 : (mrun Try.prog noTbl 300 18000 s29.m s29.k s29.c s29.h).map (mcut s30.h) = some s30 := by kernel_rfl
end Go.Proofs.Ytpennfojidpmeaa.rebuildNilSeg

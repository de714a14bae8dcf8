/- Segments of a run of RebuildNil, each by the kernel. -/
import Derived.Test.YtpennfojidpmeaaRebuildNilSt2
namespace Go.Proofs.Ytpennfojidpmeaa.rebuildNilSeg
open Go.Sx
theorem g12 : (mrun Try.prog noTbl 300 18000 s12.m s12.k s12.c s12.h).map (mcut s13.h) = some s13 := by kernel_rfl
theorem g13 : (mrun Try.prog noTbl 300 18000 s13.m s13.k s13.c s13.h).map (mcut s14.h) = some s14 := by kernel_rfl
theorem g14 : (mrun Try.prog noTbl 300 18000 s14.m s14.k s14.c s14.h).map (mcut s15.h) = some s15 := by kernel_rfl
theorem g15 : (mrun Try.prog noTbl 300 18000 s15.m s15.k s15.c s15.h).map (mcut s16.h) = some s16 := by kernel_rfl
theorem g16 : (mrun Try.prog noTbl 300 18000 s16.m s16.k s16.c s16.h).map (mcut s17.h) = some s17 := by kernel_rfl
theorem g17 : (mrun Try.prog noTbl 300 18000 s17.m s17.k s17.c s17.h).map (mcut s18.h) = some s18 := by kernel_rfl
end Go.Proofs.Ytpennfojidpmeaa.rebuildNilSeg

/- Segments of a run of RebuildNil, each by the kernel. -/
import Derived.Test.YtpennfojidpmeaaRebuildNilSt2
namespace Go.Proofs.Ytpennfojidpmeaa.rebuildNilSeg
open Go.Sx
theorem g0 : (mrun Try.prog noTbl 300 18000 s0.m s0.k s0.c s0.h).map (mcut s1.h) = some s1 := by kernel_rfl
theorem g1 : (mrun Try.prog noTbl 300 18000 s1.m s1.k s1.c s1.h).map (mcut s2.h) = some s2 := by kernel_rfl
theorem g2 : (mrun Try.prog noTbl 300 18000 s2.m s2.k s2.c s2.h).map (mcut s3.h) = some s3 := by kernel_rfl
theorem g3 : (mrun Try.prog noTbl 300 18000 s3.m s3.k s3.c s3.h).map (mcut s4.h) = some s4 := by kernel_rfl
theorem g4 : (mrun Try.prog noTbl 300 18000 s4.m s4.k s4.c s4.h).map (mcut s5.h) = some s5 := by kernel_rfl
theorem g5 : (mrun Try.prog noTbl 300 18000 s5.m s5.k s5.c s5.h).map (mcut s6.h) = some s6 := by kernel_rfl
end Go.Proofs.Ytpennfojidpmeaa.rebuildNilSeg

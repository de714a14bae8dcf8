/- Segments of a run of RebuildNil, each by the kernel. -/
import Derived.Test.YtpennfojidpmeaaRebuildNilSt2
namespace Go.Proofs.Ytpennfojidpmeaa.rebuildNilSeg
open Go.Sx
theorem g18 : (mrun Try.prog noTbl 300 18000 s18.m s18.k s18.c s18.h).map (mcut s19.h) = some s19 := by kernel_rfl
theorem g19 : (mrun Try.prog noTbl 300 18000 s19.m s19.k s19.c s19.h).map (mcut s20.h) = some s20 := by kernel_rfl
theorem g20 : (mrun Try.prog noTbl 300 18000 s20.m s20.k s20.c s20.h).map (mcut s21.h) = some s21 := by kernel_rfl
theorem g21 : (mrun Try.prog noTbl 300 18000 s21.m s21.k s21.c s21.h).map (mcut s22.h) = some s22 := by kernel_rfl
theorem g22 : (mrun Try.prog noTbl 300 18000 s22.m s22.k s22.c s22.h).map (mcut s23.h) = some s23 := by kernel_rfl
theorem g23 : (mrun Try.prog noTbl 300 18000 s23.m s23.k s23.c s23.h).map (mcut s24.h) = some s24 := by kernel_rfl
end Go.Proofs.Ytpennfojidpmeaa.rebuildNilSeg

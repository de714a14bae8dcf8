/- Segments of a run of RebuildNil, each by the kernel. -/
import Derived.Test.YtpennfojidpmeaaRebuildNilSt2
namespace Go.Proofs.Ytpennfojidpmeaa.rebuildNilSeg
open Go.Sx
theorem g6 : (mrun Try.prog noTbl 300 18000 s6.m s6.k s6.c s6.h).map (mcut s7.h) = some s7 := by kernel_rfl
theorem g7 : (mrun Try.prog noTbl 300 18000 s7.m s7.k s7.c s7.h).map (mcut s8.h) = some s8 := by kernel_rfl
theorem g8 : (mrun Try.prog noTbl 300 18000 s8.m s8.k s8.c s8.h).map (mcut s9.h) = some s9 := by kernel_rfl
theorem g9 : (mrun Try.prog noTbl 300 18000 s9.m s9.k s9.c s9.h).map (mcut s10.h) = some s10 := by kernel_rfl
theorem g10 : (mrun Try.prog noTbl 300 18000 s10.m s10.k s10.c s10.h).map (mcut s11.h) = some s11 := by kernel_rfl
theorem g11 : (mrun Try.prog noTbl 300 18000 s11.m s11.k s11.c s11.h).map (mcut s12.h) = some s12 := by kernel_rfl
end Go.Proofs.Ytpennfojidpmeaa.rebuildNilSeg

/- Segments of a run of HolderNil, each by the kernel. -/
import Derived.Test.YtppbhmgbbakhaaaGreatHolderNilSt1
namespace Go.Proofs.YtppbhmgbbakhaaaGreat.holderNilSeg
open Go.Sx
theorem g0 : (mrun Tryz.prog noTbl 300 10000 s0.m s0.k s0.c s0.h).map (mcut s1.h) = some s1 := by kernel_rfl
theorem g1 : (mrun Tryz.prog noTbl 300 10000 s1.m s1.k s1.c s1.h).map (mcut s2.h) = some s2 := by kernel_rfl
end Go.Proofs.YtppbhmgbbakhaaaGreat.holderNilSeg

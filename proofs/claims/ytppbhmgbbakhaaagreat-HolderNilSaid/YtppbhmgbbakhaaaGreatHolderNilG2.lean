/- Segments of a run of HolderNil, each by the kernel. -/
import Derived.Test.YtppbhmgbbakhaaaGreatHolderNilSt1
namespace Go.Proofs.YtppbhmgbbakhaaaGreat.holderNilSeg
open Go.Sx
theorem g2 : (mrun Tryz.prog noTbl 300 10000 s2.m s2.k s2.c s2.h).map (mcut s3.h) = some s3 := by kernel_rfl
theorem g3 : endB (mrun Tryz.prog noTbl 300 394 s3.m s3.k s3.c s3.h) = true := by kernel_rfl
end Go.Proofs.YtppbhmgbbakhaaaGreat.holderNilSeg

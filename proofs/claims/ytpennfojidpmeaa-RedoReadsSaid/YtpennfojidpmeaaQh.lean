import Derived.Test.YtpennfojidpmeaaQg
namespace Go.Proofs.Ytpennfojidpmeaa
open Go.Sx
set_option maxRecDepth 20000
theorem known_ctr : Ctr Try.prog 12 [] [] (.bool true) [] :=
  Ctr.path mixed (denQ [] rfl [] rfl [] no_rows) ⟨[], [], []⟩ [] trivial trivial trivial trivial (N := 100000) (c0 := 0) (A0 := []) (args0 := []) (τ := []) (ros := []) (by kernel_rfl) (by kernel_rfl) (by kernel_rfl)
end Go.Proofs.Ytpennfojidpmeaa

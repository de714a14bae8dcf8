/-
  No cell of these rows narrows 'for every input' (looked for: loops, veiled, ifaces, maps, wideKeys, modest, calm, conditions, laid).
  DERIVED. THE GIVEN ROWS OF THIS SEAT. 9 by the template 'for every input the law returns true; each argument reads behind the call as it read before'; 0 by the template 'total and deterministic' (their statements: YtpennfojidpmeaaTotals.lean).
  GIVEN WITH THE SEED: the statements are not yours to turn. If you find one false, say at which input.
  Laid BY PROGRAM, IN A SANDBOX (cutbox-rows.mjs): the forced cells as the released guide's own fill.sh prints them over the translation d214a38b13b58f2f… (all of the seat's roots in one cut). By AI agents, Wed Nov 11 2026. No macro, syntax, notation, axiom, sorry.
-/
import Derived.Test.YtpennfojidpmeaaChecked
import GoSem.Claim
import GoSem.ClaimJoined
import GoSem.ClaimMapViews
import Derived.JoinedTies
import Derived.KernelRfl
namespace Go.Proofs.Ytpennfojidpmeaa
/- THE CELL 'sum', in the pinned program and in every row, IS THE sha256 OF THE DUMP (.gsa) THAT YtpennfojidpmeaaProg.lean LOADS. Nothing in Lean hashes anything: it is a label: what it is worth is what the hold of that sum in a sandbox is worth. -/
noncomputable def Try.pinned : Pinned := { name := "ytpennfojidpmeaa", sum := "d214a38b13b58f2fc940fa9ea0c1a24d92b84a9e667e7bfec5e5e257f4817f2e", checked := Try.checked }
namespace Rows
def none {H : Type} : Left H := { results := [], args := [] }

/-- 'millpondlaw06.RedoRounds': WHATEVER THE INPUT: true; the input reads as it did. -/
def redoRoundsSpec : ChangeSpec := { name := "redoRounds", fn := fun _ => fun
  | [d1, d2, d3] => { results := [.lit (.bool true)], args := [d1, d2, d3] }
  | _ => none }
def redoRoundsRow : OpenClaim := { program := "ytpennfojidpmeaa", sum := "d214a38b13b58f2fc940fa9ea0c1a24d92b84a9e667e7bfec5e5e257f4817f2e", func := "millpond/millpondlaw06.RedoRounds", spec := "redoRounds", unfollowed := true, recurses := true, apart := false }
def RedoRoundsSaid : Prop := redoRoundsRow.holds Try.pinned (OpenSpec.ofChange redoRoundsSpec)

/-- ITS FALSE NEIGHBOUR: 'it returns false'. Refute it at one input. -/
def redoRoundsWrong : ChangeSpec := { name := "redoRounds", fn := fun _ => fun
  | [d1, d2, d3] => { results := [.lit (.bool false)], args := [d1, d2, d3] }
  | _ => none }
def RedoRoundsWrongFalsely : Prop := redoRoundsRow.holds Try.pinned (OpenSpec.ofChange redoRoundsWrong)

/-- 'millpondlaw06.RedoTorn': WHATEVER THE INPUT: true; the input reads as it did. -/
def redoTornSpec : ChangeSpec := { name := "redoTorn", fn := fun _ => fun
  | [d1, d2, d3, d4, d5] => { results := [.lit (.bool true)], args := [d1, d2, d3, d4, d5] }
  | _ => none }
def redoTornRow : OpenClaim := { program := "ytpennfojidpmeaa", sum := "d214a38b13b58f2fc940fa9ea0c1a24d92b84a9e667e7bfec5e5e257f4817f2e", func := "millpond/millpondlaw06.RedoTorn", spec := "redoTorn", unfollowed := true, recurses := true, apart := false }
def RedoTornSaid : Prop := redoTornRow.holds Try.pinned (OpenSpec.ofChange redoTornSpec)

/-- ITS FALSE NEIGHBOUR: 'it returns false'. Refute it at one input. -/
def redoTornWrong : ChangeSpec := { name := "redoTorn", fn := fun _ => fun
  | [d1, d2, d3, d4, d5] => { results := [.lit (.bool false)], args := [d1, d2, d3, d4, d5] }
  | _ => none }
def RedoTornWrongFalsely : Prop := redoTornRow.holds Try.pinned (OpenSpec.ofChange redoTornWrong)

/-- 'millpondlaw06.RedoReads': WHATEVER THE INPUT: true; the input reads as it did. -/
def redoReadsSpec : ChangeSpec := { name := "redoReads", fn := fun _ => fun
  | [d1, d2, d3] => { results := [.lit (.bool true)], args := [d1, d2, d3] }
  | _ => none }
def redoReadsRow : OpenClaim := { program := "ytpennfojidpmeaa", sum := "d214a38b13b58f2fc940fa9ea0c1a24d92b84a9e667e7bfec5e5e257f4817f2e", func := "millpond/millpondlaw06.RedoReads", spec := "redoReads", unfollowed := true, recurses := true, apart := false }
def RedoReadsSaid : Prop := redoReadsRow.holds Try.pinned (OpenSpec.ofChange redoReadsSpec)

/-- ITS FALSE NEIGHBOUR: 'it returns false'. Refute it at one input. -/
def redoReadsWrong : ChangeSpec := { name := "redoReads", fn := fun _ => fun
  | [d1, d2, d3] => { results := [.lit (.bool false)], args := [d1, d2, d3] }
  | _ => none }
def RedoReadsWrongFalsely : Prop := redoReadsRow.holds Try.pinned (OpenSpec.ofChange redoReadsWrong)

/-- 'millpondlaw06.RedoNil': WHATEVER THE INPUT: true; the input reads as it did. -/
def redoNilSpec : ChangeSpec := { name := "redoNil", fn := fun _ => fun
  | [] => { results := [.lit (.bool true)], args := [] }
  | _ => none }
def redoNilRow : OpenClaim := { program := "ytpennfojidpmeaa", sum := "d214a38b13b58f2fc940fa9ea0c1a24d92b84a9e667e7bfec5e5e257f4817f2e", func := "millpond/millpondlaw06.RedoNil", spec := "redoNil", unfollowed := true, recurses := true, apart := false }
def RedoNilSaid : Prop := redoNilRow.holds Try.pinned (OpenSpec.ofChange redoNilSpec)

/-- ITS FALSE NEIGHBOUR: 'it returns false'. Refute it at one input. -/
def redoNilWrong : ChangeSpec := { name := "redoNil", fn := fun _ => fun
  | [] => { results := [.lit (.bool false)], args := [] }
  | _ => none }
def RedoNilWrongFalsely : Prop := redoNilRow.holds Try.pinned (OpenSpec.ofChange redoNilWrong)

/-- 'millpondlaw06.RedoAny': WHATEVER THE INPUT: true; the input reads as it did. -/
def redoAnySpec : ChangeSpec := { name := "redoAny", fn := fun _ => fun
  | [d1, d2, d3] => { results := [.lit (.bool true)], args := [d1, d2, d3] }
  | _ => none }
def redoAnyRow : OpenClaim := { program := "ytpennfojidpmeaa", sum := "d214a38b13b58f2fc940fa9ea0c1a24d92b84a9e667e7bfec5e5e257f4817f2e", func := "millpond/millpondlaw06.RedoAny", spec := "redoAny", unfollowed := true, recurses := true, apart := false }
def RedoAnySaid : Prop := redoAnyRow.holds Try.pinned (OpenSpec.ofChange redoAnySpec)

/-- ITS FALSE NEIGHBOUR: 'it returns false'. Refute it at one input. -/
def redoAnyWrong : ChangeSpec := { name := "redoAny", fn := fun _ => fun
  | [d1, d2, d3] => { results := [.lit (.bool false)], args := [d1, d2, d3] }
  | _ => none }
def RedoAnyWrongFalsely : Prop := redoAnyRow.holds Try.pinned (OpenSpec.ofChange redoAnyWrong)

/-- 'millpondlaw06.RedoPlays': WHATEVER THE INPUT: true; the input reads as it did. -/
def redoPlaysSpec : ChangeSpec := { name := "redoPlays", fn := fun _ => fun
  | [d1, d2, d3, d4] => { results := [.lit (.bool true)], args := [d1, d2, d3, d4] }
  | _ => none }
def redoPlaysRow : OpenClaim := { program := "ytpennfojidpmeaa", sum := "d214a38b13b58f2fc940fa9ea0c1a24d92b84a9e667e7bfec5e5e257f4817f2e", func := "millpond/millpondlaw06.RedoPlays", spec := "redoPlays", unfollowed := true, recurses := true, apart := false }
def RedoPlaysSaid : Prop := redoPlaysRow.holds Try.pinned (OpenSpec.ofChange redoPlaysSpec)

/-- ITS FALSE NEIGHBOUR: 'it returns false'. Refute it at one input. -/
def redoPlaysWrong : ChangeSpec := { name := "redoPlays", fn := fun _ => fun
  | [d1, d2, d3, d4] => { results := [.lit (.bool false)], args := [d1, d2, d3, d4] }
  | _ => none }
def RedoPlaysWrongFalsely : Prop := redoPlaysRow.holds Try.pinned (OpenSpec.ofChange redoPlaysWrong)

/-- 'millpondlaw12.RebuildSays': WHATEVER THE INPUT: true; the input reads as it did. -/
def rebuildSaysSpec : ChangeSpec := { name := "rebuildSays", fn := fun _ => fun
  | [d1, d2, d3] => { results := [.lit (.bool true)], args := [d1, d2, d3] }
  | _ => none }
def rebuildSaysRow : OpenClaim := { program := "ytpennfojidpmeaa", sum := "d214a38b13b58f2fc940fa9ea0c1a24d92b84a9e667e7bfec5e5e257f4817f2e", func := "millpond/millpondlaw12.RebuildSays", spec := "rebuildSays", unfollowed := true, recurses := true, apart := false }
def RebuildSaysSaid : Prop := rebuildSaysRow.holds Try.pinned (OpenSpec.ofChange rebuildSaysSpec)

/-- ITS FALSE NEIGHBOUR: 'it returns false'. Refute it at one input. -/
def rebuildSaysWrong : ChangeSpec := { name := "rebuildSays", fn := fun _ => fun
  | [d1, d2, d3] => { results := [.lit (.bool false)], args := [d1, d2, d3] }
  | _ => none }
def RebuildSaysWrongFalsely : Prop := rebuildSaysRow.holds Try.pinned (OpenSpec.ofChange rebuildSaysWrong)

/-- 'millpondlaw12.RebuildNil': WHATEVER THE INPUT: true; the input reads as it did. -/
def rebuildNilSpec : ChangeSpec := { name := "rebuildNil", fn := fun _ => fun
  | [] => { results := [.lit (.bool true)], args := [] }
  | _ => none }
def rebuildNilRow : OpenClaim := { program := "ytpennfojidpmeaa", sum := "d214a38b13b58f2fc940fa9ea0c1a24d92b84a9e667e7bfec5e5e257f4817f2e", func := "millpond/millpondlaw12.RebuildNil", spec := "rebuildNil", unfollowed := true, recurses := true, apart := false }
def RebuildNilSaid : Prop := rebuildNilRow.holds Try.pinned (OpenSpec.ofChange rebuildNilSpec)

/-- ITS FALSE NEIGHBOUR: 'it returns false'. Refute it at one input. -/
def rebuildNilWrong : ChangeSpec := { name := "rebuildNil", fn := fun _ => fun
  | [] => { results := [.lit (.bool false)], args := [] }
  | _ => none }
def RebuildNilWrongFalsely : Prop := rebuildNilRow.holds Try.pinned (OpenSpec.ofChange rebuildNilWrong)

/-- 'millpondlaw12.RebuildLays': WHATEVER THE INPUT: true; the input reads as it did. -/
def rebuildLaysSpec : ChangeSpec := { name := "rebuildLays", fn := fun _ => fun
  | [d1, d2, d3] => { results := [.lit (.bool true)], args := [d1, d2, d3] }
  | _ => none }
def rebuildLaysRow : OpenClaim := { program := "ytpennfojidpmeaa", sum := "d214a38b13b58f2fc940fa9ea0c1a24d92b84a9e667e7bfec5e5e257f4817f2e", func := "millpond/millpondlaw12.RebuildLays", spec := "rebuildLays", unfollowed := true, recurses := true, apart := false }
def RebuildLaysSaid : Prop := rebuildLaysRow.holds Try.pinned (OpenSpec.ofChange rebuildLaysSpec)

/-- ITS FALSE NEIGHBOUR: 'it returns false'. Refute it at one input. -/
def rebuildLaysWrong : ChangeSpec := { name := "rebuildLays", fn := fun _ => fun
  | [d1, d2, d3] => { results := [.lit (.bool false)], args := [d1, d2, d3] }
  | _ => none }
def RebuildLaysWrongFalsely : Prop := rebuildLaysRow.holds Try.pinned (OpenSpec.ofChange rebuildLaysWrong)

/- THE SECOND FORM. 'bulk': how many values and letters a reading holds, each counted each time it is reached (what is shared counts as often as it is met; a slice's spare places count too). A statement '..UptoSaid' is the law's where the arguments, and the package variables that the reading takes, are together of bulk at most 1048576: NARROWER than '..Said'. Prove '..Said' where nothing that the law and all that it calls make is longer than what came in: it says more and counts as full. Else prove '..UptoSaid'. A law counts once. -/
mutual
def uptoBulk {H : Type} : DataW H → Nat
  | .lit (.string bytes) => bytes.length + 1
  | .lit _ => 1
  | .nil => 1
  | .ptr d => uptoBulk d + 1
  | .slice elems spare => uptoBulkAll elems + uptoBulkAll spare + 1
  | .agg parts => uptoBulkAll parts + 1
  | .iface _ d => uptoBulk d + 1
  | .map entries => uptoBulkEntries entries + 1
  | .held _ => 1
def uptoBulkAll {H : Type} : List (DataW H) → Nat
  | [] => 0
  | d :: r => uptoBulk d + uptoBulkAll r
def uptoBulkEntries {H : Type} : List (Lit × DataW H) → Nat
  | [] => 0
  | x :: r => uptoBulkEntry x + uptoBulkEntries r
def uptoBulkEntry {H : Type} : Lit × DataW H → Nat
  | (.string bytes, d) => bytes.length + uptoBulk d + 1
  | (_, d) => uptoBulk d + 1
 end
def uptoSmall : (H : Type) → List (DataW H) → Bool := fun _ ds => decide (uptoBulkAll ds ≤ 1048576)
def OpenSpec.upto (s : _root_.Go.ChangeSpec) : _root_.Go.OpenSpec := { _root_.Go.OpenSpec.ofChange s with cond := some uptoSmall }

/-- 'millpondlaw06.RedoRounds', WHERE WHAT IT READS IS OF BULK AT MOST 1048576: true; the input reads as it did. -/
def redoRoundsUptoRow : OpenClaim := { program := "ytpennfojidpmeaa", sum := "d214a38b13b58f2fc940fa9ea0c1a24d92b84a9e667e7bfec5e5e257f4817f2e", func := "millpond/millpondlaw06.RedoRounds", spec := "redoRounds", unfollowed := true, recurses := true, apart := false, narrowed := true }
def RedoRoundsUptoSaid : Prop := redoRoundsUptoRow.holds Try.pinned (OpenSpec.upto redoRoundsSpec)

/-- 'millpondlaw06.RedoTorn', WHERE WHAT IT READS IS OF BULK AT MOST 1048576: true; the input reads as it did. -/
def redoTornUptoRow : OpenClaim := { program := "ytpennfojidpmeaa", sum := "d214a38b13b58f2fc940fa9ea0c1a24d92b84a9e667e7bfec5e5e257f4817f2e", func := "millpond/millpondlaw06.RedoTorn", spec := "redoTorn", unfollowed := true, recurses := true, apart := false, narrowed := true }
def RedoTornUptoSaid : Prop := redoTornUptoRow.holds Try.pinned (OpenSpec.upto redoTornSpec)

/-- 'millpondlaw06.RedoReads', WHERE WHAT IT READS IS OF BULK AT MOST 1048576: true; the input reads as it did. -/
def redoReadsUptoRow : OpenClaim := { program := "ytpennfojidpmeaa", sum := "d214a38b13b58f2fc940fa9ea0c1a24d92b84a9e667e7bfec5e5e257f4817f2e", func := "millpond/millpondlaw06.RedoReads", spec := "redoReads", unfollowed := true, recurses := true, apart := false, narrowed := true }
def RedoReadsUptoSaid : Prop := redoReadsUptoRow.holds Try.pinned (OpenSpec.upto redoReadsSpec)

/-- 'millpondlaw06.RedoNil', WHERE WHAT IT READS IS OF BULK AT MOST 1048576: true; the input reads as it did. -/
def redoNilUptoRow : OpenClaim := { program := "ytpennfojidpmeaa", sum := "d214a38b13b58f2fc940fa9ea0c1a24d92b84a9e667e7bfec5e5e257f4817f2e", func := "millpond/millpondlaw06.RedoNil", spec := "redoNil", unfollowed := true, recurses := true, apart := false, narrowed := true }
def RedoNilUptoSaid : Prop := redoNilUptoRow.holds Try.pinned (OpenSpec.upto redoNilSpec)

/-- 'millpondlaw06.RedoAny', WHERE WHAT IT READS IS OF BULK AT MOST 1048576: true; the input reads as it did. -/
def redoAnyUptoRow : OpenClaim := { program := "ytpennfojidpmeaa", sum := "d214a38b13b58f2fc940fa9ea0c1a24d92b84a9e667e7bfec5e5e257f4817f2e", func := "millpond/millpondlaw06.RedoAny", spec := "redoAny", unfollowed := true, recurses := true, apart := false, narrowed := true }
def RedoAnyUptoSaid : Prop := redoAnyUptoRow.holds Try.pinned (OpenSpec.upto redoAnySpec)

/-- 'millpondlaw06.RedoPlays', WHERE WHAT IT READS IS OF BULK AT MOST 1048576: true; the input reads as it did. -/
def redoPlaysUptoRow : OpenClaim := { program := "ytpennfojidpmeaa", sum := "d214a38b13b58f2fc940fa9ea0c1a24d92b84a9e667e7bfec5e5e257f4817f2e", func := "millpond/millpondlaw06.RedoPlays", spec := "redoPlays", unfollowed := true, recurses := true, apart := false, narrowed := true }
def RedoPlaysUptoSaid : Prop := redoPlaysUptoRow.holds Try.pinned (OpenSpec.upto redoPlaysSpec)

/-- 'millpondlaw12.RebuildSays', WHERE WHAT IT READS IS OF BULK AT MOST 1048576: true; the input reads as it did. -/
def rebuildSaysUptoRow : OpenClaim := { program := "ytpennfojidpmeaa", sum := "d214a38b13b58f2fc940fa9ea0c1a24d92b84a9e667e7bfec5e5e257f4817f2e", func := "millpond/millpondlaw12.RebuildSays", spec := "rebuildSays", unfollowed := true, recurses := true, apart := false, narrowed := true }
def RebuildSaysUptoSaid : Prop := rebuildSaysUptoRow.holds Try.pinned (OpenSpec.upto rebuildSaysSpec)

/-- 'millpondlaw12.RebuildNil', WHERE WHAT IT READS IS OF BULK AT MOST 1048576: true; the input reads as it did. -/
def rebuildNilUptoRow : OpenClaim := { program := "ytpennfojidpmeaa", sum := "d214a38b13b58f2fc940fa9ea0c1a24d92b84a9e667e7bfec5e5e257f4817f2e", func := "millpond/millpondlaw12.RebuildNil", spec := "rebuildNil", unfollowed := true, recurses := true, apart := false, narrowed := true }
def RebuildNilUptoSaid : Prop := rebuildNilUptoRow.holds Try.pinned (OpenSpec.upto rebuildNilSpec)

/-- 'millpondlaw12.RebuildLays', WHERE WHAT IT READS IS OF BULK AT MOST 1048576: true; the input reads as it did. -/
def rebuildLaysUptoRow : OpenClaim := { program := "ytpennfojidpmeaa", sum := "d214a38b13b58f2fc940fa9ea0c1a24d92b84a9e667e7bfec5e5e257f4817f2e", func := "millpond/millpondlaw12.RebuildLays", spec := "rebuildLays", unfollowed := true, recurses := true, apart := false, narrowed := true }
def RebuildLaysUptoSaid : Prop := rebuildLaysUptoRow.holds Try.pinned (OpenSpec.upto rebuildLaysSpec)

end Rows
end Go.Proofs.Ytpennfojidpmeaa

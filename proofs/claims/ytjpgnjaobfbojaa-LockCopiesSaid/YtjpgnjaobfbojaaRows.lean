/-
  No cell of these rows narrows 'for every input' (looked for: loops, veiled, ifaces, maps, wideKeys, modest, calm, conditions, laid).
  DERIVED. THE GIVEN ROWS OF THIS SEAT. 9 by the template 'for every input the law returns true; each argument reads behind the call as it read before'; 0 by the template 'total and deterministic' (their statements: YtjpgnjaobfbojaaTotals.lean).
  GIVEN WITH THE SEED: the statements are not yours to turn. If you find one false, say at which input.
  Laid BY PROGRAM, IN A SANDBOX (cutbox-rows.mjs): the forced cells as the released guide's own fill.sh prints them over the translation 2b0906bd4b456608… (all of the seat's roots in one cut). By AI agents, Wed Nov 11 2026. No macro, syntax, notation, axiom, sorry.
-/
import Derived.Test.YtjpgnjaobfbojaaChecked
import GoSem.Claim
import GoSem.ClaimJoined
import GoSem.ClaimMapViews
import Derived.JoinedTies
import Derived.KernelRfl
namespace Go.Proofs.Ytjpgnjaobfbojaa
/- THE CELL 'sum', in the pinned program and in every row, IS THE sha256 OF THE DUMP (.gsa) THAT YtjpgnjaobfbojaaProg.lean LOADS. Nothing in Lean hashes anything: it is a label: what it is worth is what the hold of that sum in a sandbox is worth. -/
noncomputable def Try.pinned : Pinned := { name := "ytjpgnjaobfbojaa", sum := "2b0906bd4b4566086839e20badc6da48639d3062cd71d91a470836a0d8eb6d42", checked := Try.checked }
namespace Rows
def none {H : Type} : Left H := { results := [], args := [] }

/-- 'millpondlaw13.LockWaits': WHATEVER THE INPUT: true; the input reads as it did. -/
def lockWaitsSpec : ChangeSpec := { name := "lockWaits", fn := fun _ => fun
  | [d] => { results := [.lit (.bool true)], args := [d] }
  | _ => none }
def lockWaitsRow : OpenClaim := { program := "ytjpgnjaobfbojaa", sum := "2b0906bd4b4566086839e20badc6da48639d3062cd71d91a470836a0d8eb6d42", func := "millpond/millpondlaw13.LockWaits", spec := "lockWaits", unfollowed := true, recurses := true, apart := false }
def LockWaitsSaid : Prop := lockWaitsRow.holds Try.pinned (OpenSpec.ofChange lockWaitsSpec)

/-- ITS FALSE NEIGHBOUR: 'it returns false'. Refute it at one input. -/
def lockWaitsWrong : ChangeSpec := { name := "lockWaits", fn := fun _ => fun
  | [d] => { results := [.lit (.bool false)], args := [d] }
  | _ => none }
def LockWaitsWrongFalsely : Prop := lockWaitsRow.holds Try.pinned (OpenSpec.ofChange lockWaitsWrong)

/-- 'millpondlaw13.LockPasts': WHATEVER THE INPUT: true; the input reads as it did. -/
def lockPastsSpec : ChangeSpec := { name := "lockPasts", fn := fun _ => fun
  | [d] => { results := [.lit (.bool true)], args := [d] }
  | _ => none }
def lockPastsRow : OpenClaim := { program := "ytjpgnjaobfbojaa", sum := "2b0906bd4b4566086839e20badc6da48639d3062cd71d91a470836a0d8eb6d42", func := "millpond/millpondlaw13.LockPasts", spec := "lockPasts", unfollowed := true, recurses := true, apart := false }
def LockPastsSaid : Prop := lockPastsRow.holds Try.pinned (OpenSpec.ofChange lockPastsSpec)

/-- ITS FALSE NEIGHBOUR: 'it returns false'. Refute it at one input. -/
def lockPastsWrong : ChangeSpec := { name := "lockPasts", fn := fun _ => fun
  | [d] => { results := [.lit (.bool false)], args := [d] }
  | _ => none }
def LockPastsWrongFalsely : Prop := lockPastsRow.holds Try.pinned (OpenSpec.ofChange lockPastsWrong)

/-- 'millpondlaw13.LockPlays': WHATEVER THE INPUT: true; the input reads as it did. -/
def lockPlaysSpec : ChangeSpec := { name := "lockPlays", fn := fun _ => fun
  | [d] => { results := [.lit (.bool true)], args := [d] }
  | _ => none }
def lockPlaysRow : OpenClaim := { program := "ytjpgnjaobfbojaa", sum := "2b0906bd4b4566086839e20badc6da48639d3062cd71d91a470836a0d8eb6d42", func := "millpond/millpondlaw13.LockPlays", spec := "lockPlays", unfollowed := true, recurses := true, apart := false }
def LockPlaysSaid : Prop := lockPlaysRow.holds Try.pinned (OpenSpec.ofChange lockPlaysSpec)

/-- ITS FALSE NEIGHBOUR: 'it returns false'. Refute it at one input. -/
def lockPlaysWrong : ChangeSpec := { name := "lockPlays", fn := fun _ => fun
  | [d] => { results := [.lit (.bool false)], args := [d] }
  | _ => none }
def LockPlaysWrongFalsely : Prop := lockPlaysRow.holds Try.pinned (OpenSpec.ofChange lockPlaysWrong)

/-- 'millpondlaw13.LockAtOnce': WHATEVER THE INPUT: true; the input reads as it did. -/
def lockAtOnceSpec : ChangeSpec := { name := "lockAtOnce", fn := fun _ => fun
  | [d] => { results := [.lit (.bool true)], args := [d] }
  | _ => none }
def lockAtOnceRow : OpenClaim := { program := "ytjpgnjaobfbojaa", sum := "2b0906bd4b4566086839e20badc6da48639d3062cd71d91a470836a0d8eb6d42", func := "millpond/millpondlaw13.LockAtOnce", spec := "lockAtOnce", unfollowed := true, recurses := true, apart := false }
def LockAtOnceSaid : Prop := lockAtOnceRow.holds Try.pinned (OpenSpec.ofChange lockAtOnceSpec)

/-- ITS FALSE NEIGHBOUR: 'it returns false'. Refute it at one input. -/
def lockAtOnceWrong : ChangeSpec := { name := "lockAtOnce", fn := fun _ => fun
  | [d] => { results := [.lit (.bool false)], args := [d] }
  | _ => none }
def LockAtOnceWrongFalsely : Prop := lockAtOnceRow.holds Try.pinned (OpenSpec.ofChange lockAtOnceWrong)

/-- 'millpondlaw13.LockBooks': WHATEVER THE INPUT: true; the input reads as it did. -/
def lockBooksSpec : ChangeSpec := { name := "lockBooks", fn := fun _ => fun
  | [d] => { results := [.lit (.bool true)], args := [d] }
  | _ => none }
def lockBooksRow : OpenClaim := { program := "ytjpgnjaobfbojaa", sum := "2b0906bd4b4566086839e20badc6da48639d3062cd71d91a470836a0d8eb6d42", func := "millpond/millpondlaw13.LockBooks", spec := "lockBooks", unfollowed := true, recurses := true, apart := false }
def LockBooksSaid : Prop := lockBooksRow.holds Try.pinned (OpenSpec.ofChange lockBooksSpec)

/-- ITS FALSE NEIGHBOUR: 'it returns false'. Refute it at one input. -/
def lockBooksWrong : ChangeSpec := { name := "lockBooks", fn := fun _ => fun
  | [d] => { results := [.lit (.bool false)], args := [d] }
  | _ => none }
def LockBooksWrongFalsely : Prop := lockBooksRow.holds Try.pinned (OpenSpec.ofChange lockBooksWrong)

/-- 'millpondlaw13.LockCopies': WHATEVER THE INPUT: true; the input reads as it did. -/
def lockCopiesSpec : ChangeSpec := { name := "lockCopies", fn := fun _ => fun
  | [d1, d2] => { results := [.lit (.bool true)], args := [d1, d2] }
  | _ => none }
def lockCopiesRow : OpenClaim := { program := "ytjpgnjaobfbojaa", sum := "2b0906bd4b4566086839e20badc6da48639d3062cd71d91a470836a0d8eb6d42", func := "millpond/millpondlaw13.LockCopies", spec := "lockCopies", unfollowed := true, recurses := true, apart := false }
def LockCopiesSaid : Prop := lockCopiesRow.holds Try.pinned (OpenSpec.ofChange lockCopiesSpec)

/-- ITS FALSE NEIGHBOUR: 'it returns false'. Refute it at one input. -/
def lockCopiesWrong : ChangeSpec := { name := "lockCopies", fn := fun _ => fun
  | [d1, d2] => { results := [.lit (.bool false)], args := [d1, d2] }
  | _ => none }
def LockCopiesWrongFalsely : Prop := lockCopiesRow.holds Try.pinned (OpenSpec.ofChange lockCopiesWrong)

/-- 'millpondlaw13.LockNil': WHATEVER THE INPUT: true; the input reads as it did. -/
def lockNilSpec : ChangeSpec := { name := "lockNil", fn := fun _ => fun
  | [] => { results := [.lit (.bool true)], args := [] }
  | _ => none }
def lockNilRow : OpenClaim := { program := "ytjpgnjaobfbojaa", sum := "2b0906bd4b4566086839e20badc6da48639d3062cd71d91a470836a0d8eb6d42", func := "millpond/millpondlaw13.LockNil", spec := "lockNil", unfollowed := true, recurses := true, apart := false }
def LockNilSaid : Prop := lockNilRow.holds Try.pinned (OpenSpec.ofChange lockNilSpec)

/-- ITS FALSE NEIGHBOUR: 'it returns false'. Refute it at one input. -/
def lockNilWrong : ChangeSpec := { name := "lockNil", fn := fun _ => fun
  | [] => { results := [.lit (.bool false)], args := [] }
  | _ => none }
def LockNilWrongFalsely : Prop := lockNilRow.holds Try.pinned (OpenSpec.ofChange lockNilWrong)

/-- 'millpondlaw14.DirectoryApart': WHATEVER THE INPUT: true; the input reads as it did. -/
def directoryApartSpec : ChangeSpec := { name := "directoryApart", fn := fun _ => fun
  | [d1, d2] => { results := [.lit (.bool true)], args := [d1, d2] }
  | _ => none }
def directoryApartRow : OpenClaim := { program := "ytjpgnjaobfbojaa", sum := "2b0906bd4b4566086839e20badc6da48639d3062cd71d91a470836a0d8eb6d42", func := "millpond/millpondlaw14.DirectoryApart", spec := "directoryApart", unfollowed := true, recurses := true, apart := false }
def DirectoryApartSaid : Prop := directoryApartRow.holds Try.pinned (OpenSpec.ofChange directoryApartSpec)

/-- ITS FALSE NEIGHBOUR: 'it returns false'. Refute it at one input. -/
def directoryApartWrong : ChangeSpec := { name := "directoryApart", fn := fun _ => fun
  | [d1, d2] => { results := [.lit (.bool false)], args := [d1, d2] }
  | _ => none }
def DirectoryApartWrongFalsely : Prop := directoryApartRow.holds Try.pinned (OpenSpec.ofChange directoryApartWrong)

/-- 'millpondlaw14.DirectoryNil': WHATEVER THE INPUT: true; the input reads as it did. -/
def directoryNilSpec : ChangeSpec := { name := "directoryNil", fn := fun _ => fun
  | [] => { results := [.lit (.bool true)], args := [] }
  | _ => none }
def directoryNilRow : OpenClaim := { program := "ytjpgnjaobfbojaa", sum := "2b0906bd4b4566086839e20badc6da48639d3062cd71d91a470836a0d8eb6d42", func := "millpond/millpondlaw14.DirectoryNil", spec := "directoryNil", unfollowed := true, recurses := true, apart := false }
def DirectoryNilSaid : Prop := directoryNilRow.holds Try.pinned (OpenSpec.ofChange directoryNilSpec)

/-- ITS FALSE NEIGHBOUR: 'it returns false'. Refute it at one input. -/
def directoryNilWrong : ChangeSpec := { name := "directoryNil", fn := fun _ => fun
  | [] => { results := [.lit (.bool false)], args := [] }
  | _ => none }
def DirectoryNilWrongFalsely : Prop := directoryNilRow.holds Try.pinned (OpenSpec.ofChange directoryNilWrong)

/- THE SECOND FORM. 'bulk': how many values and letters a reading holds, each counted each time it is reached (what is shared counts as often as it is met; a slice's spare places count too). A statement '..UptoSaid' is the law's where the arguments, and the package variables that the reading takes, are together of bulk at most 1048576: NARROWER than '..Said'. Prove '..Said' where nothing that the law and all that it calls make is longer than what came in: it says more and counts as full. Else prove '..UptoSaid'. A law counts once. -/
mutual
def uptoBulk {H : Type} : DataW H → Nat
  | .lit (.string bytes) => bytes.length + 1
  | .lit _ => 1
  | .nil => 1
  | .ptr d => uptoBulk d + 1
  | .slice elems spare => uptoBulkAll elems + uptoBulkAll spare + 1
  | .agg parts => uptoBulkAll parts + 1
  | .iface _ d => uptoBulk d + 1
  | .map entries => uptoBulkEntries entries + 1
  | .held _ => 1
def uptoBulkAll {H : Type} : List (DataW H) → Nat
  | [] => 0
  | d :: r => uptoBulk d + uptoBulkAll r
def uptoBulkEntries {H : Type} : List (Lit × DataW H) → Nat
  | [] => 0
  | x :: r => uptoBulkEntry x + uptoBulkEntries r
def uptoBulkEntry {H : Type} : Lit × DataW H → Nat
  | (.string bytes, d) => bytes.length + uptoBulk d + 1
  | (_, d) => uptoBulk d + 1
 end
def uptoSmall : (H : Type) → List (DataW H) → Bool := fun _ ds => decide (uptoBulkAll ds ≤ 1048576)
def OpenSpec.upto (s : _root_.Go.ChangeSpec) : _root_.Go.OpenSpec := { _root_.Go.OpenSpec.ofChange s with cond := some uptoSmall }

/-- 'millpondlaw13.LockWaits', WHERE WHAT IT READS IS OF BULK AT MOST 1048576: true; the input reads as it did. -/
def lockWaitsUptoRow : OpenClaim := { program := "ytjpgnjaobfbojaa", sum := "2b0906bd4b4566086839e20badc6da48639d3062cd71d91a470836a0d8eb6d42", func := "millpond/millpondlaw13.LockWaits", spec := "lockWaits", unfollowed := true, recurses := true, apart := false, narrowed := true }
def LockWaitsUptoSaid : Prop := lockWaitsUptoRow.holds Try.pinned (OpenSpec.upto lockWaitsSpec)

/-- 'millpondlaw13.LockPasts', WHERE WHAT IT READS IS OF BULK AT MOST 1048576: true; the input reads as it did. -/
def lockPastsUptoRow : OpenClaim := { program := "ytjpgnjaobfbojaa", sum := "2b0906bd4b4566086839e20badc6da48639d3062cd71d91a470836a0d8eb6d42", func := "millpond/millpondlaw13.LockPasts", spec := "lockPasts", unfollowed := true, recurses := true, apart := false, narrowed := true }
def LockPastsUptoSaid : Prop := lockPastsUptoRow.holds Try.pinned (OpenSpec.upto lockPastsSpec)

/-- 'millpondlaw13.LockPlays', WHERE WHAT IT READS IS OF BULK AT MOST 1048576: true; the input reads as it did. -/
def lockPlaysUptoRow : OpenClaim := { program := "ytjpgnjaobfbojaa", sum := "2b0906bd4b4566086839e20badc6da48639d3062cd71d91a470836a0d8eb6d42", func := "millpond/millpondlaw13.LockPlays", spec := "lockPlays", unfollowed := true, recurses := true, apart := false, narrowed := true }
def LockPlaysUptoSaid : Prop := lockPlaysUptoRow.holds Try.pinned (OpenSpec.upto lockPlaysSpec)

/-- 'millpondlaw13.LockAtOnce', WHERE WHAT IT READS IS OF BULK AT MOST 1048576: true; the input reads as it did. -/
def lockAtOnceUptoRow : OpenClaim := { program := "ytjpgnjaobfbojaa", sum := "2b0906bd4b4566086839e20badc6da48639d3062cd71d91a470836a0d8eb6d42", func := "millpond/millpondlaw13.LockAtOnce", spec := "lockAtOnce", unfollowed := true, recurses := true, apart := false, narrowed := true }
def LockAtOnceUptoSaid : Prop := lockAtOnceUptoRow.holds Try.pinned (OpenSpec.upto lockAtOnceSpec)

/-- 'millpondlaw13.LockBooks', WHERE WHAT IT READS IS OF BULK AT MOST 1048576: true; the input reads as it did. -/
def lockBooksUptoRow : OpenClaim := { program := "ytjpgnjaobfbojaa", sum := "2b0906bd4b4566086839e20badc6da48639d3062cd71d91a470836a0d8eb6d42", func := "millpond/millpondlaw13.LockBooks", spec := "lockBooks", unfollowed := true, recurses := true, apart := false, narrowed := true }
def LockBooksUptoSaid : Prop := lockBooksUptoRow.holds Try.pinned (OpenSpec.upto lockBooksSpec)

/-- 'millpondlaw13.LockCopies', WHERE WHAT IT READS IS OF BULK AT MOST 1048576: true; the input reads as it did. -/
def lockCopiesUptoRow : OpenClaim := { program := "ytjpgnjaobfbojaa", sum := "2b0906bd4b4566086839e20badc6da48639d3062cd71d91a470836a0d8eb6d42", func := "millpond/millpondlaw13.LockCopies", spec := "lockCopies", unfollowed := true, recurses := true, apart := false, narrowed := true }
def LockCopiesUptoSaid : Prop := lockCopiesUptoRow.holds Try.pinned (OpenSpec.upto lockCopiesSpec)

/-- 'millpondlaw13.LockNil', WHERE WHAT IT READS IS OF BULK AT MOST 1048576: true; the input reads as it did. -/
def lockNilUptoRow : OpenClaim := { program := "ytjpgnjaobfbojaa", sum := "2b0906bd4b4566086839e20badc6da48639d3062cd71d91a470836a0d8eb6d42", func := "millpond/millpondlaw13.LockNil", spec := "lockNil", unfollowed := true, recurses := true, apart := false, narrowed := true }
def LockNilUptoSaid : Prop := lockNilUptoRow.holds Try.pinned (OpenSpec.upto lockNilSpec)

/-- 'millpondlaw14.DirectoryApart', WHERE WHAT IT READS IS OF BULK AT MOST 1048576: true; the input reads as it did. -/
def directoryApartUptoRow : OpenClaim := { program := "ytjpgnjaobfbojaa", sum := "2b0906bd4b4566086839e20badc6da48639d3062cd71d91a470836a0d8eb6d42", func := "millpond/millpondlaw14.DirectoryApart", spec := "directoryApart", unfollowed := true, recurses := true, apart := false, narrowed := true }
def DirectoryApartUptoSaid : Prop := directoryApartUptoRow.holds Try.pinned (OpenSpec.upto directoryApartSpec)

/-- 'millpondlaw14.DirectoryNil', WHERE WHAT IT READS IS OF BULK AT MOST 1048576: true; the input reads as it did. -/
def directoryNilUptoRow : OpenClaim := { program := "ytjpgnjaobfbojaa", sum := "2b0906bd4b4566086839e20badc6da48639d3062cd71d91a470836a0d8eb6d42", func := "millpond/millpondlaw14.DirectoryNil", spec := "directoryNil", unfollowed := true, recurses := true, apart := false, narrowed := true }
def DirectoryNilUptoSaid : Prop := directoryNilUptoRow.holds Try.pinned (OpenSpec.upto directoryNilSpec)

end Rows
end Go.Proofs.Ytjpgnjaobfbojaa

/- It is proved that the law NodeNil returns true, whatever the world in which it is called; it has no arguments. Its row lists two tables of unicode/utf8 (tied to the text by the given tie); the proof uses nothing of them. -/
import Derived.Test.YtlbhnanddkjhnaaGreatDoorCards
import Derived.Test.YtlbhnanddkjhnaaGreatDoorTie
import Derived.Test.YtlbhnanddkjhnaaGreatDoorNodeNilG1
import Derived.Test.YtlbhnanddkjhnaaGreatDoorNodeNilG2
import Derived.Test.YtlbhnanddkjhnaaGreatDoorNodeNilG3
import Derived.Test.YtlbhnanddkjhnaaGreatDoorNodeNilG4
import Derived.Test.YtlbhnanddkjhnaaGreatDoorNodeNilG5
import Derived.Test.YtlbhnanddkjhnaaGreatDoorNodeNilG6
import Derived.Test.YtlbhnanddkjhnaaGreatDoorNodeNilG7
import Derived.Test.YtlbhnanddkjhnaaGreatDoorNodeNilG8
import Derived.Test.YtlbhnanddkjhnaaGreatDoorNodeNilG9
import Derived.Test.YtlbhnanddkjhnaaGreatDoorNodeNilG10
import Derived.Test.YtlbhnanddkjhnaaGreatDoorNodeNilG11
import Derived.Test.YtlbhnanddkjhnaaGreatDoorNodeNilG12
import Derived.Test.YtlbhnanddkjhnaaGreatDoorNodeNilG13
import Derived.Test.YtlbhnanddkjhnaaGreatDoorNodeNilFacts
import Derived.ProofKit
import Derived.OpenShut
import Derived.Lay
import Derived.SevenTiedAt
namespace Go.Proofs.YtlbhnanddkjhnaaGreatDoor.nodeNil
open Go.ChangeShapes Go.WideShapes Go.ChangeAt Go.RowKit

theorem own : ownKnob Tryz.prog.godebug = none := by kernel_rfl

theorem mixed : Tryz.prog.follows .mixedOrders = true := by kernel_rfl
theorem d12 : Go.Sx.Gd Tryz.prog Go.Sx.noTbl Go.Proofs.YtlbhnanddkjhnaaGreatDoor.nodeNilSeg.s12 := Go.Sx.seg_end Go.Proofs.YtlbhnanddkjhnaaGreatDoor.nodeNilSeg.g12
theorem d11 : Go.Sx.Gd Tryz.prog Go.Sx.noTbl Go.Proofs.YtlbhnanddkjhnaaGreatDoor.nodeNilSeg.s11 := Go.Sx.seg_step Go.Proofs.YtlbhnanddkjhnaaGreatDoor.nodeNilSeg.g11 d12
theorem d10 : Go.Sx.Gd Tryz.prog Go.Sx.noTbl Go.Proofs.YtlbhnanddkjhnaaGreatDoor.nodeNilSeg.s10 := Go.Sx.seg_step Go.Proofs.YtlbhnanddkjhnaaGreatDoor.nodeNilSeg.g10 d11
theorem d9 : Go.Sx.Gd Tryz.prog Go.Sx.noTbl Go.Proofs.YtlbhnanddkjhnaaGreatDoor.nodeNilSeg.s9 := Go.Sx.seg_step Go.Proofs.YtlbhnanddkjhnaaGreatDoor.nodeNilSeg.g9 d10
theorem d8 : Go.Sx.Gd Tryz.prog Go.Sx.noTbl Go.Proofs.YtlbhnanddkjhnaaGreatDoor.nodeNilSeg.s8 := Go.Sx.seg_step Go.Proofs.YtlbhnanddkjhnaaGreatDoor.nodeNilSeg.g8 d9
theorem d7 : Go.Sx.Gd Tryz.prog Go.Sx.noTbl Go.Proofs.YtlbhnanddkjhnaaGreatDoor.nodeNilSeg.s7 := Go.Sx.seg_step Go.Proofs.YtlbhnanddkjhnaaGreatDoor.nodeNilSeg.g7 d8
theorem d6 : Go.Sx.Gd Tryz.prog Go.Sx.noTbl Go.Proofs.YtlbhnanddkjhnaaGreatDoor.nodeNilSeg.s6 := Go.Sx.seg_step Go.Proofs.YtlbhnanddkjhnaaGreatDoor.nodeNilSeg.g6 d7
theorem d5 : Go.Sx.Gd Tryz.prog Go.Sx.noTbl Go.Proofs.YtlbhnanddkjhnaaGreatDoor.nodeNilSeg.s5 := Go.Sx.seg_step Go.Proofs.YtlbhnanddkjhnaaGreatDoor.nodeNilSeg.g5 d6
theorem d4 : Go.Sx.Gd Tryz.prog Go.Sx.noTbl Go.Proofs.YtlbhnanddkjhnaaGreatDoor.nodeNilSeg.s4 := Go.Sx.seg_step Go.Proofs.YtlbhnanddkjhnaaGreatDoor.nodeNilSeg.g4 d5
theorem d3 : Go.Sx.Gd Tryz.prog Go.Sx.noTbl Go.Proofs.YtlbhnanddkjhnaaGreatDoor.nodeNilSeg.s3 := Go.Sx.seg_step Go.Proofs.YtlbhnanddkjhnaaGreatDoor.nodeNilSeg.g3 d4
theorem d2 : Go.Sx.Gd Tryz.prog Go.Sx.noTbl Go.Proofs.YtlbhnanddkjhnaaGreatDoor.nodeNilSeg.s2 := Go.Sx.seg_step Go.Proofs.YtlbhnanddkjhnaaGreatDoor.nodeNilSeg.g2 d3
theorem d1 : Go.Sx.Gd Tryz.prog Go.Sx.noTbl Go.Proofs.YtlbhnanddkjhnaaGreatDoor.nodeNilSeg.s1 := Go.Sx.seg_step Go.Proofs.YtlbhnanddkjhnaaGreatDoor.nodeNilSeg.g1 d2
theorem d0 : Go.Sx.Gd Tryz.prog Go.Sx.noTbl Go.Proofs.YtlbhnanddkjhnaaGreatDoor.nodeNilSeg.s0 := Go.Sx.seg_step Go.Proofs.YtlbhnanddkjhnaaGreatDoor.nodeNilSeg.g0 d1
theorem walk (w : World) : Calls Tryz.prog 3 #[] w fun e w' => e = .returned (.bool true) ∧ Below w.heap.size w w' :=
  Go.Sx.closed_seg mixed Go.Proofs.YtlbhnanddkjhnaaGreatDoor.nodeNilSeg.start d0 w

set_option maxRecDepth 100000 in
theorem contract (H : Type) (enc : TypeId × Value → H) (W : World) (base : Nat) (args : Array Value) (ds gs : List (DataW H)) (before : List MemPlace)
    (hval0 : ∀ (j : Nat) t v, Tryz.f3.params[j]? = some t → args[j]? = some v → Value.okWide Tryz.prog W .any base t v)
    (hW : DataW.Whole enc Tryz.prog Tryz.f3.params.toList Rows.nodeNilSpec.vars false W args.toList ds gs before) :
    Calls Tryz.prog 3 args W fun e W' => ∃ v, e = .returned v ∧ Rows.nodeNilSpec.post enc Tryz.prog Tryz.f3 false true false false W args v W' := by
  have hval : ∀ (j : Nat) t v, Tryz.f3.params[j]? = some t → args[j]? = some v → Value.okWide Tryz.prog W .any base t v := hval0
  have hW' := hW
  obtain ⟨p, q, hA0, hV, rfl, hfz, hnd⟩ := hW
  have hA : DataW.TrodAll enc Tryz.prog W 0 (fun _ => true) true Tryz.f3.params.toList args.toList ds p := hA0
  rw [Tryz.params3] at hA hval
  obtain ⟨rfl, rfl, rfl⟩ := trodAll_none hA
  obtain ⟨rfl, rfl⟩ := trodVars_none hV
  clear hA0 hval0
  simp only [List.append_nil] at hW'
  refine (walk W).mono fun e W' ⟨he, hg⟩ => ?_
  subst he
  exact ⟨_, rfl, Go.Sx.law_post (places := []) hW' (fun _ _ _ => (trodAll_cons_mk (shut_bool Tryz.underlying4 _) trodAll_mk0)) (fun sp _ => rfl) (fun _ _ => rfl) rfl
    hg (ok_one (by kernel_rfl) rfl (okWide_bool_mk Tryz.underlying4 _))⟩

set_option maxRecDepth 100000 in
theorem lifted (os : Os) (started : os.Started) (H : Type) (enc : TypeId × Value → H) :
    ReturnsInHanded {} Tryz.checked os 3 .any (fun w args => (Rows.nodeNilSpec.pre enc Tryz.prog Tryz.f3 [] false w args ∧ laidMetH Tryz.prog Rows.nodeNilRow.laid w) ∧ sizedMet enc Tryz.prog Tryz.f3 (OpenSpec.ofChange Rows.nodeNilSpec) false w args)
      (Rows.nodeNilSpec.post enc Tryz.prog Tryz.f3 false true false false) := by
  refine returnsInHanded_of_change_and (C := Tryz.checked) (X := fun w _ => laidMetH Tryz.prog Rows.nodeNilRow.laid w) (fun _ _ _ hh h => h.of_heap hh) own started (by kernel_rfl) Tryz.func3
    (ChangeSpec.witness_shaped (enc := enc) (C := Tryz.checked) (os := os) (X := fun w _ => laidMetH Tryz.prog Rows.nodeNilRow.laid w) false (World.laidAll Tryz.prog os Rows.nodeNilRow.laid) #[] 8 (World.laidAll_os _ _ _)
      (World.shaped_of_ZipB (by kernel_rfl) (by kernel_rfl)) (by kernel_rfl) (by kernel_rfl) (by kernel_rfl)
      (by rw [MakeChecks.laidMetH_plain _ _ _ (by kernel_rfl)]; exact laidMet_laidAll _ (by kernel_rfl) (by kernel_rfl))) ?_
  intro W base args ds gs before hval0 hW _ _ _ _
  exact contract H enc W base args ds gs before hval0 hW

theorem said : Rows.NodeNilSaid :=
  OpenClaim.holds_of_wide 3 Tryz.f3 rfl rfl rfl rfl rfl rfl rfl ⟨rfl, rfl, rfl, rfl, rfl⟩ rfl rfl rfl rfl rfl (by kernel_rfl) Tryz.func3 facts
    (of_decide_eq_true (by kernel_rfl)) (by unfold Func.isWrapper; first | (rw [if_pos (by decide +kernel)]; kernel_rfl) | (rw [if_neg (by decide +kernel)]; exact ⟨rfl, rfl⟩))
    (fun os started H enc _ => lifted os started H enc)

theorem plain (f : FuncId) (fn : Func) (hf : Tryz.pinned.checked.prog.funcNamed "millpond/millpondlaw20.NodeNil" = some f) (hfn : Tryz.pinned.checked.prog.funcs[f]? = some fn) :
    true = Tryz.pinned.checked.prog.looks [] ∧ ∀ (j : Nat) t, fn.params[j]? = some t → Tryz.pinned.checked.prog.wantsStandIn t = false := by
  obtain rfl : f = 3 := Option.some.inj ((show Tryz.prog.funcNamed "millpond/millpondlaw20.NodeNil" = some 3 by kernel_rfl).symm.trans hf) |>.symm
  obtain rfl : fn = Tryz.f3 := (Option.some.inj (Tryz.func3.symm.trans hfn)).symm
  refine ⟨by kernel_rfl, fun j t ht => ?_⟩
  rw [Tryz.params3] at ht
  simp at ht

theorem card : Rows.NodeNilCardSaid :=
  Claim7.holds_tied_plain_at .later [] _ _ _ _ said (fun _ h => by cases h) (by kernel_rfl) (fun _ h => by cases h) nodeNil_row_tie rfl ⟨rfl, rfl⟩ (by kernel_rfl) rfl plain (by kernel_rfl)
end Go.Proofs.YtlbhnanddkjhnaaGreatDoor.nodeNil
namespace Go.Proofs.YtlbhnanddkjhnaaGreatDoor
theorem nodeNil_proved : Rows.NodeNilCardSaid := nodeNil.card
#print axioms nodeNil_proved
end Go.Proofs.YtlbhnanddkjhnaaGreatDoor

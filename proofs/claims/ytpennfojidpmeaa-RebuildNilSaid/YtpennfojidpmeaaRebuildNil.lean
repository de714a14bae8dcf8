/- It is proved that the law RebuildNil returns true, whatever the world in which it is called; it has no arguments and no conditions. -/
import Derived.Test.YtpennfojidpmeaaRows
import Derived.Test.YtpennfojidpmeaaRebuildNilG1
import Derived.Test.YtpennfojidpmeaaRebuildNilG2
import Derived.Test.YtpennfojidpmeaaRebuildNilG3
import Derived.Test.YtpennfojidpmeaaRebuildNilG4
import Derived.Test.YtpennfojidpmeaaRebuildNilG5
import Derived.Test.YtpennfojidpmeaaRebuildNilG6
import Derived.Test.YtpennfojidpmeaaRebuildNilG7
import Derived.Test.YtpennfojidpmeaaRebuildNilG8
import Derived.ProofKit
import Derived.OpenShut
namespace Go.Proofs.Ytpennfojidpmeaa.rebuildNil
open Go.ChangeShapes Go.WideShapes Go.ChangeAt Go.RowKit

theorem own : ownKnob Try.prog.godebug = none := by kernel_rfl

theorem mixed : Try.prog.follows .mixedOrders = true := by kernel_rfl
theorem d43 : Go.Sx.Gd Try.prog Go.Sx.noTbl Go.Proofs.Ytpennfojidpmeaa.rebuildNilSeg.s43 := Go.Sx.seg_end Go.Proofs.Ytpennfojidpmeaa.rebuildNilSeg.g43
theorem d42 : Go.Sx.Gd Try.prog Go.Sx.noTbl Go.Proofs.Ytpennfojidpmeaa.rebuildNilSeg.s42 := Go.Sx.seg_step Go.Proofs.Ytpennfojidpmeaa.rebuildNilSeg.g42 d43
theorem d41 : Go.Sx.Gd Try.prog Go.Sx.noTbl Go.Proofs.Ytpennfojidpmeaa.rebuildNilSeg.s41 := Go.Sx.seg_step Go.Proofs.Ytpennfojidpmeaa.rebuildNilSeg.g41 d42
theorem d40 : Go.Sx.Gd Try.prog Go.Sx.noTbl Go.Proofs.Ytpennfojidpmeaa.rebuildNilSeg.s40 := Go.Sx.seg_step Go.Proofs.Ytpennfojidpmeaa.rebuildNilSeg.g40 d41
theorem d39 : Go.Sx.Gd Try.prog Go.Sx.noTbl Go.Proofs.Ytpennfojidpmeaa.rebuildNilSeg.s39 := Go.Sx.seg_step Go.Proofs.Ytpennfojidpmeaa.rebuildNilSeg.g39 d40
theorem d38 : Go.Sx.Gd Try.prog Go.Sx.noTbl Go.Proofs.Ytpennfojidpmeaa.rebuildNilSeg.s38 := Go.Sx.seg_step Go.Proofs.Ytpennfojidpmeaa.rebuildNilSeg.g38 d39
theorem d37 : Go.Sx.Gd Try.prog Go.Sx.noTbl Go.Proofs.Ytpennfojidpmeaa.rebuildNilSeg.s37 := Go.Sx.seg_step Go.Proofs.Ytpennfojidpmeaa.rebuildNilSeg.g37 d38
theorem d36 : Go.Sx.Gd Try.prog Go.Sx.noTbl Go.Proofs.Ytpennfojidpmeaa.rebuildNilSeg.s36 := Go.Sx.seg_step Go.Proofs.Ytpennfojidpmeaa.rebuildNilSeg.g36 d37
theorem d35 : Go.Sx.Gd Try.prog Go.Sx.noTbl Go.Proofs.Ytpennfojidpmeaa.rebuildNilSeg.s35 := Go.Sx.seg_step Go.Proofs.Ytpennfojidpmeaa.rebuildNilSeg.g35 d36
theorem d34 : Go.Sx.Gd Try.prog Go.Sx.noTbl Go.Proofs.Ytpennfojidpmeaa.rebuildNilSeg.s34 := Go.Sx.seg_step Go.Proofs.Ytpennfojidpmeaa.rebuildNilSeg.g34 d35
theorem d33 : Go.Sx.Gd Try.prog Go.Sx.noTbl Go.Proofs.Ytpennfojidpmeaa.rebuildNilSeg.s33 := Go.Sx.seg_step Go.Proofs.Ytpennfojidpmeaa.rebuildNilSeg.g33 d34
theorem d32 : Go.Sx.Gd Try.prog Go.Sx.noTbl Go.Proofs.Ytpennfojidpmeaa.rebuildNilSeg.s32 := Go.Sx.seg_step Go.Proofs.Ytpennfojidpmeaa.rebuildNilSeg.g32 d33
theorem d31 : Go.Sx.Gd Try.prog Go.Sx.noTbl Go.Proofs.Ytpennfojidpmeaa.rebuildNilSeg.s31 := Go.Sx.seg_step Go.Proofs.Ytpennfojidpmeaa.rebuildNilSeg.g31 d32
theorem d30 : Go.Sx.Gd Try.prog Go.Sx.noTbl Go.Proofs.Ytpennfojidpmeaa.rebuildNilSeg.s30 := Go.Sx.seg_step Go.Proofs.Ytpennfojidpmeaa.rebuildNilSeg.g30 d31
theorem d29 : Go.Sx.Gd Try.prog Go.Sx.noTbl Go.Proofs.Ytpennfojidpmeaa.rebuildNilSeg.s29 := Go.Sx.seg_step Go.Proofs.Ytpennfojidpmeaa.rebuildNilSeg.g29 d30
theorem d28 : Go.Sx.Gd Try.prog Go.Sx.noTbl Go.Proofs.Ytpennfojidpmeaa.rebuildNilSeg.s28 := Go.Sx.seg_step Go.Proofs.Ytpennfojidpmeaa.rebuildNilSeg.g28 d29
theorem d27 : Go.Sx.Gd Try.prog Go.Sx.noTbl Go.Proofs.Ytpennfojidpmeaa.rebuildNilSeg.s27 := Go.Sx.seg_step Go.Proofs.Ytpennfojidpmeaa.rebuildNilSeg.g27 d28
theorem d26 : Go.Sx.Gd Try.prog Go.Sx.noTbl Go.Proofs.Ytpennfojidpmeaa.rebuildNilSeg.s26 := Go.Sx.seg_step Go.Proofs.Ytpennfojidpmeaa.rebuildNilSeg.g26 d27
theorem d25 : Go.Sx.Gd Try.prog Go.Sx.noTbl Go.Proofs.Ytpennfojidpmeaa.rebuildNilSeg.s25 := Go.Sx.seg_step Go.Proofs.Ytpennfojidpmeaa.rebuildNilSeg.g25 d26
theorem d24 : Go.Sx.Gd Try.prog Go.Sx.noTbl Go.Proofs.Ytpennfojidpmeaa.rebuildNilSeg.s24 := Go.Sx.seg_step Go.Proofs.Ytpennfojidpmeaa.rebuildNilSeg.g24 d25
theorem d23 : Go.Sx.Gd Try.prog Go.Sx.noTbl Go.Proofs.Ytpennfojidpmeaa.rebuildNilSeg.s23 := Go.Sx.seg_step Go.Proofs.Ytpennfojidpmeaa.rebuildNilSeg.g23 d24
theorem d22 : Go.Sx.Gd Try.prog Go.Sx.noTbl Go.Proofs.Ytpennfojidpmeaa.rebuildNilSeg.s22 := Go.Sx.seg_step Go.Proofs.Ytpennfojidpmeaa.rebuildNilSeg.g22 d23
theorem d21 : Go.Sx.Gd Try.prog Go.Sx.noTbl Go.Proofs.Ytpennfojidpmeaa.rebuildNilSeg.s21 := Go.Sx.seg_step Go.Proofs.Ytpennfojidpmeaa.rebuildNilSeg.g21 d22
theorem d20 : Go.Sx.Gd Try.prog Go.Sx.noTbl Go.Proofs.Ytpennfojidpmeaa.rebuildNilSeg.s20 := Go.Sx.seg_step Go.Proofs.Ytpennfojidpmeaa.rebuildNilSeg.g20 d21
theorem d19 : Go.Sx.Gd Try.prog Go.Sx.noTbl Go.Proofs.Ytpennfojidpmeaa.rebuildNilSeg.s19 := Go.Sx.seg_step Go.Proofs.Ytpennfojidpmeaa.rebuildNilSeg.g19 d20
theorem d18 : Go.Sx.Gd Try.prog Go.Sx.noTbl Go.Proofs.Ytpennfojidpmeaa.rebuildNilSeg.s18 := Go.Sx.seg_step Go.Proofs.Ytpennfojidpmeaa.rebuildNilSeg.g18 d19
theorem d17 : Go.Sx.Gd Try.prog Go.Sx.noTbl Go.Proofs.Ytpennfojidpmeaa.rebuildNilSeg.s17 := Go.Sx.seg_step Go.Proofs.Ytpennfojidpmeaa.rebuildNilSeg.g17 d18
theorem d16 : Go.Sx.Gd Try.prog Go.Sx.noTbl Go.Proofs.Ytpennfojidpmeaa.rebuildNilSeg.s16 := Go.Sx.seg_step Go.Proofs.Ytpennfojidpmeaa.rebuildNilSeg.g16 d17
theorem d15 : Go.Sx.Gd Try.prog Go.Sx.noTbl Go.Proofs.Ytpennfojidpmeaa.rebuildNilSeg.s15 := Go.Sx.seg_step Go.Proofs.Ytpennfojidpmeaa.rebuildNilSeg.g15 d16
theorem d14 : Go.Sx.Gd Try.prog Go.Sx.noTbl Go.Proofs.Ytpennfojidpmeaa.rebuildNilSeg.s14 := Go.Sx.seg_step Go.Proofs.Ytpennfojidpmeaa.rebuildNilSeg.g14 d15
theorem d13 : Go.Sx.Gd Try.prog Go.Sx.noTbl Go.Proofs.Ytpennfojidpmeaa.rebuildNilSeg.s13 := Go.Sx.seg_step Go.Proofs.Ytpennfojidpmeaa.rebuildNilSeg.g13 d14
theorem d12 : Go.Sx.Gd Try.prog Go.Sx.noTbl Go.Proofs.Ytpennfojidpmeaa.rebuildNilSeg.s12 := Go.Sx.seg_step Go.Proofs.Ytpennfojidpmeaa.rebuildNilSeg.g12 d13
theorem d11 : Go.Sx.Gd Try.prog Go.Sx.noTbl Go.Proofs.Ytpennfojidpmeaa.rebuildNilSeg.s11 := Go.Sx.seg_step Go.Proofs.Ytpennfojidpmeaa.rebuildNilSeg.g11 d12
theorem d10 : Go.Sx.Gd Try.prog Go.Sx.noTbl Go.Proofs.Ytpennfojidpmeaa.rebuildNilSeg.s10 := Go.Sx.seg_step Go.Proofs.Ytpennfojidpmeaa.rebuildNilSeg.g10 d11
theorem d9 : Go.Sx.Gd Try.prog Go.Sx.noTbl Go.Proofs.Ytpennfojidpmeaa.rebuildNilSeg.s9 := Go.Sx.seg_step Go.Proofs.Ytpennfojidpmeaa.rebuildNilSeg.g9 d10
theorem d8 : Go.Sx.Gd Try.prog Go.Sx.noTbl Go.Proofs.Ytpennfojidpmeaa.rebuildNilSeg.s8 := Go.Sx.seg_step Go.Proofs.Ytpennfojidpmeaa.rebuildNilSeg.g8 d9
theorem d7 : Go.Sx.Gd Try.prog Go.Sx.noTbl Go.Proofs.Ytpennfojidpmeaa.rebuildNilSeg.s7 := Go.Sx.seg_step Go.Proofs.Ytpennfojidpmeaa.rebuildNilSeg.g7 d8
theorem d6 : Go.Sx.Gd Try.prog Go.Sx.noTbl Go.Proofs.Ytpennfojidpmeaa.rebuildNilSeg.s6 := Go.Sx.seg_step Go.Proofs.Ytpennfojidpmeaa.rebuildNilSeg.g6 d7
theorem d5 : Go.Sx.Gd Try.prog Go.Sx.noTbl Go.Proofs.Ytpennfojidpmeaa.rebuildNilSeg.s5 := Go.Sx.seg_step Go.Proofs.Ytpennfojidpmeaa.rebuildNilSeg.g5 d6
theorem d4 : Go.Sx.Gd Try.prog Go.Sx.noTbl Go.Proofs.Ytpennfojidpmeaa.rebuildNilSeg.s4 := Go.Sx.seg_step Go.Proofs.Ytpennfojidpmeaa.rebuildNilSeg.g4 d5
theorem d3 : Go.Sx.Gd Try.prog Go.Sx.noTbl Go.Proofs.Ytpennfojidpmeaa.rebuildNilSeg.s3 := Go.Sx.seg_step Go.Proofs.Ytpennfojidpmeaa.rebuildNilSeg.g3 d4
theorem d2 : Go.Sx.Gd Try.prog Go.Sx.noTbl Go.Proofs.Ytpennfojidpmeaa.rebuildNilSeg.s2 := Go.Sx.seg_step Go.Proofs.Ytpennfojidpmeaa.rebuildNilSeg.g2 d3
theorem d1 : Go.Sx.Gd Try.prog Go.Sx.noTbl Go.Proofs.Ytpennfojidpmeaa.rebuildNilSeg.s1 := Go.Sx.seg_step Go.Proofs.Ytpennfojidpmeaa.rebuildNilSeg.g1 d2
theorem d0 : Go.Sx.Gd Try.prog Go.Sx.noTbl Go.Proofs.Ytpennfojidpmeaa.rebuildNilSeg.s0 := Go.Sx.seg_step Go.Proofs.Ytpennfojidpmeaa.rebuildNilSeg.g0 d1
theorem walk (w : World) : Calls Try.prog 10 #[] w fun e w' => e = .returned (.bool true) ∧ Below w.heap.size w w' :=
  Go.Sx.closed_seg mixed Go.Proofs.Ytpennfojidpmeaa.rebuildNilSeg.start d0 w

set_option maxRecDepth 100000 in
theorem lifted (os : Os) (started : os.Started) (H : Type) (enc : TypeId × Value → H) :
    ReturnsInHanded {} Try.checked os 10 .any (Rows.rebuildNilSpec.pre6 enc Try.prog Try.f10 Rows.rebuildNilRow.domain false) (Rows.rebuildNilSpec.post enc Try.prog Try.f10 false true false false) := by
  refine returnsInHanded_of_change (C := Try.checked) own started (by kernel_rfl) Try.func10
    (ChangeSpec.witness6 (enc := enc) (C := Try.checked) false ⟨#[], #[], []⟩ 8 (by kernel_rfl) (by kernel_rfl) (by kernel_rfl) (by kernel_rfl)) ?_
  intro W base args ds gs before hval0 hW hcnd _
  have hval : ∀ (j : Nat) t v, Try.f10.params[j]? = some t → args[j]? = some v → Value.okWide Try.prog W .any base t v := hval0
  have hW' := hW
  obtain ⟨p, q, hA0, hV, rfl, hfz, hnd⟩ := hW
  have hA : DataW.TrodAll enc Try.prog W 0 (fun _ => true) true Try.f10.params.toList args.toList ds p := hA0
  rw [Try.params10] at hA hval
  obtain ⟨rfl, rfl, rfl⟩ := trodAll_none hA
  obtain ⟨rfl, rfl⟩ := trodVars_none hV
  clear hA0 hval0
  simp only [List.append_nil] at hW'
  refine (walk W).mono fun e W' ⟨he, hg⟩ => ?_
  subst he
  exact ⟨_, rfl, Go.Sx.law_post (places := []) hW' (fun _ _ _ => (trodAll_cons_mk (shut_bool Try.underlying4 _) trodAll_mk0)) (fun sp _ => rfl) (fun _ _ => rfl) rfl
    hg (ok_one (by kernel_rfl) rfl (okWide_bool_mk Try.underlying4 _))⟩

theorem over : Rows.rebuildNilRow.holds Try.pinned (OpenSpec.ofChange Rows.rebuildNilSpec) :=
  OpenClaim.holds_of_wide 10 Try.f10 rfl rfl rfl rfl rfl rfl rfl ⟨rfl, rfl, rfl, rfl, rfl⟩ rfl rfl rfl rfl rfl (by kernel_rfl) Try.func10 (by kernel_rfl)
    (of_decide_eq_true (by kernel_rfl)) (by unfold Func.isWrapper; first | (rw [if_pos (by decide +kernel)]; kernel_rfl) | (rw [if_neg (by decide +kernel)]; exact ⟨rfl, rfl⟩))
    (fun os started H enc _ => lifted os started H enc)

end Go.Proofs.Ytpennfojidpmeaa.rebuildNil
namespace Go.Proofs.Ytpennfojidpmeaa
theorem rebuildNil_proved : Rows.RebuildNilSaid := rebuildNil.over
#print axioms rebuildNil_proved
end Go.Proofs.Ytpennfojidpmeaa

/- It is proved that the law HolderNil returns true, whatever the world in which it is called; it has no arguments and no conditions. -/
import Derived.Test.YtppbhmgbbakhaaaGreatRows
import Derived.Test.YtppbhmgbbakhaaaGreatHolderNilG1
import Derived.Test.YtppbhmgbbakhaaaGreatHolderNilG2
import Derived.ProofKit
import Derived.OpenShut
namespace Go.Proofs.YtppbhmgbbakhaaaGreat.holderNil
open Go.ChangeShapes Go.WideShapes Go.ChangeAt Go.RowKit

theorem own : ownKnob Tryz.prog.godebug = none := by kernel_rfl

theorem mixed : Tryz.prog.follows .mixedOrders = true := by kernel_rfl
theorem d3 : Go.Sx.Gd Tryz.prog Go.Sx.noTbl Go.Proofs.YtppbhmgbbakhaaaGreat.holderNilSeg.s3 := Go.Sx.seg_end Go.Proofs.YtppbhmgbbakhaaaGreat.holderNilSeg.g3
theorem d2 : Go.Sx.Gd Tryz.prog Go.Sx.noTbl Go.Proofs.YtppbhmgbbakhaaaGreat.holderNilSeg.s2 := Go.Sx.seg_step Go.Proofs.YtppbhmgbbakhaaaGreat.holderNilSeg.g2 d3
theorem d1 : Go.Sx.Gd Tryz.prog Go.Sx.noTbl Go.Proofs.YtppbhmgbbakhaaaGreat.holderNilSeg.s1 := Go.Sx.seg_step Go.Proofs.YtppbhmgbbakhaaaGreat.holderNilSeg.g1 d2
theorem d0 : Go.Sx.Gd Tryz.prog Go.Sx.noTbl Go.Proofs.YtppbhmgbbakhaaaGreat.holderNilSeg.s0 := Go.Sx.seg_step Go.Proofs.YtppbhmgbbakhaaaGreat.holderNilSeg.g0 d1
theorem walk (w : World) : Calls Tryz.prog 3 #[] w fun e w' => e = .returned (.bool true) ∧ Below w.heap.size w w' :=
  Go.Sx.closed_seg mixed Go.Proofs.YtppbhmgbbakhaaaGreat.holderNilSeg.start d0 w

set_option maxRecDepth 100000 in
theorem lifted (os : Os) (started : os.Started) (H : Type) (enc : TypeId × Value → H) :
    ReturnsInHanded {} Tryz.checked os 3 .any (Rows.holderNilSpec.pre6 enc Tryz.prog Tryz.f3 Rows.holderNilRow.domain false) (Rows.holderNilSpec.post enc Tryz.prog Tryz.f3 false true false false) := by
  refine returnsInHanded_of_change (C := Tryz.checked) own started (by kernel_rfl) Tryz.func3
    (ChangeSpec.witness6 (enc := enc) (C := Tryz.checked) false ⟨#[], #[], []⟩ 8 (by kernel_rfl) (by kernel_rfl) (by kernel_rfl) (by kernel_rfl)) ?_
  intro W base args ds gs before hval0 hW hcnd _
  have hval : ∀ (j : Nat) t v, Tryz.f3.params[j]? = some t → args[j]? = some v → Value.okWide Tryz.prog W .any base t v := hval0
  have hW' := hW
  obtain ⟨p, q, hA0, hV, rfl, hfz, hnd⟩ := hW
  have hA : DataW.TrodAll enc Tryz.prog W 0 (fun _ => true) true Tryz.f3.params.toList args.toList ds p := hA0
  rw [Tryz.params3] at hA hval
  obtain ⟨rfl, rfl, rfl⟩ := trodAll_none hA
  obtain ⟨rfl, rfl⟩ := trodVars_none hV
  clear hA0 hval0
  simp only [List.append_nil] at hW'
  refine (walk W).mono fun e W' ⟨he, hg⟩ => ?_
  subst he
  exact ⟨_, rfl, Go.Sx.law_post (places := []) hW' (fun _ _ _ => (trodAll_cons_mk (shut_bool Tryz.underlying4 _) trodAll_mk0)) (fun sp _ => rfl) (fun _ _ => rfl) rfl
    hg (ok_one (by kernel_rfl) rfl (okWide_bool_mk Tryz.underlying4 _))⟩

theorem over : Rows.holderNilRow.holds Tryz.pinned (OpenSpec.ofChange Rows.holderNilSpec) :=
  OpenClaim.holds_of_wide 3 Tryz.f3 rfl rfl rfl rfl rfl rfl rfl ⟨rfl, rfl, rfl, rfl, rfl⟩ rfl rfl rfl rfl rfl (by kernel_rfl) Tryz.func3 (by kernel_rfl)
    (of_decide_eq_true (by kernel_rfl)) (by unfold Func.isWrapper; first | (rw [if_pos (by decide +kernel)]; kernel_rfl) | (rw [if_neg (by decide +kernel)]; exact ⟨rfl, rfl⟩))
    (fun os started H enc _ => lifted os started H enc)

end Go.Proofs.YtppbhmgbbakhaaaGreat.holderNil
namespace Go.Proofs.YtppbhmgbbakhaaaGreat
theorem holderNil_proved : Rows.HolderNilSaid := holderNil.over
#print axioms holderNil_proved
end Go.Proofs.YtppbhmgbbakhaaaGreat

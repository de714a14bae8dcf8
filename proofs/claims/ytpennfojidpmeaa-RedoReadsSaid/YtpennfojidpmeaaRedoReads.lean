/- RedoReadsSaid is proved: the law answers true at every argument. No conditions. -/
import Derived.Test.YtpennfojidpmeaaQl
import Derived.Test.YtpennfojidpmeaaRows
import Derived.ProofKit
import Derived.OpenShut
import Derived.ChangeSame
import Derived.WideKeyArgs
namespace Go.Proofs.Ytpennfojidpmeaa.redoReads
open Go.ChangeShapes Go.WideShapes Go.ChangeAt Go.RowKit
set_option maxRecDepth 100000

theorem own : ownKnob Try.prog.godebug = none := by kernel_rfl
theorem laid : laidOutB Try.prog = true := by kernel_rfl
theorem agg_of {H : Type} {enc : TypeId × Value → H} {W : World} {t : TypeId} {fs : Array Field} {v : Value} {d : DataW H} {p : List MemPlace} (ht : Try.prog.underlying t = some (.struct fs)) (hv : Value.okWide Try.prog W .any 0 t v) (hd : DataW.Trod enc Try.prog W 0 (fun _ => true) true t v d p) : ∃ (cs : Array Value) (fuel : Nat), v = .agg cs ∧ DataW.trod enc Try.prog W 0 (fun _ => true) true fuel t cs.toList = some (d, p) := by
  unfold Value.okWide at hv
  rw [ht] at hv
  obtain ⟨cs, rfl, _, _⟩ := hv
  obtain ⟨fuel, hf⟩ := hd
  exact ⟨cs, fuel, rfl, hf⟩
theorem lifted (os : Os) (started : os.Started) (H : Type) (enc : TypeId × Value → H) :
    ReturnsInHanded {} Try.checked os 5 .any (Rows.redoReadsSpec.pre6 enc Try.prog Try.f5 Rows.redoReadsRow.domain false) (Rows.redoReadsSpec.post enc Try.prog Try.f5 false true false false) := by
  refine returnsInHanded_of_change (C := Try.checked) own started (by kernel_rfl) Try.func5
    (ChangeSpec.witness6 (enc := enc) (C := Try.checked) false ⟨#[], #[.agg (List.replicate 5 (Value.int .i64 0)).toArray, .int .i64 0, .slice none 0 0], []⟩ 8 (by kernel_rfl) (by kernel_rfl) (by kernel_rfl) (by kernel_rfl)) ?_
  intro W base args ds gs before hval0 hW hcnd _
  have hval : ∀ (j : Nat) t v, Try.f5.params[j]? = some t → args[j]? = some v → Value.okWide Try.prog W .any base t v := hval0
  have hW' := hW
  obtain ⟨p, q, hA0, hV, rfl, hfz, hnd⟩ := hW
  have hA : DataW.TrodAll enc Try.prog W 0 (fun _ => true) true Try.f5.params.toList args.toList ds p := hA0
  rw [Try.params5] at hA hval
  obtain ⟨v0, vs0, d0, ds0, p0, q0, hargs, rfl, rfl, h0, r0⟩ := trodAll_cons hA
  obtain ⟨v1, vs1, d1, ds1, p1, q1, rfl, rfl, rfl, h1, r1⟩ := trodAll_cons r0
  obtain ⟨v2, vs2, d2, ds2, p2, q2, rfl, rfl, rfl, h2, r2⟩ := trodAll_cons r1
  obtain ⟨rfl, rfl, rfl⟩ := trodAll_nil r2
  obtain rfl : args = #[v0, v1, v2] := by cases args; simp_all
  obtain ⟨rfl, rfl⟩ := trodVars_none hV
  clear hA0 hval0
  have walk : Calls Try.prog 5 #[v0, v1, v2] W fun e W' => e = .returned (.bool true) ∧ Below W.heap.size W W' := by
    obtain ⟨S, cS, e1, gS, k1⟩ := rps_of 0 (hval 2 54 v2 rfl rfl) h2
    obtain ⟨c0, f0, rfl, g0⟩ := agg_of Try.underlying24 (hval 0 24 v0 rfl rfl) h0
    obtain ⟨j, hj⟩ := job_of g0
    obtain rfl : c0 = (jobL j).toArray := by rw [← hj]
    obtain ⟨a1, rfl, _, _, _⟩ := open_int Try.underlying3 (hval 1 3 v1 rfl rfl) h1
    exact call_s k1 rfl rfl (reads_ctr gS)
  refine walk.mono fun e W' ⟨he, hg⟩ => ?_
  subst he
  exact ⟨_, rfl, Go.Sx.law_post (places := p0 ++ (p1 ++ (p2 ++ []))) hW' (fun _ _ _ => (trodAll_cons_mk (shut_bool Try.underlying4 _) trodAll_mk0)) (fun sp hsp => by
    have stays0 := Go.WideElems.Trod_stays laid (by kernel_rfl) (of_decide_eq_true (by kernel_rfl)) h0 (fun q hq => hg.same (hW'.lt q (by simp [hq]))) (fun q hq => hsp q (by simp [hq]))
    have stays1 := Go.WideElems.Trod_stays laid (by kernel_rfl) (of_decide_eq_true (by kernel_rfl)) h1 (fun q hq => hg.same (hW'.lt q (by simp [hq]))) (fun q hq => hsp q (by simp [hq]))
    have stays2 := Go.WideElems.Trod_stays laid (by kernel_rfl) (of_decide_eq_true (by kernel_rfl)) h2 (fun q hq => hg.same (hW'.lt q (by simp [hq]))) (fun q hq => hsp q (by simp [hq]))
    exact trodAll_cons_mk stays0 (trodAll_cons_mk stays1 (trodAll_cons_mk stays2 trodAll_mk0))) (fun _ _ => rfl) (by simp)
    hg (ok_one (by kernel_rfl) rfl (okWide_bool_mk Try.underlying4 _))⟩

theorem over : Rows.redoReadsRow.holds Try.pinned (OpenSpec.ofChange Rows.redoReadsSpec) :=
  OpenClaim.holds_of_wide 5 Try.f5 rfl rfl rfl rfl rfl rfl rfl ⟨rfl, rfl, rfl, rfl, rfl⟩ rfl rfl rfl rfl rfl (by kernel_rfl) Try.func5 (by kernel_rfl)
    (of_decide_eq_true (by kernel_rfl)) (by unfold Func.isWrapper; first | (rw [if_pos (by decide +kernel)]; kernel_rfl) | (rw [if_neg (by decide +kernel)]; exact ⟨rfl, rfl⟩))
    (fun os started H enc _ => lifted os started H enc)

end Go.Proofs.Ytpennfojidpmeaa.redoReads
namespace Go.Proofs.Ytpennfojidpmeaa
theorem redoReads_proved : Rows.RedoReadsSaid := redoReads.over
#print axioms redoReads_proved
end Go.Proofs.Ytpennfojidpmeaa

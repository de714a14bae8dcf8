/- It is proved that the law WorldNil returns true, whatever the world in which it is called; it has no arguments. Its row lists two tables of unicode/utf8 (tied to the text by the given tie); the proof uses nothing of them. -/
import Derived.Test.YtonjafmghabilaaGreatDoorCards
import Derived.Test.YtonjafmghabilaaGreatDoorTie
import Derived.Test.YtonjafmghabilaaGreatDoorWorldNilG1
import Derived.Test.YtonjafmghabilaaGreatDoorWorldNilG2
import Derived.Test.YtonjafmghabilaaGreatDoorWorldNilG3
import Derived.Test.YtonjafmghabilaaGreatDoorWorldNilG4
import Derived.Test.YtonjafmghabilaaGreatDoorWorldNilG5
import Derived.Test.YtonjafmghabilaaGreatDoorWorldNilG6
import Derived.Test.YtonjafmghabilaaGreatDoorWorldNilG7
import Derived.Test.YtonjafmghabilaaGreatDoorWorldNilG8
import Derived.Test.YtonjafmghabilaaGreatDoorWorldNilG9
import Derived.Test.YtonjafmghabilaaGreatDoorWorldNilG10
import Derived.Test.YtonjafmghabilaaGreatDoorWorldNilG11
import Derived.Test.YtonjafmghabilaaGreatDoorWorldNilG12
import Derived.Test.YtonjafmghabilaaGreatDoorWorldNilG13
import Derived.Test.YtonjafmghabilaaGreatDoorWorldNilG14
import Derived.Test.YtonjafmghabilaaGreatDoorWorldNilG15
import Derived.Test.YtonjafmghabilaaGreatDoorWorldNilG16
import Derived.Test.YtonjafmghabilaaGreatDoorWorldNilG17
import Derived.Test.YtonjafmghabilaaGreatDoorWorldNilG18
import Derived.Test.YtonjafmghabilaaGreatDoorWorldNilFacts
import Derived.ProofKit
import Derived.OpenShut
import Derived.Lay
import Derived.SevenTiedAt
namespace Go.Proofs.YtonjafmghabilaaGreatDoor.worldNil
open Go.ChangeShapes Go.WideShapes Go.ChangeAt Go.RowKit

theorem own : ownKnob Tryz.prog.godebug = none := by kernel_rfl

theorem mixed : Tryz.prog.follows .mixedOrders = true := by kernel_rfl
theorem d34 : Go.Sx.Gd Tryz.prog Go.Sx.noTbl Go.Proofs.YtonjafmghabilaaGreatDoor.worldNilSeg.s34 := Go.Sx.seg_end Go.Proofs.YtonjafmghabilaaGreatDoor.worldNilSeg.g34
theorem d33 : Go.Sx.Gd Tryz.prog Go.Sx.noTbl Go.Proofs.YtonjafmghabilaaGreatDoor.worldNilSeg.s33 := Go.Sx.seg_step Go.Proofs.YtonjafmghabilaaGreatDoor.worldNilSeg.g33 d34
theorem d32 : Go.Sx.Gd Tryz.prog Go.Sx.noTbl Go.Proofs.YtonjafmghabilaaGreatDoor.worldNilSeg.s32 := Go.Sx.seg_step Go.Proofs.YtonjafmghabilaaGreatDoor.worldNilSeg.g32 d33
theorem d31 : Go.Sx.Gd Tryz.prog Go.Sx.noTbl Go.Proofs.YtonjafmghabilaaGreatDoor.worldNilSeg.s31 := Go.Sx.seg_step Go.Proofs.YtonjafmghabilaaGreatDoor.worldNilSeg.g31 d32
theorem d30 : Go.Sx.Gd Tryz.prog Go.Sx.noTbl Go.Proofs.YtonjafmghabilaaGreatDoor.worldNilSeg.s30 := Go.Sx.seg_step Go.Proofs.YtonjafmghabilaaGreatDoor.worldNilSeg.g30 d31
theorem d29 : Go.Sx.Gd Tryz.prog Go.Sx.noTbl Go.Proofs.YtonjafmghabilaaGreatDoor.worldNilSeg.s29 := Go.Sx.seg_step Go.Proofs.YtonjafmghabilaaGreatDoor.worldNilSeg.g29 d30
theorem d28 : Go.Sx.Gd Tryz.prog Go.Sx.noTbl Go.Proofs.YtonjafmghabilaaGreatDoor.worldNilSeg.s28 := Go.Sx.seg_step Go.Proofs.YtonjafmghabilaaGreatDoor.worldNilSeg.g28 d29
theorem d27 : Go.Sx.Gd Tryz.prog Go.Sx.noTbl Go.Proofs.YtonjafmghabilaaGreatDoor.worldNilSeg.s27 := Go.Sx.seg_step Go.Proofs.YtonjafmghabilaaGreatDoor.worldNilSeg.g27 d28
theorem d26 : Go.Sx.Gd Tryz.prog Go.Sx.noTbl Go.Proofs.YtonjafmghabilaaGreatDoor.worldNilSeg.s26 := Go.Sx.seg_step Go.Proofs.YtonjafmghabilaaGreatDoor.worldNilSeg.g26 d27
theorem d25 : Go.Sx.Gd Tryz.prog Go.Sx.noTbl Go.Proofs.YtonjafmghabilaaGreatDoor.worldNilSeg.s25 := Go.Sx.seg_step Go.Proofs.YtonjafmghabilaaGreatDoor.worldNilSeg.g25 d26
theorem d24 : Go.Sx.Gd Tryz.prog Go.Sx.noTbl Go.Proofs.YtonjafmghabilaaGreatDoor.worldNilSeg.s24 := Go.Sx.seg_step Go.Proofs.YtonjafmghabilaaGreatDoor.worldNilSeg.g24 d25
theorem d23 : Go.Sx.Gd Tryz.prog Go.Sx.noTbl Go.Proofs.YtonjafmghabilaaGreatDoor.worldNilSeg.s23 := Go.Sx.seg_step Go.Proofs.YtonjafmghabilaaGreatDoor.worldNilSeg.g23 d24
theorem d22 : Go.Sx.Gd Tryz.prog Go.Sx.noTbl Go.Proofs.YtonjafmghabilaaGreatDoor.worldNilSeg.s22 := Go.Sx.seg_step Go.Proofs.YtonjafmghabilaaGreatDoor.worldNilSeg.g22 d23
theorem d21 : Go.Sx.Gd Tryz.prog Go.Sx.noTbl Go.Proofs.YtonjafmghabilaaGreatDoor.worldNilSeg.s21 := Go.Sx.seg_step Go.Proofs.YtonjafmghabilaaGreatDoor.worldNilSeg.g21 d22
theorem d20 : Go.Sx.Gd Tryz.prog Go.Sx.noTbl Go.Proofs.YtonjafmghabilaaGreatDoor.worldNilSeg.s20 := Go.Sx.seg_step Go.Proofs.YtonjafmghabilaaGreatDoor.worldNilSeg.g20 d21
theorem d19 : Go.Sx.Gd Tryz.prog Go.Sx.noTbl Go.Proofs.YtonjafmghabilaaGreatDoor.worldNilSeg.s19 := Go.Sx.seg_step Go.Proofs.YtonjafmghabilaaGreatDoor.worldNilSeg.g19 d20
theorem d18 : Go.Sx.Gd Tryz.prog Go.Sx.noTbl Go.Proofs.YtonjafmghabilaaGreatDoor.worldNilSeg.s18 := Go.Sx.seg_step Go.Proofs.YtonjafmghabilaaGreatDoor.worldNilSeg.g18 d19
theorem d17 : Go.Sx.Gd Tryz.prog Go.Sx.noTbl Go.Proofs.YtonjafmghabilaaGreatDoor.worldNilSeg.s17 := Go.Sx.seg_step Go.Proofs.YtonjafmghabilaaGreatDoor.worldNilSeg.g17 d18
theorem d16 : Go.Sx.Gd Tryz.prog Go.Sx.noTbl Go.Proofs.YtonjafmghabilaaGreatDoor.worldNilSeg.s16 := Go.Sx.seg_step Go.Proofs.YtonjafmghabilaaGreatDoor.worldNilSeg.g16 d17
theorem d15 : Go.Sx.Gd Tryz.prog Go.Sx.noTbl Go.Proofs.YtonjafmghabilaaGreatDoor.worldNilSeg.s15 := Go.Sx.seg_step Go.Proofs.YtonjafmghabilaaGreatDoor.worldNilSeg.g15 d16
theorem d14 : Go.Sx.Gd Tryz.prog Go.Sx.noTbl Go.Proofs.YtonjafmghabilaaGreatDoor.worldNilSeg.s14 := Go.Sx.seg_step Go.Proofs.YtonjafmghabilaaGreatDoor.worldNilSeg.g14 d15
theorem d13 : Go.Sx.Gd Tryz.prog Go.Sx.noTbl Go.Proofs.YtonjafmghabilaaGreatDoor.worldNilSeg.s13 := Go.Sx.seg_step Go.Proofs.YtonjafmghabilaaGreatDoor.worldNilSeg.g13 d14
theorem d12 : Go.Sx.Gd Tryz.prog Go.Sx.noTbl Go.Proofs.YtonjafmghabilaaGreatDoor.worldNilSeg.s12 := Go.Sx.seg_step Go.Proofs.YtonjafmghabilaaGreatDoor.worldNilSeg.g12 d13
theorem d11 : Go.Sx.Gd Tryz.prog Go.Sx.noTbl Go.Proofs.YtonjafmghabilaaGreatDoor.worldNilSeg.s11 := Go.Sx.seg_step Go.Proofs.YtonjafmghabilaaGreatDoor.worldNilSeg.g11 d12
theorem d10 : Go.Sx.Gd Tryz.prog Go.Sx.noTbl Go.Proofs.YtonjafmghabilaaGreatDoor.worldNilSeg.s10 := Go.Sx.seg_step Go.Proofs.YtonjafmghabilaaGreatDoor.worldNilSeg.g10 d11
theorem d9 : Go.Sx.Gd Tryz.prog Go.Sx.noTbl Go.Proofs.YtonjafmghabilaaGreatDoor.worldNilSeg.s9 := Go.Sx.seg_step Go.Proofs.YtonjafmghabilaaGreatDoor.worldNilSeg.g9 d10
theorem d8 : Go.Sx.Gd Tryz.prog Go.Sx.noTbl Go.Proofs.YtonjafmghabilaaGreatDoor.worldNilSeg.s8 := Go.Sx.seg_step Go.Proofs.YtonjafmghabilaaGreatDoor.worldNilSeg.g8 d9
theorem d7 : Go.Sx.Gd Tryz.prog Go.Sx.noTbl Go.Proofs.YtonjafmghabilaaGreatDoor.worldNilSeg.s7 := Go.Sx.seg_step Go.Proofs.YtonjafmghabilaaGreatDoor.worldNilSeg.g7 d8
theorem d6 : Go.Sx.Gd Tryz.prog Go.Sx.noTbl Go.Proofs.YtonjafmghabilaaGreatDoor.worldNilSeg.s6 := Go.Sx.seg_step Go.Proofs.YtonjafmghabilaaGreatDoor.worldNilSeg.g6 d7
theorem d5 : Go.Sx.Gd Tryz.prog Go.Sx.noTbl Go.Proofs.YtonjafmghabilaaGreatDoor.worldNilSeg.s5 := Go.Sx.seg_step Go.Proofs.YtonjafmghabilaaGreatDoor.worldNilSeg.g5 d6
theorem d4 : Go.Sx.Gd Tryz.prog Go.Sx.noTbl Go.Proofs.YtonjafmghabilaaGreatDoor.worldNilSeg.s4 := Go.Sx.seg_step Go.Proofs.YtonjafmghabilaaGreatDoor.worldNilSeg.g4 d5
theorem d3 : Go.Sx.Gd Tryz.prog Go.Sx.noTbl Go.Proofs.YtonjafmghabilaaGreatDoor.worldNilSeg.s3 := Go.Sx.seg_step Go.Proofs.YtonjafmghabilaaGreatDoor.worldNilSeg.g3 d4
theorem d2 : Go.Sx.Gd Tryz.prog Go.Sx.noTbl Go.Proofs.YtonjafmghabilaaGreatDoor.worldNilSeg.s2 := Go.Sx.seg_step Go.Proofs.YtonjafmghabilaaGreatDoor.worldNilSeg.g2 d3
theorem d1 : Go.Sx.Gd Tryz.prog Go.Sx.noTbl Go.Proofs.YtonjafmghabilaaGreatDoor.worldNilSeg.s1 := Go.Sx.seg_step Go.Proofs.YtonjafmghabilaaGreatDoor.worldNilSeg.g1 d2
theorem d0 : Go.Sx.Gd Tryz.prog Go.Sx.noTbl Go.Proofs.YtonjafmghabilaaGreatDoor.worldNilSeg.s0 := Go.Sx.seg_step Go.Proofs.YtonjafmghabilaaGreatDoor.worldNilSeg.g0 d1
theorem walk (w : World) : Calls Tryz.prog 3 #[] w fun e w' => e = .returned (.bool true) ∧ Below w.heap.size w w' :=
  Go.Sx.closed_seg mixed Go.Proofs.YtonjafmghabilaaGreatDoor.worldNilSeg.start d0 w

set_option maxRecDepth 100000 in
theorem contract (H : Type) (enc : TypeId × Value → H) (W : World) (base : Nat) (args : Array Value) (ds gs : List (DataW H)) (before : List MemPlace)
    (hval0 : ∀ (j : Nat) t v, Tryz.f3.params[j]? = some t → args[j]? = some v → Value.okWide Tryz.prog W .any base t v)
    (hW : DataW.Whole enc Tryz.prog Tryz.f3.params.toList Rows.worldNilSpec.vars false W args.toList ds gs before) :
    Calls Tryz.prog 3 args W fun e W' => ∃ v, e = .returned v ∧ Rows.worldNilSpec.post enc Tryz.prog Tryz.f3 false true false false W args v W' := by
  have hval : ∀ (j : Nat) t v, Tryz.f3.params[j]? = some t → args[j]? = some v → Value.okWide Tryz.prog W .any base t v := hval0
  have hW' := hW
  obtain ⟨p, q, hA0, hV, rfl, hfz, hnd⟩ := hW
  have hA : DataW.TrodAll enc Tryz.prog W 0 (fun _ => true) true Tryz.f3.params.toList args.toList ds p := hA0
  rw [Tryz.params3] at hA hval
  obtain ⟨rfl, rfl, rfl⟩ := trodAll_none hA
  obtain ⟨rfl, rfl⟩ := trodVars_none hV
  clear hA0 hval0
  simp only [List.append_nil] at hW'
  refine (walk W).mono fun e W' ⟨he, hg⟩ => ?_
  subst he
  exact ⟨_, rfl, Go.Sx.law_post (places := []) hW' (fun _ _ _ => (trodAll_cons_mk (shut_bool Tryz.underlying4 _) trodAll_mk0)) (fun sp _ => rfl) (fun _ _ => rfl) rfl
    hg (ok_one (by kernel_rfl) rfl (okWide_bool_mk Tryz.underlying4 _))⟩

set_option maxRecDepth 100000 in
theorem lifted (os : Os) (started : os.Started) (H : Type) (enc : TypeId × Value → H) :
    ReturnsInHanded {} Tryz.checked os 3 .any (fun w args => (Rows.worldNilSpec.pre enc Tryz.prog Tryz.f3 [] false w args ∧ laidMetH Tryz.prog Rows.worldNilRow.laid w) ∧ sizedMet enc Tryz.prog Tryz.f3 (OpenSpec.ofChange Rows.worldNilSpec) false w args)
      (Rows.worldNilSpec.post enc Tryz.prog Tryz.f3 false true false false) := by
  refine returnsInHanded_of_change_and (C := Tryz.checked) (X := fun w _ => laidMetH Tryz.prog Rows.worldNilRow.laid w) (fun _ _ _ hh h => h.of_heap hh) own started (by kernel_rfl) Tryz.func3
    (ChangeSpec.witness_shaped (enc := enc) (C := Tryz.checked) (os := os) (X := fun w _ => laidMetH Tryz.prog Rows.worldNilRow.laid w) false (World.laidAll Tryz.prog os Rows.worldNilRow.laid) #[] 8 (World.laidAll_os _ _ _)
      (World.shaped_of_ZipB (by kernel_rfl) (by kernel_rfl)) (by kernel_rfl) (by kernel_rfl) (by kernel_rfl)
      (by rw [MakeChecks.laidMetH_plain _ _ _ (by kernel_rfl)]; exact laidMet_laidAll _ (by kernel_rfl) (by kernel_rfl))) ?_
  intro W base args ds gs before hval0 hW _ _ _ _
  exact contract H enc W base args ds gs before hval0 hW

theorem said : Rows.WorldNilSaid :=
  OpenClaim.holds_of_wide 3 Tryz.f3 rfl rfl rfl rfl rfl rfl rfl ⟨rfl, rfl, rfl, rfl, rfl⟩ rfl rfl rfl rfl rfl (by kernel_rfl) Tryz.func3 facts
    (of_decide_eq_true (by kernel_rfl)) (by unfold Func.isWrapper; first | (rw [if_pos (by decide +kernel)]; kernel_rfl) | (rw [if_neg (by decide +kernel)]; exact ⟨rfl, rfl⟩))
    (fun os started H enc _ => lifted os started H enc)

theorem plain (f : FuncId) (fn : Func) (hf : Tryz.pinned.checked.prog.funcNamed "millpond/millpondlaw21.WorldNil" = some f) (hfn : Tryz.pinned.checked.prog.funcs[f]? = some fn) :
    true = Tryz.pinned.checked.prog.looks [] ∧ ∀ (j : Nat) t, fn.params[j]? = some t → Tryz.pinned.checked.prog.wantsStandIn t = false := by
  obtain rfl : f = 3 := Option.some.inj ((show Tryz.prog.funcNamed "millpond/millpondlaw21.WorldNil" = some 3 by kernel_rfl).symm.trans hf) |>.symm
  obtain rfl : fn = Tryz.f3 := (Option.some.inj (Tryz.func3.symm.trans hfn)).symm
  refine ⟨by kernel_rfl, fun j t ht => ?_⟩
  rw [Tryz.params3] at ht
  simp at ht

theorem cardText : Rows.worldNilRow.wfByText (OpenSpec.ofChange Rows.worldNilSpec) = true := by kernel_rfl
theorem cardMain : Tryz.pinned.checked.prog.mainIs = some (Rows.worldNilCard.stood.harness.1, Rows.worldNilCard.stood.harness.2.toList) := by kernel_rfl
/-- No function's text starts a goroutine: nor does the call. -/
theorem goes_none {P : Program} (h : P.funcs.toList.any Func.goes = false) {c : OpenClaim} (hs : c.start = .entering) : false = c.goesBy P := by
  have hall : ∀ fn ∈ P.funcs.toList, Func.goes fn = false := fun fn hm => by
    cases hg : Func.goes fn with
    | false => rfl
    | true => rw [List.any_eq_true.2 ⟨fn, hm, hg⟩] at h; cases h
  have h1 : P.funcs.any Func.goes = false := by rw [← Array.any_toList]; exact h
  have hg : ∀ g : Nat, (P.funcs[g]?).any Func.goes = false := fun g => by
    cases hx : P.funcs[g]? with
    | none => rfl
    | some fn => exact hall fn (by rw [Array.mem_toList_iff]; exact Array.mem_of_getElem? hx)
  have hf : ∀ f, P.goes f = false := fun f => by
    unfold Program.goes
    simp only [hg, h1, Bool.and_false, Bool.or_false]
    simp
  unfold OpenClaim.goesBy Program.goesAt Program.goesFrom
  rw [hs]
  cases P.funcNamed c.func with
  | none => rfl
  | some f => simp [hf f]
theorem noGo : Tryz.prog.funcs.toList.any Func.goes = false := by kernel_rfl
theorem cardGoes : false = Rows.worldNilRow.goesBy Tryz.pinned.checked.prog := goes_none (P := Tryz.prog) noGo rfl
theorem card : Rows.WorldNilCardSaid :=
  Claim7.holds_tied_plain_at .later [] _ _ _ _ said (fun _ h => by cases h) cardText (fun _ h => by cases h) worldNil_row_tie rfl ⟨rfl, rfl⟩ cardMain rfl plain cardGoes
end Go.Proofs.YtonjafmghabilaaGreatDoor.worldNil
namespace Go.Proofs.YtonjafmghabilaaGreatDoor
theorem worldNil_proved : Rows.WorldNilCardSaid := worldNil.card
#print axioms worldNil_proved
end Go.Proofs.YtonjafmghabilaaGreatDoor

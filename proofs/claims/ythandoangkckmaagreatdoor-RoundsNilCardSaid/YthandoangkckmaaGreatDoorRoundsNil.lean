/- It is proved that the law RoundsNil returns true, whatever the world in which it is called; it has no arguments. Its row lists two tables of unicode/utf8 (tied to the text by the given tie); the proof uses nothing of them. -/
import Derived.Test.YthandoangkckmaaGreatDoorCards
import Derived.Test.YthandoangkckmaaGreatDoorTie
import Derived.Test.YthandoangkckmaaGreatDoorRoundsNilG1
import Derived.Test.YthandoangkckmaaGreatDoorRoundsNilG2
import Derived.Test.YthandoangkckmaaGreatDoorRoundsNilG3
import Derived.Test.YthandoangkckmaaGreatDoorRoundsNilG4
import Derived.Test.YthandoangkckmaaGreatDoorRoundsNilG5
import Derived.Test.YthandoangkckmaaGreatDoorRoundsNilG6
import Derived.Test.YthandoangkckmaaGreatDoorRoundsNilG7
import Derived.Test.YthandoangkckmaaGreatDoorRoundsNilG8
import Derived.Test.YthandoangkckmaaGreatDoorRoundsNilG9
import Derived.Test.YthandoangkckmaaGreatDoorRoundsNilG10
import Derived.Test.YthandoangkckmaaGreatDoorRoundsNilG11
import Derived.Test.YthandoangkckmaaGreatDoorRoundsNilG12
import Derived.Test.YthandoangkckmaaGreatDoorRoundsNilG13
import Derived.Test.YthandoangkckmaaGreatDoorRoundsNilG14
import Derived.Test.YthandoangkckmaaGreatDoorRoundsNilG15
import Derived.Test.YthandoangkckmaaGreatDoorRoundsNilG16
import Derived.Test.YthandoangkckmaaGreatDoorRoundsNilG17
import Derived.Test.YthandoangkckmaaGreatDoorRoundsNilG18
import Derived.Test.YthandoangkckmaaGreatDoorRoundsNilFacts
import Derived.ProofKit
import Derived.OpenShut
import Derived.Lay
import Derived.SevenTiedAt
namespace Go.Proofs.YthandoangkckmaaGreatDoor.roundsNil
open Go.ChangeShapes Go.WideShapes Go.ChangeAt Go.RowKit

theorem own : ownKnob Tryz.prog.godebug = none := by kernel_rfl

theorem mixed : Tryz.prog.follows .mixedOrders = true := by kernel_rfl
theorem d52 : Go.Sx.Gd Tryz.prog Go.Sx.noTbl Go.Proofs.YthandoangkckmaaGreatDoor.roundsNilSeg.s52 := Go.Sx.seg_end Go.Proofs.YthandoangkckmaaGreatDoor.roundsNilSeg.g52
theorem d51 : Go.Sx.Gd Tryz.prog Go.Sx.noTbl Go.Proofs.YthandoangkckmaaGreatDoor.roundsNilSeg.s51 := Go.Sx.seg_step Go.Proofs.YthandoangkckmaaGreatDoor.roundsNilSeg.g51 d52
theorem d50 : Go.Sx.Gd Tryz.prog Go.Sx.noTbl Go.Proofs.YthandoangkckmaaGreatDoor.roundsNilSeg.s50 := Go.Sx.seg_step Go.Proofs.YthandoangkckmaaGreatDoor.roundsNilSeg.g50 d51
theorem d49 : Go.Sx.Gd Tryz.prog Go.Sx.noTbl Go.Proofs.YthandoangkckmaaGreatDoor.roundsNilSeg.s49 := Go.Sx.seg_step Go.Proofs.YthandoangkckmaaGreatDoor.roundsNilSeg.g49 d50
theorem d48 : Go.Sx.Gd Tryz.prog Go.Sx.noTbl Go.Proofs.YthandoangkckmaaGreatDoor.roundsNilSeg.s48 := Go.Sx.seg_step Go.Proofs.YthandoangkckmaaGreatDoor.roundsNilSeg.g48 d49
theorem d47 : Go.Sx.Gd Tryz.prog Go.Sx.noTbl Go.Proofs.YthandoangkckmaaGreatDoor.roundsNilSeg.s47 := Go.Sx.seg_step Go.Proofs.YthandoangkckmaaGreatDoor.roundsNilSeg.g47 d48
theorem d46 : Go.Sx.Gd Tryz.prog Go.Sx.noTbl Go.Proofs.YthandoangkckmaaGreatDoor.roundsNilSeg.s46 := Go.Sx.seg_step Go.Proofs.YthandoangkckmaaGreatDoor.roundsNilSeg.g46 d47
theorem d45 : Go.Sx.Gd Tryz.prog Go.Sx.noTbl Go.Proofs.YthandoangkckmaaGreatDoor.roundsNilSeg.s45 := Go.Sx.seg_step Go.Proofs.YthandoangkckmaaGreatDoor.roundsNilSeg.g45 d46
theorem d44 : Go.Sx.Gd Tryz.prog Go.Sx.noTbl Go.Proofs.YthandoangkckmaaGreatDoor.roundsNilSeg.s44 := Go.Sx.seg_step Go.Proofs.YthandoangkckmaaGreatDoor.roundsNilSeg.g44 d45
theorem d43 : Go.Sx.Gd Tryz.prog Go.Sx.noTbl Go.Proofs.YthandoangkckmaaGreatDoor.roundsNilSeg.s43 := Go.Sx.seg_step Go.Proofs.YthandoangkckmaaGreatDoor.roundsNilSeg.g43 d44
theorem d42 : Go.Sx.Gd Tryz.prog Go.Sx.noTbl Go.Proofs.YthandoangkckmaaGreatDoor.roundsNilSeg.s42 := Go.Sx.seg_step Go.Proofs.YthandoangkckmaaGreatDoor.roundsNilSeg.g42 d43
theorem d41 : Go.Sx.Gd Tryz.prog Go.Sx.noTbl Go.Proofs.YthandoangkckmaaGreatDoor.roundsNilSeg.s41 := Go.Sx.seg_step Go.Proofs.YthandoangkckmaaGreatDoor.roundsNilSeg.g41 d42
theorem d40 : Go.Sx.Gd Tryz.prog Go.Sx.noTbl Go.Proofs.YthandoangkckmaaGreatDoor.roundsNilSeg.s40 := Go.Sx.seg_step Go.Proofs.YthandoangkckmaaGreatDoor.roundsNilSeg.g40 d41
theorem d39 : Go.Sx.Gd Tryz.prog Go.Sx.noTbl Go.Proofs.YthandoangkckmaaGreatDoor.roundsNilSeg.s39 := Go.Sx.seg_step Go.Proofs.YthandoangkckmaaGreatDoor.roundsNilSeg.g39 d40
theorem d38 : Go.Sx.Gd Tryz.prog Go.Sx.noTbl Go.Proofs.YthandoangkckmaaGreatDoor.roundsNilSeg.s38 := Go.Sx.seg_step Go.Proofs.YthandoangkckmaaGreatDoor.roundsNilSeg.g38 d39
theorem d37 : Go.Sx.Gd Tryz.prog Go.Sx.noTbl Go.Proofs.YthandoangkckmaaGreatDoor.roundsNilSeg.s37 := Go.Sx.seg_step Go.Proofs.YthandoangkckmaaGreatDoor.roundsNilSeg.g37 d38
theorem d36 : Go.Sx.Gd Tryz.prog Go.Sx.noTbl Go.Proofs.YthandoangkckmaaGreatDoor.roundsNilSeg.s36 := Go.Sx.seg_step Go.Proofs.YthandoangkckmaaGreatDoor.roundsNilSeg.g36 d37
theorem d35 : Go.Sx.Gd Tryz.prog Go.Sx.noTbl Go.Proofs.YthandoangkckmaaGreatDoor.roundsNilSeg.s35 := Go.Sx.seg_step Go.Proofs.YthandoangkckmaaGreatDoor.roundsNilSeg.g35 d36
theorem d34 : Go.Sx.Gd Tryz.prog Go.Sx.noTbl Go.Proofs.YthandoangkckmaaGreatDoor.roundsNilSeg.s34 := Go.Sx.seg_step Go.Proofs.YthandoangkckmaaGreatDoor.roundsNilSeg.g34 d35
theorem d33 : Go.Sx.Gd Tryz.prog Go.Sx.noTbl Go.Proofs.YthandoangkckmaaGreatDoor.roundsNilSeg.s33 := Go.Sx.seg_step Go.Proofs.YthandoangkckmaaGreatDoor.roundsNilSeg.g33 d34
theorem d32 : Go.Sx.Gd Tryz.prog Go.Sx.noTbl Go.Proofs.YthandoangkckmaaGreatDoor.roundsNilSeg.s32 := Go.Sx.seg_step Go.Proofs.YthandoangkckmaaGreatDoor.roundsNilSeg.g32 d33
theorem d31 : Go.Sx.Gd Tryz.prog Go.Sx.noTbl Go.Proofs.YthandoangkckmaaGreatDoor.roundsNilSeg.s31 := Go.Sx.seg_step Go.Proofs.YthandoangkckmaaGreatDoor.roundsNilSeg.g31 d32
theorem d30 : Go.Sx.Gd Tryz.prog Go.Sx.noTbl Go.Proofs.YthandoangkckmaaGreatDoor.roundsNilSeg.s30 := Go.Sx.seg_step Go.Proofs.YthandoangkckmaaGreatDoor.roundsNilSeg.g30 d31
theorem d29 : Go.Sx.Gd Tryz.prog Go.Sx.noTbl Go.Proofs.YthandoangkckmaaGreatDoor.roundsNilSeg.s29 := Go.Sx.seg_step Go.Proofs.YthandoangkckmaaGreatDoor.roundsNilSeg.g29 d30
theorem d28 : Go.Sx.Gd Tryz.prog Go.Sx.noTbl Go.Proofs.YthandoangkckmaaGreatDoor.roundsNilSeg.s28 := Go.Sx.seg_step Go.Proofs.YthandoangkckmaaGreatDoor.roundsNilSeg.g28 d29
theorem d27 : Go.Sx.Gd Tryz.prog Go.Sx.noTbl Go.Proofs.YthandoangkckmaaGreatDoor.roundsNilSeg.s27 := Go.Sx.seg_step Go.Proofs.YthandoangkckmaaGreatDoor.roundsNilSeg.g27 d28
theorem d26 : Go.Sx.Gd Tryz.prog Go.Sx.noTbl Go.Proofs.YthandoangkckmaaGreatDoor.roundsNilSeg.s26 := Go.Sx.seg_step Go.Proofs.YthandoangkckmaaGreatDoor.roundsNilSeg.g26 d27
theorem d25 : Go.Sx.Gd Tryz.prog Go.Sx.noTbl Go.Proofs.YthandoangkckmaaGreatDoor.roundsNilSeg.s25 := Go.Sx.seg_step Go.Proofs.YthandoangkckmaaGreatDoor.roundsNilSeg.g25 d26
theorem d24 : Go.Sx.Gd Tryz.prog Go.Sx.noTbl Go.Proofs.YthandoangkckmaaGreatDoor.roundsNilSeg.s24 := Go.Sx.seg_step Go.Proofs.YthandoangkckmaaGreatDoor.roundsNilSeg.g24 d25
theorem d23 : Go.Sx.Gd Tryz.prog Go.Sx.noTbl Go.Proofs.YthandoangkckmaaGreatDoor.roundsNilSeg.s23 := Go.Sx.seg_step Go.Proofs.YthandoangkckmaaGreatDoor.roundsNilSeg.g23 d24
theorem d22 : Go.Sx.Gd Tryz.prog Go.Sx.noTbl Go.Proofs.YthandoangkckmaaGreatDoor.roundsNilSeg.s22 := Go.Sx.seg_step Go.Proofs.YthandoangkckmaaGreatDoor.roundsNilSeg.g22 d23
theorem d21 : Go.Sx.Gd Tryz.prog Go.Sx.noTbl Go.Proofs.YthandoangkckmaaGreatDoor.roundsNilSeg.s21 := Go.Sx.seg_step Go.Proofs.YthandoangkckmaaGreatDoor.roundsNilSeg.g21 d22
theorem d20 : Go.Sx.Gd Tryz.prog Go.Sx.noTbl Go.Proofs.YthandoangkckmaaGreatDoor.roundsNilSeg.s20 := Go.Sx.seg_step Go.Proofs.YthandoangkckmaaGreatDoor.roundsNilSeg.g20 d21
theorem d19 : Go.Sx.Gd Tryz.prog Go.Sx.noTbl Go.Proofs.YthandoangkckmaaGreatDoor.roundsNilSeg.s19 := Go.Sx.seg_step Go.Proofs.YthandoangkckmaaGreatDoor.roundsNilSeg.g19 d20
theorem d18 : Go.Sx.Gd Tryz.prog Go.Sx.noTbl Go.Proofs.YthandoangkckmaaGreatDoor.roundsNilSeg.s18 := Go.Sx.seg_step Go.Proofs.YthandoangkckmaaGreatDoor.roundsNilSeg.g18 d19
theorem d17 : Go.Sx.Gd Tryz.prog Go.Sx.noTbl Go.Proofs.YthandoangkckmaaGreatDoor.roundsNilSeg.s17 := Go.Sx.seg_step Go.Proofs.YthandoangkckmaaGreatDoor.roundsNilSeg.g17 d18
theorem d16 : Go.Sx.Gd Tryz.prog Go.Sx.noTbl Go.Proofs.YthandoangkckmaaGreatDoor.roundsNilSeg.s16 := Go.Sx.seg_step Go.Proofs.YthandoangkckmaaGreatDoor.roundsNilSeg.g16 d17
theorem d15 : Go.Sx.Gd Tryz.prog Go.Sx.noTbl Go.Proofs.YthandoangkckmaaGreatDoor.roundsNilSeg.s15 := Go.Sx.seg_step Go.Proofs.YthandoangkckmaaGreatDoor.roundsNilSeg.g15 d16
theorem d14 : Go.Sx.Gd Tryz.prog Go.Sx.noTbl Go.Proofs.YthandoangkckmaaGreatDoor.roundsNilSeg.s14 := Go.Sx.seg_step Go.Proofs.YthandoangkckmaaGreatDoor.roundsNilSeg.g14 d15
theorem d13 : Go.Sx.Gd Tryz.prog Go.Sx.noTbl Go.Proofs.YthandoangkckmaaGreatDoor.roundsNilSeg.s13 := Go.Sx.seg_step Go.Proofs.YthandoangkckmaaGreatDoor.roundsNilSeg.g13 d14
theorem d12 : Go.Sx.Gd Tryz.prog Go.Sx.noTbl Go.Proofs.YthandoangkckmaaGreatDoor.roundsNilSeg.s12 := Go.Sx.seg_step Go.Proofs.YthandoangkckmaaGreatDoor.roundsNilSeg.g12 d13
theorem d11 : Go.Sx.Gd Tryz.prog Go.Sx.noTbl Go.Proofs.YthandoangkckmaaGreatDoor.roundsNilSeg.s11 := Go.Sx.seg_step Go.Proofs.YthandoangkckmaaGreatDoor.roundsNilSeg.g11 d12
theorem d10 : Go.Sx.Gd Tryz.prog Go.Sx.noTbl Go.Proofs.YthandoangkckmaaGreatDoor.roundsNilSeg.s10 := Go.Sx.seg_step Go.Proofs.YthandoangkckmaaGreatDoor.roundsNilSeg.g10 d11
theorem d9 : Go.Sx.Gd Tryz.prog Go.Sx.noTbl Go.Proofs.YthandoangkckmaaGreatDoor.roundsNilSeg.s9 := Go.Sx.seg_step Go.Proofs.YthandoangkckmaaGreatDoor.roundsNilSeg.g9 d10
theorem d8 : Go.Sx.Gd Tryz.prog Go.Sx.noTbl Go.Proofs.YthandoangkckmaaGreatDoor.roundsNilSeg.s8 := Go.Sx.seg_step Go.Proofs.YthandoangkckmaaGreatDoor.roundsNilSeg.g8 d9
theorem d7 : Go.Sx.Gd Tryz.prog Go.Sx.noTbl Go.Proofs.YthandoangkckmaaGreatDoor.roundsNilSeg.s7 := Go.Sx.seg_step Go.Proofs.YthandoangkckmaaGreatDoor.roundsNilSeg.g7 d8
theorem d6 : Go.Sx.Gd Tryz.prog Go.Sx.noTbl Go.Proofs.YthandoangkckmaaGreatDoor.roundsNilSeg.s6 := Go.Sx.seg_step Go.Proofs.YthandoangkckmaaGreatDoor.roundsNilSeg.g6 d7
theorem d5 : Go.Sx.Gd Tryz.prog Go.Sx.noTbl Go.Proofs.YthandoangkckmaaGreatDoor.roundsNilSeg.s5 := Go.Sx.seg_step Go.Proofs.YthandoangkckmaaGreatDoor.roundsNilSeg.g5 d6
theorem d4 : Go.Sx.Gd Tryz.prog Go.Sx.noTbl Go.Proofs.YthandoangkckmaaGreatDoor.roundsNilSeg.s4 := Go.Sx.seg_step Go.Proofs.YthandoangkckmaaGreatDoor.roundsNilSeg.g4 d5
theorem d3 : Go.Sx.Gd Tryz.prog Go.Sx.noTbl Go.Proofs.YthandoangkckmaaGreatDoor.roundsNilSeg.s3 := Go.Sx.seg_step Go.Proofs.YthandoangkckmaaGreatDoor.roundsNilSeg.g3 d4
theorem d2 : Go.Sx.Gd Tryz.prog Go.Sx.noTbl Go.Proofs.YthandoangkckmaaGreatDoor.roundsNilSeg.s2 := Go.Sx.seg_step Go.Proofs.YthandoangkckmaaGreatDoor.roundsNilSeg.g2 d3
theorem d1 : Go.Sx.Gd Tryz.prog Go.Sx.noTbl Go.Proofs.YthandoangkckmaaGreatDoor.roundsNilSeg.s1 := Go.Sx.seg_step Go.Proofs.YthandoangkckmaaGreatDoor.roundsNilSeg.g1 d2
theorem d0 : Go.Sx.Gd Tryz.prog Go.Sx.noTbl Go.Proofs.YthandoangkckmaaGreatDoor.roundsNilSeg.s0 := Go.Sx.seg_step Go.Proofs.YthandoangkckmaaGreatDoor.roundsNilSeg.g0 d1
theorem walk (w : World) : Calls Tryz.prog 3 #[] w fun e w' => e = .returned (.bool true) ∧ Below w.heap.size w w' :=
  Go.Sx.closed_seg mixed Go.Proofs.YthandoangkckmaaGreatDoor.roundsNilSeg.start d0 w

set_option maxRecDepth 100000 in
theorem contract (H : Type) (enc : TypeId × Value → H) (W : World) (base : Nat) (args : Array Value) (ds gs : List (DataW H)) (before : List MemPlace)
    (hval0 : ∀ (j : Nat) t v, Tryz.f3.params[j]? = some t → args[j]? = some v → Value.okWide Tryz.prog W .any base t v)
    (hW : DataW.Whole enc Tryz.prog Tryz.f3.params.toList Rows.roundsNilSpec.vars false W args.toList ds gs before) :
    Calls Tryz.prog 3 args W fun e W' => ∃ v, e = .returned v ∧ Rows.roundsNilSpec.post enc Tryz.prog Tryz.f3 false true false false W args v W' := by
  have hval : ∀ (j : Nat) t v, Tryz.f3.params[j]? = some t → args[j]? = some v → Value.okWide Tryz.prog W .any base t v := hval0
  have hW' := hW
  obtain ⟨p, q, hA0, hV, rfl, hfz, hnd⟩ := hW
  have hA : DataW.TrodAll enc Tryz.prog W 0 (fun _ => true) true Tryz.f3.params.toList args.toList ds p := hA0
  rw [Tryz.params3] at hA hval
  obtain ⟨rfl, rfl, rfl⟩ := trodAll_none hA
  obtain ⟨rfl, rfl⟩ := trodVars_none hV
  clear hA0 hval0
  simp only [List.append_nil] at hW'
  refine (walk W).mono fun e W' ⟨he, hg⟩ => ?_
  subst he
  exact ⟨_, rfl, Go.Sx.law_post (places := []) hW' (fun _ _ _ => (trodAll_cons_mk (shut_bool Tryz.underlying4 _) trodAll_mk0)) (fun sp _ => rfl) (fun _ _ => rfl) rfl
    hg (ok_one (by kernel_rfl) rfl (okWide_bool_mk Tryz.underlying4 _))⟩

set_option maxRecDepth 100000 in
theorem lifted (os : Os) (started : os.Started) (H : Type) (enc : TypeId × Value → H) :
    ReturnsInHanded {} Tryz.checked os 3 .any (fun w args => (Rows.roundsNilSpec.pre enc Tryz.prog Tryz.f3 [] false w args ∧ laidMetH Tryz.prog Rows.roundsNilRow.laid w) ∧ sizedMet enc Tryz.prog Tryz.f3 (OpenSpec.ofChange Rows.roundsNilSpec) false w args)
      (Rows.roundsNilSpec.post enc Tryz.prog Tryz.f3 false true false false) := by
  refine returnsInHanded_of_change_and (C := Tryz.checked) (X := fun w _ => laidMetH Tryz.prog Rows.roundsNilRow.laid w) (fun _ _ _ hh h => h.of_heap hh) own started (by kernel_rfl) Tryz.func3
    (ChangeSpec.witness_shaped (enc := enc) (C := Tryz.checked) (os := os) (X := fun w _ => laidMetH Tryz.prog Rows.roundsNilRow.laid w) false (World.laidAll Tryz.prog os Rows.roundsNilRow.laid) #[] 8 (World.laidAll_os _ _ _)
      (World.shaped_of_ZipB (by kernel_rfl) (by kernel_rfl)) (by kernel_rfl) (by kernel_rfl) (by kernel_rfl)
      (by rw [MakeChecks.laidMetH_plain _ _ _ (by kernel_rfl)]; exact laidMet_laidAll _ (by kernel_rfl) (by kernel_rfl))) ?_
  intro W base args ds gs before hval0 hW _ _ _ _
  exact contract H enc W base args ds gs before hval0 hW

theorem said : Rows.RoundsNilSaid :=
  OpenClaim.holds_of_wide 3 Tryz.f3 rfl rfl rfl rfl rfl rfl rfl ⟨rfl, rfl, rfl, rfl, rfl⟩ rfl rfl rfl rfl rfl (by kernel_rfl) Tryz.func3 facts
    (of_decide_eq_true (by kernel_rfl)) (by unfold Func.isWrapper; first | (rw [if_pos (by decide +kernel)]; kernel_rfl) | (rw [if_neg (by decide +kernel)]; exact ⟨rfl, rfl⟩))
    (fun os started H enc _ => lifted os started H enc)

theorem plain (f : FuncId) (fn : Func) (hf : Tryz.pinned.checked.prog.funcNamed "millpond/millpondlaw24.RoundsNil" = some f) (hfn : Tryz.pinned.checked.prog.funcs[f]? = some fn) :
    true = Tryz.pinned.checked.prog.looks [] ∧ ∀ (j : Nat) t, fn.params[j]? = some t → Tryz.pinned.checked.prog.wantsStandIn t = false := by
  obtain rfl : f = 3 := Option.some.inj ((show Tryz.prog.funcNamed "millpond/millpondlaw24.RoundsNil" = some 3 by kernel_rfl).symm.trans hf) |>.symm
  obtain rfl : fn = Tryz.f3 := (Option.some.inj (Tryz.func3.symm.trans hfn)).symm
  refine ⟨by kernel_rfl, fun j t ht => ?_⟩
  rw [Tryz.params3] at ht
  simp at ht

theorem cardText : Rows.roundsNilRow.wfByText (OpenSpec.ofChange Rows.roundsNilSpec) = true := by kernel_rfl
theorem cardMain : Tryz.pinned.checked.prog.mainIs = some (Rows.roundsNilCard.stood.harness.1, Rows.roundsNilCard.stood.harness.2.toList) := by kernel_rfl
/-- No function's text starts a goroutine: nor does the call. -/
theorem goes_none {P : Program} (h : P.funcs.toList.any Func.goes = false) {c : OpenClaim} (hs : c.start = .entering) : false = c.goesBy P := by
  have hall : ∀ fn ∈ P.funcs.toList, Func.goes fn = false := fun fn hm => by
    cases hg : Func.goes fn with
    | false => rfl
    | true => rw [List.any_eq_true.2 ⟨fn, hm, hg⟩] at h; cases h
  have h1 : P.funcs.any Func.goes = false := by rw [← Array.any_toList]; exact h
  have hg : ∀ g : Nat, (P.funcs[g]?).any Func.goes = false := fun g => by
    cases hx : P.funcs[g]? with
    | none => rfl
    | some fn => exact hall fn (by rw [Array.mem_toList_iff]; exact Array.mem_of_getElem? hx)
  have hf : ∀ f, P.goes f = false := fun f => by
    unfold Program.goes
    simp only [hg, h1, Bool.and_false, Bool.or_false]
    simp
  unfold OpenClaim.goesBy Program.goesAt Program.goesFrom
  rw [hs]
  cases P.funcNamed c.func with
  | none => rfl
  | some f => simp [hf f]
theorem noGo : Tryz.prog.funcs.toList.any Func.goes = false := by kernel_rfl
theorem cardGoes : false = Rows.roundsNilRow.goesBy Tryz.pinned.checked.prog := goes_none (P := Tryz.prog) noGo rfl
theorem card : Rows.RoundsNilCardSaid :=
  Claim7.holds_tied_plain_at .later [] _ _ _ _ said (fun _ h => by cases h) cardText (fun _ h => by cases h) roundsNil_row_tie rfl ⟨rfl, rfl⟩ cardMain rfl plain cardGoes
end Go.Proofs.YthandoangkckmaaGreatDoor.roundsNil
namespace Go.Proofs.YthandoangkckmaaGreatDoor
theorem roundsNil_proved : Rows.RoundsNilCardSaid := roundsNil.card
#print axioms roundsNil_proved
end Go.Proofs.YthandoangkckmaaGreatDoor

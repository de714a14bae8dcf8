import Derived.Test.YthandoangkckmaaGreatDoorSx17
import Derived.ProofKit
import Derived.ChangeSame
namespace Go.Sx
open Go.RowKit Go.WideShapes Go.ChangeShapes
section
variable {H : Type} {enc : TypeId × Value → H} {P : Program}
/-- The last step of a law's row where the call is known to have turned nothing that was there. -/
theorem law_post {f : Func} {s : ChangeSpec} {apart fresh handsOn again : Bool} {W W' : World} {args : Array Value} {v : Value} {ds gs : List (DataW H)} {seen places : List MemPlace}
    (whole : DataW.Whole enc P f.params.toList s.vars apart W args.toList ds gs seen)
    (res : ∀ (b : Nat) (sp : Nat → Bool) (hd : Bool), DataW.TrodAll enc P W' b sp hd f.resultTypes.toList (v.resultList f.resultTypes.size) (s.fn H (ds ++ gs)).results [])
    (arg : ∀ sp : Nat → Bool, (∀ p ∈ seen, sp p.block = true) → DataW.TrodAll enc P W' 0 sp true f.params.toList args.toList (s.fn H (ds ++ gs)).args places)
    (var : ∀ sp : Nat → Bool, (∀ p ∈ seen, sp p.block = true) → DataW.TrodVars enc P W' sp s.vars (s.fn H (ds ++ gs)).vars [])
    (eq : seen = places) (below : Below W.heap.size W W')
    (ok : ∀ (j : Nat) (t : TypeId) (r : Value), f.resultTypes[j]? = some t → (v.resultList f.resultTypes.size)[j]? = some r → Value.okWide P W' .any 0 t r) :
    s.post enc P f apart fresh handsOn again W args v W' := by
  subst eq
  have old : ∀ p ∈ seen, p.block < W.heap.size := fun p hp => whole.lt p hp
  have spOld : ∀ p ∈ seen, (fun b => decide (b < W.heap.size)) p.block = true := fun p hp => by simpa using old p hp
  obtain ⟨_, _, _, _, _, frozen, nodup⟩ := id whole
  have args2 := arg (fun _ => true) (fun _ _ => rfl)
  have vars2 := var (fun _ => true) (fun _ _ => rfl)
  refine ⟨ds, gs, seen, [], seen, [], whole, res _ _ _, arg _ spOld, var _ spOld, World.keptBut_mono (fun p hp => ⟨hp, Or.inr (Or.inl hp)⟩) (below.frame (· ∈ seen)), fun _ => ?_⟩
  refine ⟨ok, _, _, ([] ++ seen) ++ [], ⟨[] ++ seen, [], trodAll_append args2 (res _ _ _), vars2, rfl, fun b off hp => ?_, fun ha => ?_⟩, fun p hp _ => ?_⟩
  · have hin : MemPlace.cell b off ∈ seen := by simpa using hp
    rw [below.frozen (old _ hin)]
    exact frozen b off hin
  · simpa using nodup ha
  · simpa using hp
end
end Go.Sx

/- The directory's method pages: the sorted keys of its map, in a new row, whatever the map of at most 1000 entries. -/
import Derived.Test.YtjpgnjaobfbojaaLay
import Derived.Test.YtjpgnjaobfbojaaSx45
import Derived.OwnWalkIn
namespace Go.Proofs.Ytjpgnjaobfbojaa
open Go.RowKit Go.Maps Go.Sort Go.Shelf Go.Sx

theorem sortsP {Fe : Fence} (hW : Wd Fe) (m : Nat) : AnyZI.SortsIn Try.prog Try.sortedP_ren Fe m :=
  ⟨fun blk off cap ss W hH hblk hsz => callsIn_every hW fun D => AnySM.slices_Sort_int_in Try.sortP D blk off cap ss W hH hblk hsz,
   fun p cap W => callsIn_every hW fun D => AnySM.slices_Sort_int_none_in Try.sortP D p cap W⟩

set_option maxRecDepth 100000 in
theorem is_nil {Fe : Fence} (hW : Wd Fe) (hro : Fe.round = none) (n : Nat) (w : World) : CallsIn Fe n Try.prog 74 #[.pointer none] w fun e w' => e = .returned (.bool false) ∧ w' = w := by
  refine callsIn_of_wp Try.func74 rfl (hW.1 _) ?_ hro
  simp only [Try.ntmps74, List.size_toArray, List.length_cons, List.length_nil, Nat.reduceAdd, Nat.reduceSub, Array.replicate_succ, Array.replicate_zero, List.push_toArray, List.append_toArray, List.nil_append, List.cons_append]
  gi_wp2
  go_ret
  exact ⟨rfl, rfl⟩
set_option maxRecDepth 100000 in
theorem is_map {Fe : Fence} (hW : Wd Fe) (hro : Fe.round = none) (n : Nat) (w : World) (a : Addr) (mb : Option Nat) (hcell : w.cell? a = some (.map mb)) : CallsIn Fe n Try.prog 74 #[.pointer (some a)] w fun e w' => e = .returned (.bool mb.isSome) ∧ w' = w := by
  cases mb with
  | none =>
    have hq : ∀ w, (binOp .neq 90 (.map none) (.map none)).run Try.prog w = .ok (.bool false) w := fun w => by kernel_rfl
    refine callsIn_of_wp Try.func74 rfl (hW.1 _) ?_ hro
    simp only [Try.ntmps74, List.size_toArray, List.length_cons, List.length_nil, Nat.reduceAdd, Nat.reduceSub, Array.replicate_succ, Array.replicate_zero, List.push_toArray, List.append_toArray, List.nil_append, List.cons_append]
    gi_wp2
    go_ret
    exact ⟨rfl, rfl⟩
  | some b =>
    have hq : ∀ w, (binOp .neq 90 (.map (some b)) (.map none)).run Try.prog w = .ok (.bool true) w := fun w => by kernel_rfl
    refine callsIn_of_wp Try.func74 rfl (hW.1 _) ?_ hro
    simp only [Try.ntmps74, List.size_toArray, List.length_cons, List.length_nil, Nat.reduceAdd, Nat.reduceSub, Array.replicate_succ, Array.replicate_zero, List.push_toArray, List.append_toArray, List.nil_append, List.cons_append]
    gi_wp2
    go_ret
    exact ⟨rfl, rfl⟩
theorem pages_nil {Fe : Fence} (hW : Wd Fe) (hro : Fe.round = none) (w : World) : CallsIn Fe 8 Try.prog 82 #[.pointer none] w fun e w' => e = .returned (.slice none 0 0) ∧ Below w.heap.size w w' := by
  have cI := is_nil hW hro 7 w
  have hf74 := hW.1 74
  refine callsIn_of_wp Try.func82 rfl (hW.1 _) ?_ hro
  simp only [Try.ntmps82, List.size_toArray, List.length_cons, List.length_nil, Nat.reduceAdd, Nat.reduceSub, Array.replicate_succ, Array.replicate_zero, List.push_toArray, List.append_toArray, List.nil_append, List.cons_append]
  gi_wp2_with (gi_at_call 74; refine cI.mono ?_; rintro e w' ⟨rfl, rfl⟩)
  go_ret
  exact ⟨rfl, Below.refl _ _⟩
theorem pages_none {Fe : Fence} (hW : Wd Fe) (hro : Fe.round = none) (w : World) (a : Addr) (hcell : w.cell? a = some (.map none)) : CallsIn Fe 8 Try.prog 82 #[.pointer (some a)] w fun e w' => e = .returned (.slice none 0 0) ∧ Below w.heap.size w w' := by
  have cI := is_map hW hro 7 w a none hcell
  have hf74 := hW.1 74
  refine callsIn_of_wp Try.func82 rfl (hW.1 _) ?_ hro
  simp only [Try.ntmps82, List.size_toArray, List.length_cons, List.length_nil, Nat.reduceAdd, Nat.reduceSub, Array.replicate_succ, Array.replicate_zero, List.push_toArray, List.append_toArray, List.nil_append, List.cons_append]
  gi_wp2_with (gi_at_call 74; refine cI.mono ?_; rintro e w' ⟨rfl, rfl⟩)
  go_ret
  exact ⟨rfl, Below.refl _ _⟩
set_option maxHeartbeats 1000000 in
theorem pages_some {Fe : Fence} (hW : Wd Fe) (hro : Fe.round = none) (w : World) (a : Addr) (b nn : Nat) (D0 : DataW Unit) (hcell : w.cell? a = some (.map (some b))) (hown : w.ownsMap Try.prog 3 (fun _ => some (.nil, [])) b nn D0) (hsz : Maps.size D0 ≤ 1000) :
    CallsIn Fe 8 Try.prog 82 #[.pointer (some a)] w fun e w' => ∃ (v : Value) (ss : List Int), e = .returned v ∧ ss.Perm (intKeys D0) ∧
      w'.ownsRow w.heap.size 3 1 v ss.length ((ss.mergeSort leI).map encZ) ∧ (v = .slice none 0 0 ↔ ss = []) ∧ Below w.heap.size w w' := by
  have hbl := hown.lt
  have hmax : Maps.size D0 ≤ maxLen := by unfold maxLen; omega
  have hbytes : Maps.size D0 * 8 ≤ 140737488355328 := by omega
  have hseq : SeqGives Fe 4 Try.prog 110 #[.pointer (some ⟨w.heap.size, 0, none⟩)] encZ (fun ss => ss.Perm (intKeys D0)) (Maps.size D0) (w.alloc (.cells #[.map (some b)] 90)) :=
    AnyZI.keys_gives (ρ := Try.keysP_ren) { Try.keysP with } Fe _ (hW.1 _) hro (by omega) w.heap.size b nn D0 _ (by simp) (by simp) (by
      obtain ⟨es, clock, hb, Ft, hs, hD⟩ := hown
      exact ⟨es, clock, (Below.heap_alloc _ _ b hbl).trans hb, Ft, hs, hD⟩)
  have cI := is_map hW hro 7 w a (some b) hcell
  have cK : ∀ mb W, CallsIn Fe 7 Try.prog 100 #[.map mb] W fun e w' => e = .returned (.func (.func 110) #[] #[.pointer (some ⟨W.heap.size, 0, none⟩)]) ∧ w' = W.alloc (.cells #[.map mb] 90) := fun mb W => AnyZI.keys_in Try.keysP Fe 7 (hW.1 _) hro mb W
  have cS := AnyZI.sorted_in Try.sortedP Fe 7 (hW.1 _) (hW.1 _) (hW.1 _) (hW.1 _) hro (by omega) (sortsP hW _) (enters_of Try.func109 (by kernel_rfl) rfl) 110 #[.pointer (some ⟨w.heap.size, 0, none⟩)] (hW.1 _) (enters_of Try.func110 (by kernel_rfl) rfl) _ _ hmax hbytes _ hseq
  change CallsIn _ _ Try.prog 99 _ _ _ at cS
  have hf74 := hW.1 74
  have hf99 := hW.1 99
  have hf100 := hW.1 100
  refine callsIn_of_wp Try.func82 rfl (hW.1 _) ?_ hro
  simp only [Try.ntmps82, List.size_toArray, List.length_cons, List.length_nil, Nat.reduceAdd, Nat.reduceSub, Array.replicate_succ, Array.replicate_zero, List.push_toArray, List.append_toArray, List.nil_append, List.cons_append]
  gi_wp2_with (first
    | (gi_at_call 74; refine cI.mono ?_; rintro e w' ⟨rfl, rfl⟩)
    | (gi_at_call 100; refine (cK _ _).mono ?_; rintro e w' ⟨rfl, rfl⟩)
    | (gi_at_call 99; refine cS.mono ?_; rintro e w' ⟨v, ss, rfl, hS, hrow, hnil, hb⟩))
  go_ret
  exact ⟨v, ss, rfl, hS, ownsRow_base_a hrow (by simp), hnil, ((Below.refl _ _).alloc (Nat.le_refl _) _).trans (hb.mono (by simp))⟩
theorem pagesC : PagesC Try.prog 82 3 3 := ⟨⟨_, _, Try.func82, by kernel_rfl, rfl⟩, by kernel_rfl, fun n hn => by
    have : sizeB Try.prog 3 = some 1 := by kernel_rfl
    rw [this] at hn
    exact (Option.some.inj hn).symm, fun _ w hW hro => pages_nil hW hro w, fun _ w a hW hro h => pages_none hW hro w a h, fun _ w a b nn D0 hW hro h1 h2 h3 => pages_some hW hro w a b nn D0 h1 h2 h3⟩
end Go.Proofs.Ytjpgnjaobfbojaa

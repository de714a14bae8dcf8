import Derived.Test.YthandoangkckmaaGreatDoorSx19
namespace Go.Sx

/-! ## What is touched is there, or is made -/
def Ev.id : Ev → Nat
  | .cell i _ _ => i
  | .info i => i
  | .row i _ => i
structure Tch (c : Nat) (h : Heap) (c' : Nat) (h' : Heap) (L : Lg) : Prop where
  le : c ≤ c'
  made : ∀ i, h'.get i ≠ none → h.get i ≠ none ∨ (c ≤ i ∧ i < c')
  kept : ∀ i, h.get i ≠ none → h'.get i ≠ none
  ev : ∀ e, L.mem e → h.get e.id ≠ none ∨ c ≤ e.id
/-- A computation touches what is there, and what it makes. -/
def Touch {α : Type} (m : M α) : Prop := ∀ c h a c' h' L, m c h = .ok a c' h' L → Tch c h c' h' L
theorem Tch.same {c : Nat} {h : Heap} {L : Lg} (he : ∀ e, L.mem e → h.get e.id ≠ none) : Tch c h c h L := ⟨Nat.le_refl _, fun _ h => .inl h, fun _ h => h, fun e m => .inl (he e m)⟩
theorem Tch.set {c : Nat} {h : Heap} {L : Lg} {i : Nat} {o : AObj} (hi : h.get i ≠ none) (he : ∀ e, L.mem e → e.id = i) : Tch c h c (h.set i o) L :=
  ⟨Nat.le_refl _, fun j hj => by
    by_cases h1 : j = i
    · subst h1; exact .inl hi
    · rw [Tr.get_set_ne _ _ h1] at hj; exact .inl hj,
   fun j hj => by
    by_cases h1 : j = i
    · subst h1; rw [Tr.get_set_self]; simp
    · rw [Tr.get_set_ne _ _ h1]; exact hj,
   fun e m => .inl (by rw [he e m]; exact hi)⟩
theorem Tch.trans {c c1 c2 : Nat} {h h1 h2 : Heap} {l1 l2 : Lg} (a : Tch c h c1 h1 l1) (b : Tch c1 h1 c2 h2 l2) : Tch c h c2 h2 (.app l1 l2) :=
  ⟨Nat.le_trans a.le b.le, fun i hi => by
    rcases b.made i hi with h3 | h3
    · rcases a.made i h3 with h4 | h4
      · exact .inl h4
      · exact .inr ⟨h4.1, Nat.lt_of_lt_of_le h4.2 b.le⟩
    · exact .inr ⟨Nat.le_trans a.le h3.1, h3.2⟩,
   fun i hi => b.kept i (a.kept i hi),
   fun e m => by
    rcases m with m | m
    · exact a.ev e m
    · rcases b.ev e m with h3 | h3
      · rcases a.made _ h3 with h4 | h4
        · exact .inl h4
        · exact .inr h4.1
      · exact .inr (Nat.le_trans a.le h3)⟩
theorem Touch.pure {α : Type} (a : α) : Touch (M.pure a) := by
  intro c h b c' h' L hh
  obtain ⟨rfl, rfl, rfl, rfl⟩ := pure_ok.1 hh
  exact Tch.same fun e m => m.elim
theorem Touch.bad {α : Type} (n : Nat) : Touch (M.bad n : M α) := fun _c _h _b _c' _h' _L hh => (bad_ok.1 hh).elim
theorem Touch.opt {α : Type} (n : Nat) (o : Option α) : Touch (optM n o) := by
  cases o with
  | none => exact Touch.bad n
  | some a => exact Touch.pure a
theorem Touch.guard (n : Nat) (b : Bool) : Touch (guardM n b) := by
  cases b with
  | false => exact Touch.bad n
  | true => exact Touch.pure ()
theorem Touch.bindL {α β : Type} {m : M α} {f : α → Lg → M β} (hm : Touch m) (hf : ∀ a l, Touch (f a l)) : Touch (Sx.bindL m f) := by
  intro c h b c' h' L hh
  obtain ⟨a, c1, h1, l1, l2, h2, h3, rfl⟩ := bindL_ok.1 hh
  exact (hm _ _ _ _ _ _ h2).trans (hf a l1 _ _ _ _ _ _ h3)
theorem Touch.bind {α β : Type} {m : M α} {f : α → M β} (hm : Touch m) (hf : ∀ a, Touch (f a)) : Touch (M.bind m f) := Touch.bindL (f := fun a _ => f a) hm (fun a _ => hf a)
theorem mem_one {e f : Ev} : (Lg.one f).mem e ↔ e = f := Iff.rfl
theorem Touch.rd (i k : Nat) : Touch (rd i k) := by
  intro c h v c' h' L hh
  obtain ⟨q1, q2, q3, T, cs, ro, hi, hk⟩ := rd_inv hh
  subst q1 q2 q3
  exact Tch.same fun e m => by cases m; simp [Ev.id, hi]
theorem Touch.wr (i k : Nat) (v : Value) : Touch (wr i k v) := by
  intro c h u c' h' L hh
  obtain ⟨q1, q2, ho, T, cs, u0, hi, hk, q3⟩ := wr_inv hh
  subst q1 q2 q3
  exact Tch.set (by simp [hi]) fun e m => by rcases m with m | m <;> cases m <;> rfl
theorem Touch.info (i : Nat) : Touch (info i) := by
  intro c h r c' h' L hh
  unfold Sx.info at hh
  split at hh
  · rename_i T cs ro hi
    cases hh
    exact Tch.same fun e m => by cases m; simp [Ev.id, hi]
  · cases hh
theorem Touch.newA (o : AObj) : Touch (newA o) := by
  intro c h j c' h' L hh
  obtain ⟨q1, q2, hn, q3, q4⟩ := newA_inv hh
  subst q1 q2 q3 q4
  exact ⟨Nat.le_succ _, fun i hi => by
    by_cases h1 : i = j
    · subst h1; exact .inr ⟨Nat.le_refl _, Nat.lt_succ_self _⟩
    · rw [Tr.get_set_ne _ _ h1] at hi; exact .inl hi,
   fun i hi => by
    by_cases h1 : i = j
    · subst h1; rw [Tr.get_set_self]; simp
    · rw [Tr.get_set_ne _ _ h1]; exact hi,
   fun e m => by cases m; exact .inr (Nat.le_refl _)⟩
theorem Touch.killA (i : Nat) : Touch (killA i) := by
  intro c h u c' h' L hh
  unfold Sx.killA at hh
  split at hh
  · rename_i T cs hi
    cases hh
    exact Tch.set (by simp [hi]) fun e m => by cases m; rfl
  · cases hh
theorem Touch.growA (i : Nat) (T : TypeId) (new : List Value) : Touch (growA i T new) := by
  intro c h j c' h' L hh
  obtain ⟨q1, q2, q3, cs, hi, hn, q4⟩ := growA_inv hh
  subst q1 q2 q3 q4
  have hne : j ≠ i := fun e => by rw [e, hi] at hn; cases hn
  refine ⟨Nat.le_succ _, fun m hm => ?_, fun m hm => ?_, fun e m => ?_⟩
  · by_cases h1 : m = j
    · subst h1; exact .inr ⟨Nat.le_refl _, Nat.lt_succ_self _⟩
    · rw [Tr.get_set_ne _ _ h1] at hm
      by_cases h2 : m = i
      · subst h2; exact .inl (by simp [hi])
      · rw [Tr.get_set_ne _ _ h2] at hm; exact .inl hm
  · by_cases h1 : m = j
    · subst h1; rw [Tr.get_set_self]; simp
    · rw [Tr.get_set_ne _ _ h1]
      by_cases h2 : m = i
      · subst h2; rw [Tr.get_set_self]; simp
      · rw [Tr.get_set_ne _ _ h2]; exact hm
  · rcases m with m | m <;> cases m
    · exact .inl (by simp [Ev.id, hi])
    · exact .inr (Nat.le_refl _)
theorem Touch.mapGet (i : Nat) : Touch (mapGet i) := by
  intro c h r c' h' L hh
  unfold Sx.mapGet at hh
  split at hh
  · rename_i es hi
    cases hh
    exact Tch.same fun e m => by cases m; simp [Ev.id, hi]
  · cases hh
theorem Touch.mapSet (i : Nat) (es : List (Value × Value)) (bs : List Nat) (clk : Nat) : Touch (mapSet i es bs clk) := by
  intro c h r c' h' L hh
  unfold Sx.mapSet at hh
  split at hh
  · rename_i hi
    cases hh
    exact Tch.set (by simp [hi]) fun e m => by cases m; rfl
  · cases hh
theorem Touch.iterGet (i : Nat) : Touch (iterGet i) := by
  intro c h r c' h' L hh
  unfold Sx.iterGet at hh
  split at hh
  · rename_i hi
    cases hh
    exact Tch.same fun e m => by cases m; simp [Ev.id, hi]
  · cases hh
theorem Touch.iterSet (i : Nat) (m : Option Nat) (since : Nat) (seen : List Nat) (last : Nat) : Touch (iterSet i m since seen last) := by
  intro c h r c' h' L hh
  unfold Sx.iterSet at hh
  split at hh
  · rename_i hi
    cases hh
    exact Tch.set (by simp [hi]) fun e m => by cases m; rfl
  · cases hh
theorem Touch.rdN (i : Nat) : ∀ (n o : Nat), Touch (rdN i o n)
  | 0, _o => Touch.pure []
  | n + 1, o => Touch.bind (Touch.rd i o) fun _ => Touch.bind (Touch.rdN i n (o + 1)) fun _ => Touch.pure _
theorem Touch.wrN (i : Nat) : ∀ (vs : List Value) (o : Nat), Touch (wrN i o vs)
  | [], _o => Touch.pure ()
  | v :: vs, o => Touch.bind (Touch.wr i o v) fun _ => Touch.wrN i vs (o + 1)
theorem Touch.rdB (i o n : Nat) : Touch (rdB i o n) := by rw [rdB_eq]; exact Touch.rdN i n o
theorem Touch.wrB (i o : Nat) (vs : List Value) : Touch (wrB i o vs) := by rw [wrB_eq]; exact Touch.wrN i vs o
theorem Touch.lpGet (i : Nat) : Touch (lpGet i) := by
  intro c h r c' h' L hh
  unfold Sx.lpGet at hh
  split at hh
  · rename_i hi
    cases hh
    exact Tch.same fun e m => by cases m; simp [Ev.id, hi]
  · cases hh
theorem Touch.lpSet (i : Nat) (st : LoopState) (pe : Option Code) : Touch (lpSet i st pe) := by
  intro c h u c' h' L hh
  unfold Sx.lpSet at hh
  split at hh
  · rename_i hi
    cases hh
    exact Tch.set (by simp [hi]) fun e m => by cases m; rfl
  · cases hh
theorem Touch.takeA (i : Nat) : Touch (takeA i) := by
  intro c h u c' h' L hh
  unfold Sx.takeA at hh
  split at hh
  · rename_i hi
    cases hh
    exact Tch.set (by simp [hi]) fun e m => by cases m; rfl
  · cases hh
theorem Touch.swapA (a : Nat) (o o' : AObj) : Touch (swapA a o o') := by
  intro c h u c' h' L hh
  unfold Sx.swapA at hh
  split at hh
  · rename_i x hx
    cases hm : matchO o x with
    | false => rw [hm] at hh; cases hh
    | true =>
      rw [hm] at hh
      cases hh
      exact Tch.set (by simp [hx]) fun e m => by cases m; rfl
  · cases hh
theorem Touch.seeA (a : Nat) (o : AObj) : Touch (seeA a o) := by
  intro c h u c' h' L hh
  unfold Sx.seeA at hh
  split at hh
  · rename_i x hx
    cases hm : matchO o x with
    | false => rw [hm] at hh; cases hh
    | true =>
      rw [hm] at hh
      cases hh
      exact Tch.same fun e m => by cases m; simp [Ev.id, hx]
  · cases hh
theorem Touch.liveA (a : Nat) : Touch (liveA a) := by
  intro c h u c' h' L hh
  unfold Sx.liveA at hh
  split at hh
  · rename_i x hx
    cases hh
    exact Tch.same fun e m => by cases m; simp [Ev.id, hx]
  · cases hh
theorem Touch.eval (f : Fr) (x : Operand) : Touch (f.eval x) := by
  cases x with
  | tmp t => exact Touch.opt _ _
  | const v =>
    simp only [Fr.eval]
    cases cleanB v
    · exact Touch.bad _
    · exact Touch.pure _
  | global g => exact Touch.bad _
  | func g => exact Touch.pure _
theorem Touch.evalL (f : Fr) : ∀ (xs : List Operand), Touch (evalL f xs)
  | [] => Touch.pure _
  | x :: xs => Touch.bind (Touch.eval f x) fun _ => Touch.bind (Touch.evalL f xs) fun _ => Touch.pure _
theorem Touch.pairsL (f : Fr) : ∀ (xs : List (Nat × Operand)), Touch (pairsL f xs)
  | [] => Touch.pure _
  | (_, x) :: xs => Touch.bind (Touch.eval f x) fun _ => Touch.bind (Touch.pairsL f xs) fun _ => Touch.pure _
theorem Touch.evalO (f : Fr) : ∀ (x : Option Operand), Touch (evalO f x)
  | none => Touch.pure _
  | some x => Touch.bind (Touch.eval f x) fun _ => Touch.pure _
theorem Touch.loadA (P : Program) (t : TypeId) (a : Value) : Touch (loadA P t a) := by
  unfold Sx.loadA
  split
  · refine Touch.bind (Touch.opt _ _) fun b => ?_
    cases b
    · exact Touch.rd _ _
    · exact Touch.bind (Touch.opt _ _) fun _ => Touch.bind (Touch.rdB _ _ _) fun _ => Touch.pure _
  · exact Touch.bad _
theorem Touch.storeA (P : Program) (t : TypeId) (a v : Value) : Touch (storeA P t a v) := by
  unfold Sx.storeA
  split
  · exact Touch.bind (Touch.opt _ _) fun _ => Touch.bind (Touch.guard _ _) fun _ => Touch.wrB _ _ _
  · exact Touch.bad _
theorem Touch.newRowA (T : TypeId) (cs : List Value) : Touch (newRowA T cs) := Touch.bind (Touch.guard _ _) fun _ => Touch.bind (Touch.newA _) fun _ => Touch.pure _
theorem Touch.buildSliceA (P : Program) (t : TypeId) (n : Nat) (ps : List (Nat × Value)) : Touch (buildSliceA P t n ps) :=
  Touch.bind (Touch.opt _ _) fun _ => Touch.bind (Touch.opt _ _) fun _ => Touch.bind (Touch.guard _ _) fun _ => Touch.bind (Touch.opt _ _) fun _ => Touch.bind (Touch.guard _ _) fun _ => Touch.bind (Touch.opt _ _) fun _ =>
    Touch.bind (Touch.guard _ _) fun _ => Touch.bind (Touch.newA _) fun _ => Touch.pure _
theorem Touch.srcCells (n s : Nat) (x : Value) : Touch (srcCells n s x) := by
  unfold Sx.srcCells
  split
  · exact Touch.rdB _ _ _
  · exact Touch.pure _
  · rename_i b
    cases Nat.beq s 1
    · exact Touch.bad _
    · exact Touch.pure _
  · exact Touch.bad _
theorem Touch.ite {α : Type} {b : Bool} {x y : M α} (hx : Touch x) (hy : Touch y) : Touch (bif b then x else y) := by cases b; exact hy; exact hx
theorem Touch.appendA (P : Program) (ats : List TypeId) (args : List Value) : Touch (appendA P ats args) := by
  unfold Sx.appendA
  split
  · refine Touch.bind (Touch.opt _ _) fun _ => Touch.bind (Touch.opt _ _) fun _ => Touch.bind (Touch.opt _ _) fun _ => Touch.bind (Touch.opt _ _) fun _ => Touch.bind (Touch.guard _ _) fun _ => Touch.bind (Touch.opt _ _) fun _ => ?_
    refine Touch.ite (Touch.pure _) (Touch.bind (Touch.guard _ _) fun _ => Touch.bind (Touch.srcCells _ _ _) fun _ => Touch.bind (Touch.guard _ _) fun _ => ?_)
    split
    · exact Touch.bind (Touch.newA _) fun _ => Touch.pure _
    · refine Touch.ite (Touch.ite (Touch.bind (Touch.wrB _ _ _) fun _ => Touch.pure _) (Touch.bind (Touch.rdB _ _ _) fun _ => Touch.bind (Touch.guard _ _) fun _ => Touch.bind (Touch.newA _) fun _ => Touch.pure _)) ?_
      refine Touch.bind (Touch.info _) fun x => ?_
      refine Touch.ite (Touch.bind (Touch.wrB _ _ _) fun _ => Touch.pure _) ?_
      exact Touch.bind (Touch.guard _ _) fun _ => Touch.ite (Touch.bind (Touch.growA _ _ _) fun _ => Touch.pure _) (Touch.bind (Touch.rdB _ _ _) fun _ => Touch.bind (Touch.guard _ _) fun _ => Touch.bind (Touch.killA _) fun _ => Touch.bind (Touch.newA _) fun _ => Touch.pure _)
    · exact Touch.bad _
  · exact Touch.bad _
theorem Touch.copyA (P : Program) (ats : List TypeId) (args : List Value) : Touch (copyA P ats args) := by
  unfold Sx.copyA
  split
  · refine Touch.bind (Touch.opt _ _) fun _ => Touch.bind (Touch.opt _ _) fun _ => Touch.bind (Touch.opt _ _) fun _ => Touch.bind (Touch.srcCells _ _ _) fun _ => ?_
    split
    · exact Touch.pure _
    · exact Touch.bind (Touch.wrB _ _ _) fun _ => Touch.pure _
    · exact Touch.bad _
  · exact Touch.bad _
theorem Touch.makeSliceA (P : Program) (t : TypeId) (l c : Value) : Touch (makeSliceA P t l c) := by
  unfold Sx.makeSliceA
  split
  · refine Touch.bind (Touch.opt _ _) fun _ => Touch.bind (Touch.opt _ _) fun _ => Touch.bind (Touch.opt _ _) fun _ => Touch.bind (Touch.guard _ _) fun _ => Touch.bind (Touch.opt _ _) fun _ => Touch.bind (Touch.guard _ _) fun _ =>
      Touch.bind (Touch.newRowA _ _) fun _ => ?_
    split
    · exact Touch.pure _
    · exact Touch.bad _
  · exact Touch.bad _
theorem Touch.lookupA (P : Program) (t : TypeId) (x k : Value) (ok : Bool) : Touch (lookupA P t x k ok) := by
  unfold Sx.lookupA
  refine Touch.bind (Touch.opt _ _) fun _ => Touch.bind (Touch.guard _ _) fun _ => Touch.bind (Touch.opt _ _) fun _ => Touch.bind (Touch.guard _ _) fun _ => Touch.bind ?_ fun mp => ?_
  · split
    · exact Touch.pure _
    · exact Touch.mapGet _
    · exact Touch.bad _
  · split
    · split
      · exact Touch.pure _
      · exact Touch.bad _
    · exact Touch.pure _
    · exact Touch.bad _
theorem Touch.mapUpdateA (P : Program) (t : TypeId) (x k v : Value) : Touch (mapUpdateA P t x k v) := by
  unfold Sx.mapUpdateA
  refine Touch.bind (Touch.opt _ _) fun _ => Touch.bind (Touch.guard _ _) fun _ => ?_
  split
  · refine Touch.bind (Touch.mapGet _) fun _ => ?_
    split
    · exact Touch.mapSet _ _ _ _
    · exact Touch.mapSet _ _ _ _
    · exact Touch.bad _
  · exact Touch.bad _
theorem Touch.deleteA (P : Program) (t : TypeId) (x k : Value) : Touch (deleteA P t x k) := by
  unfold Sx.deleteA
  refine Touch.bind (Touch.opt _ _) fun _ => Touch.bind (Touch.guard _ _) fun _ => ?_
  split
  · exact Touch.pure _
  · refine Touch.bind (Touch.mapGet _) fun _ => ?_
    split
    · exact Touch.mapSet _ _ _ _
    · exact Touch.mapSet _ _ _ _
    · exact Touch.bad _
  · exact Touch.bad _
theorem Touch.rangeM (x : Value) : Touch (rangeM x) := by
  unfold Sx.rangeM
  split
  · exact Touch.bind (Touch.newA _) fun _ => Touch.pure _
  · exact Touch.bind (Touch.mapGet _) fun _ => Touch.bind (Touch.newA _) fun _ => Touch.pure _
  · exact Touch.bad _
theorem Touch.nextA (r : Nat) : Touch (nextA r) := by
  refine Touch.bind (Touch.iterGet _) fun it => ?_
  split
  · exact Touch.pure _
  · refine Touch.bind (Touch.mapGet _) fun _ => Touch.bind (Touch.guard _ _) fun _ => ?_
    split
    · exact Touch.pure _
    · exact Touch.bind (Touch.iterSet _ _ _ _ _) fun _ => Touch.pure _
    · exact Touch.bad _
theorem Touch.entryA (r : Nat) : Touch (entryA r) := by
  refine Touch.bind (Touch.iterGet _) fun it => ?_
  split
  · refine Touch.bind (Touch.mapGet _) fun _ => Touch.bind (Touch.guard _ _) fun _ => ?_
    split
    · exact Touch.pure _
    · exact Touch.bad _
  · exact Touch.bad _
theorem Touch.clearA (P : Program) (t : TypeId) (x : Value) : Touch (clearA P t x) := by
  unfold Sx.clearA
  split
  · exact Touch.bind (Touch.opt _ _) fun _ => Touch.pure _
  · exact Touch.bind (Touch.opt _ _) fun _ => Touch.bind (Touch.mapGet _) fun _ => Touch.bind (Touch.mapSet _ _ _ _) fun _ => Touch.pure _
  · exact Touch.bind (Touch.opt _ _) fun _ => Touch.bind (Touch.opt _ _) fun _ => Touch.bind (Touch.guard _ _) fun _ => Touch.bind (Touch.wrB _ _ _) fun _ => Touch.pure _
  · exact Touch.bad _
theorem Touch.lenBuiltin (P : Program) (t : TypeId) (x : Value) : Touch (lenBuiltin P t x) := by
  unfold Sx.lenBuiltin
  split
  · split
    · exact Touch.pure _
    · exact Touch.bad _
  · exact Touch.pure _
  · split
    · exact Touch.pure _
    · exact Touch.bad _
  · split
    · exact Touch.pure _
    · exact Touch.bind (Touch.mapGet _) fun _ => Touch.pure _
    · exact Touch.bad _
  · exact Touch.bad _
theorem Touch.binA [Asm] (P : Program) (op : BinOp) (t : TypeId) (a b : Value) : Touch (binA P op t a b) := by
  unfold Sx.binA
  refine Touch.ite (Touch.bind (Touch.guard _ _) fun _ => Touch.opt _ _) (Touch.ite (Touch.opt _ _) ?_)
  split
  · exact Touch.bind (Touch.opt _ _) fun _ => Touch.pure _
  · exact Touch.bind (Touch.opt _ _) fun _ => Touch.pure _
  · exact Touch.bad _
theorem Touch.hidsM : ∀ l, Touch (hidsM l)
  | [] => Touch.pure _
  | _ :: l => Touch.bind (Touch.liveA _) fun _ => Touch.hidsM l
theorem Touch.footsM : ∀ fs, Touch (footsM fs)
  | [] => Touch.pure _
  | f :: fs => by
    refine Touch.bind ?_ fun _ => Touch.footsM fs
    cases f.ro with
    | true => exact Touch.seeA _ _
    | false => exact Touch.swapA _ _ _
theorem Touch.newsM : ∀ (l : HL) (k : Nat), Touch (newsM k l)
  | [], _ => Touch.pure _
  | (_, _) :: l, k => Touch.bind (Touch.newA _) fun _ => Touch.bind (Touch.guard _ _) fun _ => Touch.newsM l (k + 1)
theorem Touch.runE (e : Entry) : Touch (runE e) := Touch.bind (Touch.hidsM _) fun _ => Touch.bind (Touch.footsM _) fun _ => Touch.bind (Touch.newsM _ _) fun _ => Touch.pure _
theorem Touch.orc (es : List Entry) (args : List Value) : Touch (orc es args) := by
  intro c h a c' h' L hh
  unfold Sx.orc at hh
  cases hf : findE args c es with
  | none => rw [hf] at hh; cases hh
  | some e =>
    rw [hf] at hh
    exact Touch.runE e c h a c' h' L hh

theorem Touch.appX [Asm] (ats : List TypeId) (args : List Value) : Touch (appX ats args) := by
  intro c h a c' h' L hh
  unfold Sx.appX at hh
  cases hf : findApp ats args c Asm.apps with
  | none => rw [hf] at hh; cases hh
  | some e =>
    rw [hf] at hh
    exact Touch.runE e c h a c' h' L hh
theorem Touch.loadX [Asm] (t k : Nat) : Touch (loadX t k) := by
  intro c h u c' h' L hh
  unfold Sx.loadX at hh
  cases hf : findLd t k Asm.lds with
  | none =>
    rw [hf] at hh
    exact Touch.appX [t, 1000000] [.chan (some k)] c h u c' h' L hh
  | some e =>
    rw [hf] at hh
    simp only at hh
    split at hh
    · rename_i T j ro hx
      cases hb : Nat.beq j e.j with
      | false => rw [hb] at hh; cases hh
      | true =>
        rw [hb] at hh
        cases hh
        exact Tch.same fun e m => by cases m; simp [Ev.id, hx]
    · cases hh
theorem Touch.storeX [Asm] (P : Program) (t : TypeId) (a v : Value) : Touch (storeX P t a v) := by
  unfold Sx.storeX
  split
  · exact Touch.bind (Touch.appX _ _) fun _ => Touch.pure _
  · exact Touch.storeA _ _ _ _
theorem Touch.builtinA [Asm] (P : Program) (b : Builtin) (ats : Array TypeId) (args : List Value) : Touch (builtinA P b ats args) := by
  unfold Sx.builtinA
  split
  · exact Touch.ite (Touch.ite (Touch.bad _) (Touch.appX _ _)) (Touch.appendA _ _ _)
  · split
    · split
      · exact Touch.ite (Touch.opt _ _) (Touch.lenBuiltin _ _ _)
      · exact Touch.bad _
    · exact Touch.bad _
  · split
    · split
      · exact Touch.bind (Touch.deleteA _ _ _ _) fun _ => Touch.pure _
      · exact Touch.bad _
    · exact Touch.bad _
  · exact Touch.copyA _ _ _
  · split
    · split
      · exact Touch.clearA _ _ _
      · exact Touch.bad _
    · exact Touch.bad _
  · split
    · exact Touch.opt _ _
    · exact Touch.bad _
  · split
    · exact Touch.opt _ _
    · exact Touch.bad _
  · exact Touch.bad _

structure RecTouch (r : Rec) : Prop where
  exec : ∀ c f, Touch (r.exec c f)
  call : ∀ g args, Touch (r.call g args)

theorem Touch.yieldA {r : Rec} (hr : RecTouch r) (l : Nat) (args : List Value) : Touch (yieldA r l args) := by
  unfold Sx.yieldA
  refine Touch.bind (Touch.lpGet _) fun _ => Touch.bind (Touch.guard _ _) fun _ => Touch.bind (hr.exec _ _) fun x => ?_
  obtain ⟨e, f1⟩ := x
  simp only
  split
  · refine Touch.bind (Touch.lpGet _) fun _ => ?_
    split
    · refine Touch.bind (Touch.lpSet _ _ _) fun _ => Touch.bind (hr.exec _ _) fun z => ?_
      obtain ⟨e2, f2⟩ := z
      simp only
      split
      · exact Touch.bind (Touch.lpSet _ _ _) fun _ => Touch.pure _
      · exact Touch.bind (Touch.lpSet _ _ _) fun _ => Touch.pure _
      · exact Touch.bad _
    · exact Touch.bad _
  · exact Touch.bad _
theorem Touch.callV {r : Rec} (hr : RecTouch r) (v : Value) (args : List Value) : Touch (callV r v args) := by
  unfold Sx.callV
  split
  · exact hr.call _ _
  · exact Touch.ite (Touch.yieldA hr _ _) (Touch.bad _)
  · exact Touch.bad _
theorem Touch.callF {r : Rec} (hr : RecTouch r) (v : Value) (args : List Value) : Touch (callF r v args) := by
  unfold Sx.callF
  split
  · exact hr.call _ _
  · exact Touch.bad _
theorem Touch.enterA (f : Fr) : Touch (enterA f) := by
  unfold Sx.enterA
  split
  · exact Touch.bind (Touch.newA _) fun _ => Touch.pure _
  · exact Touch.bind (Touch.lpGet _) fun _ => Touch.pure _
theorem Touch.rangeA {r : Rec} (hr : RecTouch r) (g : Value) (ps : List Tmp) (a b : Code) (f : Fr) : Touch (rangeA r g ps a b f) := by
  unfold Sx.rangeA
  refine Touch.bind (Touch.enterA f) fun x => ?_
  obtain ⟨d, mark⟩ := x
  refine Touch.bind (Touch.newA _) fun _ => Touch.bind (Touch.callF hr _ _) fun _ => Touch.bind (Touch.lpGet _) fun _ => ?_
  split
  · exact Touch.bad _
  · refine Touch.bind (Touch.lpSet _ _ _) fun _ => ?_
    split
    · exact Touch.pure _
    · exact hr.exec _ _
theorem Touch.sliceX (P : Program) (t : TypeId) (x : Value) (lo hi mx : Option Value) : Touch (sliceX P t x lo hi mx) := by
  unfold Sx.sliceX
  split
  · exact Touch.bind (Touch.opt _ _) fun _ => Touch.bind (Touch.opt _ _) fun _ => Touch.bind (Touch.info _) fun _ => Touch.bind (Touch.opt _ _) fun _ => Touch.bind (Touch.opt _ _) fun _ => Touch.bind (Touch.guard _ _) fun _ => Touch.pure _
  · exact Touch.bad _
theorem Touch.convM (P : Program) (s d : TypeId) (v : Value) : Touch (convM P s d v) := by
  unfold Sx.convM
  split
  · exact Touch.bind (Touch.opt _ _) fun _ => Touch.bind (Touch.guard _ _) fun _ => Touch.bind (Touch.newA _) fun _ => Touch.pure _
  · refine Touch.ite (Touch.bind (Touch.opt _ _) fun _ => Touch.bind (Touch.rdB _ _ _) fun _ => Touch.bind (Touch.opt _ _) fun _ => Touch.pure _) ?_
    exact Touch.bind (Touch.opt _ _) fun _ => Touch.bind (Touch.guard _ _) fun _ => Touch.bind (Touch.bind (Touch.info _) fun _ => Touch.guard _ _) fun _ => Touch.pure _
  · exact Touch.bind (Touch.guard _ _) fun _ => Touch.bind (Touch.opt _ _) fun _ => Touch.pure _
  · exact Touch.bad _
theorem Touch.opA [Asm] {P : Program} {r : Rec} (hr : RecTouch r) (f : Fr) (o : Oper) : Touch (opA P r f o) := by
  unfold Sx.opA
  generalize o.op = op
  cases op <;> (try dsimp only [oPick, oAlloc, oBox, oBuild, oBuildSlice, oLoad, oStore, oNilCheck, oBinOp, oUnOp, oConvert, oMakeFunc, oSliceToArrayPointer, oMakeSlice, oSlice, oFieldAddr, oField, oIndexAddr, oIndex, oLookup, oMapUpdate, oInsert, oExtract, oCall])
  case move x => exact Touch.eval f x
  case assign x => exact Touch.eval f x
  case pick c a b =>
    refine Touch.bind (Touch.eval f _) fun v => Touch.bind (Touch.eval f _) fun x => Touch.bind (Touch.eval f _) fun y => ?_
    cases truth v <;> first | exact Touch.bad _ | exact Touch.pure _
  case alloc => exact Touch.bind (Touch.opt _ _) fun _ => Touch.bind (Touch.guard _ _) fun _ => Touch.newRowA _ _
  case box => exact Touch.bind (Touch.eval f _) fun _ => Touch.newRowA _ _
  case build => exact Touch.bind (Touch.pairsL f _) fun _ => Touch.opt _ _
  case buildSlice => exact Touch.bind (Touch.pairsL f _) fun _ => Touch.buildSliceA _ _ _ _
  case load =>
    refine Touch.bind (Touch.eval f _) fun v => ?_
    split
    · exact Touch.loadX _ _
    · exact Touch.loadA _ _ _
  case store => exact Touch.bind (Touch.eval f _) fun _ => Touch.bind (Touch.eval f _) fun _ => Touch.bind (Touch.storeX _ _ _ _) fun _ => Touch.pure _
  case nilCheck =>
    refine Touch.bind (Touch.eval f _) fun v => ?_
    split
    · exact Touch.pure _
    · exact Touch.pure _
    · exact Touch.bad _
  case binOp => exact Touch.bind (Touch.eval f _) fun _ => Touch.bind (Touch.eval f _) fun _ => Touch.ite (Touch.opt _ _) (Touch.binA _ _ _ _ _)
  case typeAssert x xt t ok =>
    refine Touch.bind (Touch.eval f _) fun v => ?_
    split
    · exact Touch.bind (Touch.opt _ _) fun _ => Touch.bind (Touch.guard _ _) fun _ => Touch.pure _
    · exact Touch.bad _
  case range => exact Touch.bind (Touch.eval f _) fun _ => Touch.bind (Touch.opt _ _) fun _ => Touch.rangeM _
  case next =>
    refine Touch.bind (Touch.eval f _) fun v => ?_
    split
    · exact Touch.nextA _
    · exact Touch.bad _
  case entry =>
    refine Touch.bind (Touch.eval f _) fun v => ?_
    split
    · exact Touch.entryA _
    · exact Touch.bad _
  case unOp => exact Touch.bind (Touch.eval f _) fun _ => Touch.ite (Touch.opt _ _) (Touch.opt _ _)
  case convert => exact Touch.bind (Touch.eval f _) fun _ => Touch.ite (Touch.opt _ _) (Touch.ite (Touch.convM _ _ _ _) (Touch.opt _ _))
  case makeFunc g a b =>
    refine Touch.bind (Touch.evalL f _) fun _ => Touch.bind (Touch.evalL f _) fun _ => ?_
    cases g <;> first | exact Touch.pure _ | exact Touch.bad _
  case makeMap t x =>
    cases x
    · exact Touch.bind (Touch.newA _) fun _ => Touch.pure _
    · exact Touch.bad _
  case makeSlice => exact Touch.bind (Touch.eval f _) fun _ => Touch.bind (Touch.eval f _) fun _ => Touch.makeSliceA _ _ _ _
  case sliceToArrayPointer => exact Touch.bind (Touch.eval f _) fun _ => Touch.opt _ _
  case slice => exact Touch.bind (Touch.eval f _) fun _ => Touch.bind (Touch.evalO f _) fun _ => Touch.bind (Touch.evalO f _) fun _ => Touch.bind (Touch.evalO f _) fun _ => Touch.ite (Touch.opt _ _) (Touch.sliceX _ _ _ _ _ _)
  case fieldAddr => exact Touch.bind (Touch.eval f _) fun _ => Touch.opt _ _
  case field => exact Touch.bind (Touch.eval f _) fun _ => Touch.opt _ _
  case indexAddr => exact Touch.bind (Touch.eval f _) fun _ => Touch.bind (Touch.eval f _) fun _ => Touch.opt _ _
  case index => exact Touch.bind (Touch.eval f _) fun _ => Touch.bind (Touch.eval f _) fun _ => Touch.opt _ _
  case lookup => exact Touch.bind (Touch.eval f _) fun _ => Touch.bind (Touch.eval f _) fun _ => Touch.lookupA _ _ _ _ _
  case mapUpdate => exact Touch.bind (Touch.eval f _) fun _ => Touch.bind (Touch.eval f _) fun _ => Touch.bind (Touch.eval f _) fun _ => Touch.bind (Touch.mapUpdateA _ _ _ _ _) fun _ => Touch.pure _
  case insert => exact Touch.bind (Touch.eval f _) fun _ => Touch.bind (Touch.eval f _) fun _ => Touch.bind (Touch.eval f _) fun _ => Touch.bind (Touch.mapUpdateA _ _ _ _ _) fun _ => Touch.pure _
  case extract =>
    refine Touch.bind (Touch.eval f _) fun v => ?_
    cases v <;> first | exact Touch.bad _ | exact Touch.opt _ _
  case call c =>
    generalize c.callee = ce
    cases ce <;> (try dsimp only)
    · refine Touch.bind (Touch.eval f _) fun v => Touch.bind (Touch.evalL f _) fun args => ?_
      exact Touch.callV hr _ _
    · exact Touch.bad _
    · exact Touch.bind (Touch.evalL f _) fun _ => Touch.builtinA _ _ _ _
  all_goals exact Touch.bad _
theorem Touch.stepV [Asm] {P : Program} {r : Rec} (hr : RecTouch r) (ops : Array Oper) (o : Oper) (f : Fr) : Touch (stepV P r ops o f) := by
  unfold Sx.stepV
  split
  · exact Touch.ite (Touch.opA hr f o) (Touch.pure _)
  · exact Touch.bad _
theorem Touch.deferA (f : Fr) (c : Call) : Touch (deferA f c) := by
  unfold Sx.deferA
  split
  · refine Touch.bind (Touch.eval f _) fun _ => Touch.bind (Touch.evalL f _) fun _ => ?_
    split
    · exact Touch.pure _
    · exact Touch.bad _
  · exact Touch.bad _
theorem Touch.stepD (o : Oper) (c : Call) (f : Fr) : Touch (stepD o c f) := by
  unfold Sx.stepD
  split
  · exact Touch.bind (Touch.deferA f c) fun _ => Touch.pure _
  · exact Touch.bad _
theorem Touch.stepN [Asm] {P : Program} {r : Rec} (hr : RecTouch r) (ops : Array Oper) (o : Oper) (f : Fr) : Touch (stepN P r ops o f) := Touch.bind (Touch.stepV hr ops o f) fun _ => Touch.pure _
theorem Touch.stepA [Asm] {P : Program} {r : Rec} (hr : RecTouch r) (ops : Array Oper) (o : Oper) (f : Fr) : Touch (stepA P r ops o f) := by
  unfold Sx.stepA
  split
  · exact Touch.stepD _ _ _
  · exact Touch.stepN hr _ _ _
theorem Touch.regionL [Asm] {P : Program} {r : Rec} (hr : RecTouch r) (ops : Array Oper) : ∀ (l : List Oper) (f : Fr), Touch (regionL P r ops l f)
  | [], f => Touch.pure f
  | o :: l, f => Touch.bind (Touch.stepA hr ops o f) fun f' => Touch.regionL hr ops l f'
theorem Touch.regionD [Asm] {P : Program} {r : Rec} (hr : RecTouch r) (ops : Array Oper) : ∀ (l : List Oper) (st : List (List Nat)) (logs : List Lg) (f : Fr), Touch (regionD P r ops l st logs f)
  | [], _, _, f => Touch.pure f
  | o :: l, _st, _logs, f => Touch.bindL (Touch.stepV hr ops o f) fun _v _l' => Touch.ite (Touch.bad _) (Touch.regionD hr ops l _ _ _)
theorem Touch.regionA [Asm] {P : Program} {r : Rec} (hr : RecTouch r) (ops : Array Oper) (d : Bool) (f : Fr) : Touch (regionA P r ops d f) := by
  unfold Sx.regionA
  refine Touch.ite ?_ (Touch.regionL hr ops _ f)
  split
  · exact Touch.bad _
  · exact Touch.regionD hr ops _ _ _ _
theorem Touch.resA (P : Program) (f : Fr) : ∀ (rs : List ResultVar), Touch (resA P f rs)
  | [] => Touch.pure _
  | .tmp _ :: rs => Touch.bind (Touch.opt _ _) fun _ => Touch.bind (Touch.resA P f rs) fun _ => Touch.pure _
  | .cell _ _ :: rs => Touch.bind (Touch.opt _ _) fun _ => Touch.bind (Touch.loadA _ _ _) fun _ => Touch.bind (Touch.resA P f rs) fun _ => Touch.pure _
theorem Touch.resultsA (P : Program) (fn : Func) (f : Fr) : Touch (resultsA P fn f) := by
  refine Touch.bind (Touch.resA P f _) fun vs => ?_
  split <;> exact Touch.pure _
theorem Touch.execS [Asm] {P : Program} {r : Rec} (hr : RecTouch r) (c : Code) (f : Fr) : Touch (execS P r c f) := by
  cases c <;> simp only [Sx.execS]
  case skip => exact Touch.pure _
  case label => exact Touch.pure _
  case region => exact Touch.bind (Touch.regionA hr _ _ _) fun _ => Touch.pure _
  case seq a b =>
    refine Touch.bind (hr.exec _ _) fun x => ?_
    split
    · exact hr.exec _ _
    · exact Touch.pure _
  case cond =>
    refine Touch.bind (Touch.eval f _) fun v => ?_
    split
    · exact Touch.ite (hr.exec _ _) (hr.exec _ _)
    · exact Touch.bad _
  case block =>
    refine Touch.bind (hr.exec _ _) fun x => ?_
    split <;> exact Touch.pure _
  case loop =>
    refine Touch.bind (hr.exec _ _) fun x => ?_
    split
    · exact hr.exec _ _
    · exact Touch.pure _
  case exit => exact Touch.pure _
  case ret => exact Touch.pure _
  case scope =>
    refine Touch.bind (hr.exec _ _) fun x => ?_
    split
    · exact Touch.bad _
    · exact Touch.pure _
  case rangeFunc => exact Touch.bind (Touch.eval f _) fun _ => Touch.rangeA hr _ _ _ _ _
  all_goals exact Touch.bad _
theorem Touch.execR [Asm] {P : Program} {r : Rec} (hr : RecTouch r) : ∀ (c : Code) (f : Fr), Touch (execR P r c f)
  | .seq a b, f => by
    refine Touch.bind (Touch.execR hr a f) fun x => ?_
    split
    · exact hr.exec _ _
    · exact Touch.pure _
  | .region id ops draw, f => by
    simp only [Sx.execR]
    split
    · exact Touch.bind (Touch.regionL hr _ _ _) fun _ => Touch.pure _
    · exact hr.exec _ _
  | .skip, f => hr.exec _ _
  | .cond _ _ _, f => hr.exec _ _
  | .block _ _, f => hr.exec _ _
  | .loop _, f => hr.exec _ _
  | .rangeFunc _ _ _ _, f => hr.exec _ _
  | .exit _, f => hr.exec _ _
  | .scope _, f => hr.exec _ _
  | .label _, f => hr.exec _ _
  | .goto _, f => hr.exec _ _
  | .ret, f => hr.exec _ _
  | .refuse _, f => hr.exec _ _
theorem Touch.endD (P : Program) (fn : Func) (f : Fr) : Touch (endD P fn f) := by
  unfold Sx.endD
  split
  · exact Touch.bind (Touch.resultsA _ _ _) fun _ => Touch.pure _
  · exact Touch.bad _
theorem Touch.callD [Asm] {P : Program} {r : Rec} (hr : RecTouch r) (g : FuncId) (args : List Value) : Touch (callD P r g args) := by
  unfold Sx.callD
  split
  · exact Touch.bad _
  · refine Touch.ite (Touch.bad _) ?_
    split
    · exact Touch.bad _
    · refine Touch.bind (Touch.execR hr _ _) fun x => ?_
      split
      · exact Touch.endD _ _ _
      · exact Touch.endD _ _ _
      · exact Touch.bad _
theorem Touch.leave [Asm] {P : Program} {r : Rec} (hr : RecTouch r) : ∀ (ds : List Df), Touch (leave P r ds)
  | [] => Touch.pure ()
  | .mark _ :: ds => Touch.bind (Touch.takeA _) fun _ => Touch.leave hr ds
  | .call _ _ _ :: ds => Touch.bind (Touch.callD hr _ _) fun _ => Touch.leave hr ds
theorem Touch.callS [Asm] {P : Program} {tbl : Tbl} {r : Rec} (hr : RecTouch r) (ht : ∀ g m args, tbl g = some m → Touch (m args)) (g : FuncId) (args : List Value) : Touch (callS P tbl r g args) := by
  unfold Sx.callS
  split
  · rename_i m hm; exact ht g m args hm
  · split
    · exact Touch.bad _
    · refine Touch.ite (Touch.bad _) ?_
      split
      · exact Touch.bad _
      · refine Touch.bind (hr.exec _ _) fun x => ?_
        split
        · exact Touch.bind (Touch.leave hr _) fun _ => Touch.resultsA _ _ _
        · exact Touch.bind (Touch.leave hr _) fun _ => Touch.resultsA _ _ _
        · exact Touch.bad _
theorem recTouch [Asm] (P : Program) (tbl : Tbl) (ht : ∀ g m args, tbl g = some m → Touch (m args)) : ∀ n, RecTouch (rec P tbl n)
  | 0 => ⟨fun _ _ => Touch.bad _, fun _ _ => Touch.bad _⟩
  | n + 1 => ⟨fun c f => Touch.execS (recTouch P tbl ht n) c f, fun g args => Touch.callS (recTouch P tbl ht n) ht g args⟩
end Go.Sx

import Derived.Test.YthandoangkckmaaGreatDoorSx18
namespace Go.Sx
section
variable {P : Program} {w0 : World} {F : Nat → Prop} {E : Env} {H : Heap} {w : World}

/-- What lies on as it lay is read as it was. -/
theorem HR.below [Den] (hr : HR P w0 F E H w) {w' : World} (hb : Go.RowKit.Below w.heap.size w w') : HR P w0 F E H w' := by
  have hold : ∀ k, k < w.heap.size → w'.heap[k]? = w.heap[k]? := fun k hk => hb.block k hk
  refine ⟨⟨hb.os.trans hr.keeps.os, hb.tape.trans hr.keeps.tape, hb.output.trans hr.keeps.output, Nat.le_trans hr.keeps.size hb.size, fun k hk hF => ?_⟩, hr.dom, fun i o ho => ?_, hr.inj, hr.own⟩
  · rw [hold k (Nat.lt_of_lt_of_le hk hr.keeps.size)]; exact hr.keeps.block k hk hF
  · have hq := hr.obj i o ho
    cases o with
    | row T cs ro =>
      obtain ⟨x, cells, h1, h2, h3⟩ := hq
      exact ⟨x, cells, h1, by unfold RowAt; rw [hold _ (hr.blk_lt ho rfl h1)]; exact h2, h3⟩
    | map es bs clk =>
      obtain ⟨x, ents, clock, h1, h2, h3⟩ := hq
      exact ⟨x, ents, clock, h1, by rw [hold _ (hr.blk_lt ho rfl h1)]; exact h2, h3⟩
    | iter m since seen last =>
      obtain ⟨x, h1, h2, h3⟩ := hq
      exact ⟨x, h1, h2, by rw [hold _ (hr.blk_lt ho rfl h1)]; exact h3⟩
    | loop st pe f ps a b d =>
      obtain ⟨x, l, h1, h2, h3⟩ := hq
      exact ⟨x, l, h1, by rw [hold _ (hr.blk_lt ho rfl h1)]; exact h2, h3⟩
    | defd =>
      obtain ⟨x, h1, h2⟩ := hq
      exact ⟨x, h1, by rw [hold _ (hr.blk_lt ho rfl h1)]; exact h2⟩
    | dead => trivial
    | orow T j ro =>
      obtain ⟨x, cells, h1, h2, h3⟩ := hq
      exact ⟨x, cells, h1, by rw [hold _ (hr.blk_lt ho rfl h1)]; exact h2, h3⟩
end

/-- Functions of no arguments that are known to return true, whatever the world. -/
def tblOf (gs : List FuncId) : Tbl := fun k => bif gs.any (Nat.beq k) then some (fun args => match args with
  | [] => M.pure (.bool true)
  | _ :: _ => M.bad 700) else none
def TblTrue [Den] (P : Program) (tbl : Tbl) : Prop := ∀ (w0 : World) (F : Nat → Prop), TblSnd P w0 F tbl
theorem noTbl_true [Den] (P : Program) : TblTrue P noTbl := fun _ _ => noTbl_sound

theorem run_true [Den] [Asm] {P : Program} [AsmOK P] (hm : P.follows .mixedOrders = true) {tbl : Tbl} (ht : TblTrue P tbl) {n : Nat} {g : FuncId} (h : saysTrue ((rec P tbl n).call g [] 0 .nil) = true) :
    Callable P g ∧ ∀ (w : World) (Fe : Fence) (m : Nat), Wd Fe → CallsIn Fe m P g #[] w fun e w' => e = .returned (.bool true) ∧ Go.RowKit.Below w.heap.size w w' := by
  cases hr : (rec P tbl n).call g [] 0 .nil with
  | bad k => rw [hr] at h; cases h
  | ok v c' H' L =>
    rw [hr] at h
    have hv : v = .bool true := by
      cases v <;> first | (cases h; done) | skip
      rename_i b
      simp only [saysTrue] at h
      rw [h]
    subst hv
    refine ⟨((rec_sound (P := P) (w0 := default) (F := fun _ => False) hm (ht _ _) n).2 _ _ _ _ _ _ _ _ hr).1, fun w Fe m hW => ?_⟩
    obtain ⟨_, hc⟩ := (rec_sound (P := P) (w0 := w) (F := fun _ => False) hm (ht _ _) n).2 _ _ _ _ _ _ _ _ hr
    have := hc _ w [] (HR.start P w) (LR.nil _) Fe m hW
    refine this.mono fun e w' ⟨v', E', h1, h2, h3, h4⟩ => ?_
    cases h4
    exact ⟨h1, h3.keeps.below⟩
theorem tblOf_true [Den] {P : Program} {gs : List FuncId} (h : ∀ g ∈ gs, Callable P g ∧ ∀ (w : World) (Fe : Fence) (m : Nat), Wd Fe → CallsIn Fe m P g #[] w fun e w' => e = .returned (.bool true) ∧ Go.RowKit.Below w.heap.size w w') :
    TblTrue P (tblOf gs) := by
  intro w0 F g m hg
  unfold tblOf at hg
  cases ha : gs.any (Nat.beq g) with
  | false => rw [ha] at hg; cases hg
  | true =>
    rw [ha] at hg
    simp only [cond_true, Option.some.injEq] at hg
    subst hg
    obtain ⟨x, hx, he⟩ := List.any_eq_true.1 ha
    have := Nat.eq_of_beq_eq_true he
    subst this
    obtain ⟨h1, h2⟩ := h g hx
    refine ⟨fun args => ?_, fun args c H v c' H' L hh => ⟨h1, fun E w args' hr hargs Fe n hW => ?_⟩⟩
    · cases args with
      | nil => exact Local.pure _
      | cons a as => exact Local.bad _
    · cases args with
      | cons a as => exact (bad_ok.1 hh).elim
      | nil =>
        obtain ⟨q1, q2, q3, _⟩ := pure_ok.1 hh
        subst q1 q2 q3
        rw [hargs.nil_inv]
        refine (h2 w Fe n hW).mono fun e w' ⟨k1, k2⟩ => ⟨.bool true, E, k1, E.le_refl, hr.below k2, .bool true⟩
/-- A law of no arguments, some functions that it calls being known. -/
theorem closed_by [Den] [Asm] {P : Program} [AsmOK P] (hm : P.follows .mixedOrders = true) {tbl : Tbl} (ht : TblTrue P tbl) {n : Nat} {g : FuncId} (h : saysTrue ((rec P tbl n).call g [] 0 .nil) = true) (w : World) :
    Calls P g #[] w fun e w' => e = .returned (.bool true) ∧ Go.RowKit.Below w.heap.size w w' :=
  callsIn_wide.1 ((run_true hm ht h).2 w Fence.wide 0 ⟨fun _ => trivial, rfl⟩)
end Go.Sx

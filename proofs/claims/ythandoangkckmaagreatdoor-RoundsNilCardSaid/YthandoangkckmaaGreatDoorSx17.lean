import Derived.Test.YthandoangkckmaaGreatDoorSx16
import Derived.Below
import Derived.RecoverIn
namespace Go.Sx
section
variable {P : Program} {w0 : World} {F : Nat → Prop}

theorem args_get (vs : List Value) : ∀ (t : Tr Value) (k j : Nat), (Fr.args t k vs).get j = (if k ≤ j ∧ j < k + vs.length then vs[j - k]? else t.get j) := by
  induction vs with
  | nil => intro t k j; simp only [Fr.args, List.length_nil, Nat.add_zero]; rw [if_neg (by omega)]
  | cons v vs ih =>
    intro t k j
    simp only [Fr.args, ih, List.length_cons, Tr.get_set]
    by_cases h1 : k + 1 ≤ j ∧ j < k + 1 + vs.length
    · rw [if_pos h1, if_pos (by omega)]
      rw [show j - k = (j - (k + 1)) + 1 from by omega, List.getElem?_cons_succ]
    · rw [if_neg h1]
      by_cases h2 : j = k
      · subst h2
        rw [if_pos rfl, if_pos (by omega)]; simp
      · rw [if_neg h2, if_neg (by omega)]
theorem init_frame [Den] {E : Env} {args args' : List Value} (h : LR E args args') (ntmps : Nat) :
    FR E none (Fr.init args (args.length + (ntmps - args.length))) { tmps := args'.toArray ++ Array.replicate (ntmps - args'.toArray.size) undef, defers := [] } := by
  have hl := h.len
  refine ⟨.nil, .none, ?_, fun k v hk => ?_⟩
  · simp [Fr.init, hl]
  · simp only [Fr.init, args_get, Nat.zero_le, true_and, Nat.zero_add, Nat.sub_zero] at hk ⊢
    by_cases hlt : k < args.length
    · rw [if_pos hlt] at hk
      obtain ⟨y, hy, hv⟩ := h.get hk
      have hlt' : k < args'.length := by omega
      refine ⟨by omega, ?_⟩
      rw [Array.getD_eq_getD_getElem?, Array.getElem?_append_left (by simpa using hlt')]
      have : args'.toArray[k]? = some y := by simpa using hy
      rw [this]; exact hv
    · rw [if_neg hlt] at hk
      cases hk

/-- What is asked of a table of summaries. -/
def TblSnd [Den] (P : Program) (w0 : World) (F : Nat → Prop) (tbl : Tbl) : Prop := ∀ g m, tbl g = some m → (∀ args, Local (m args)) ∧
  ∀ args c H v c' H' L, m args c H = .ok v c' H' L → Callable P g ∧
  ∀ E w args', HR P w0 F E H w → LR E args args' → ∀ Fe n, Wd Fe → CallsIn Fe n P g args'.toArray w (fun e w' => ∃ v' E', e = .returned v' ∧ E.le E' ∧ HR P w0 F E' H' w' ∧ VR E' v v')

/-! ## Deferred calls, where nobody panics -/
/-- A region that begins with a call of recover. -/
theorem wpSIn_recover {Fe : Fence} {n id : Nat} {ops : Array Oper} {o : Oper} {os : List Oper} {cl : Call} {Q : Exit → Act → List Frame → World → Prop} {a : Act} {cs : List Frame} {w : World} (hro : Fe.round = none) (hF : ∀ f, Fe.fn f) (hl : ops.toList = o :: os)
    (ho : o.op = .call cl) (hcl : cl.callee = .builtin .recover) (hg : o.guard = none) (hrec : recoverD cs = none)
    (h : wpOpsIn Fe n P ops (fun e a' w' => Q e a' cs w') (List.range' 1 os.length) (a.put o.dst .nilIface) w) : (Code.region id ops false).wpSIn Fe n P Q a cs w := by
  intro b k hb hbr hFb hroom
  have ho0 : ops[0]? = some o := by
    have : ops.toList[0]? = some o := by rw [hl]; rfl
    simpa using this
  have hsz : List.range ops.size = 0 :: List.range' 1 os.length := by
    have : ops.size = os.length + 1 := by rw [← Array.length_toList, hl]; rfl
    rw [this, List.range_eq_range', List.range'_succ]
  have hw : Region.wanted o (yielded ops a.tmps) = true := by unfold Region.wanted; rw [hg]
  have h0 : (lone (b.atR a (.inRegion ops (0 :: List.range' 1 os.length) :: k)) cs w).fenced P Fe := fenced_oper hFb hroom ho0 (fun f _ => hF f)
  have hg2 := stepGR_op (P := P) (b := b) (k := k) (cs := cs) (w := w) (rest := List.range' 1 os.length) ho0 hw
  rw [hbr, Oper.semAt_none] at hg2
  have hfin : (b.atR a (.inRegion ops (0 :: List.range' 1 os.length) :: k)).finish .nilIface = b.atR (a.put o.dst .nilIface) (.inRegion ops (List.range' 1 os.length) :: k) := by
    rw [Frame.finish_atR, ho0]; rfl
  have hrun : (execOp a.eval o).run P w = .ok .recover w := by
    simp only [execOp, ho, resolve, hcl, Sem.run_bind, Sem.run_pure, Result.andThen_ok, invoke, builtin]
  have htr := tryRecover_deferred (fr := b.atR a (.inRegion ops (0 :: List.range' 1 os.length) :: k)) hb cs
  have hstep : step P (lone (b.atR a (.inRegion ops (0 :: List.range' 1 os.length) :: k)) cs w) = .next (lone (b.atR (a.put o.dst .nilIface) (.inRegion ops (List.range' 1 os.length) :: k)) cs w) := by
    refine step_lone_go ?_
    rw [hg2, ← hfin]
    simp only [Frame.atR, hbr] at htr ⊢
    simp [stepG.apply, hrun, htr, hrec]
  obtain ⟨e, a', w', hq, harr⟩ := wp_opsIn _ _ _ h b k cs (hbr.trans hro.symm) hFb hroom
  refine ⟨e, a', cs, w', rfl, hq, .of_steps (.one (fenced_calm hFb hroom rfl) stepR_region) ?_⟩
  rw [hsz]
  exact .of_steps (.one h0 hstep) harr
theorem recIn_inv {draw : Bool} {l : List Oper} {o : Oper} {os : List Oper} (h : recIn draw l = some (o, os)) : draw = false ∧ l = o :: os ∧ o.guard = none ∧ ∃ cl, o.op = .call cl ∧ cl.callee = .builtin .recover := by
  unfold recIn at h
  cases l with
  | nil => cases h
  | cons o' os' =>
    simp only at h
    cases hop : o'.op <;> rw [hop] at h <;> (try (cases h; done))
    rename_i cl
    cases hg : o'.guard with
    | some g => rw [hg] at h; cases h
    | none =>
      rw [hg] at h
      simp only at h
      cases hc : cl.callee with
      | value v => rw [hc] at h; cases h
      | invoke r m => rw [hc] at h; cases h
      | builtin bb =>
        rw [hc] at h
        cases bb <;> (try (cases h; done))
        simp only at h
        cases draw with
        | true => cases h
        | false =>
          cases h
          exact ⟨rfl, rfl, hg, cl, hop, hc⟩
theorem execR_sound [Den] [Asm] [AsmOK P] {r : Rec} (hcs : CallSnd P w0 F r) (he : ExecSnd P w0 F r) {Fe : Fence} {n : Nat} (hW : Wd Fe) (hro : Fe.round = none) {cs : List Frame} (hrec : recoverD cs = none) : ∀ (cd : Code) {Q : Exit → Act → List Frame → World → Prop} {E : Env} {H : Heap} {w : World} {f f' : Fr} {x : Exit} {a : Act} {c c' : Nat} {H' : Heap} {L : Lg},
    execR P r cd f c H = .ok (x, f') c' H' L → FR E Fe.round f a → HR P w0 F E H w → (∀ E' a' w', E.le E' → HR P w0 F E' H' w' → FR E' Fe.round f' a' → Q x a' cs w') → cd.wpSIn Fe n P Q a cs w := by
  intro cd
  have plain : ∀ (cd : Code) {Q : Exit → Act → List Frame → World → Prop} {E : Env} {H : Heap} {w : World} {f f' : Fr} {x : Exit} {a : Act} {c c' : Nat} {H' : Heap} {L : Lg},
      r.exec cd f c H = .ok (x, f') c' H' L → FR E Fe.round f a → HR P w0 F E H w → (∀ E' a' w', E.le E' → HR P w0 F E' H' w' → FR E' Fe.round f' a' → Q x a' cs w') → cd.wpSIn Fe n P Q a cs w := by
    intro cd Q E H w f f' x a c c' H' L h hf hr hk
    exact wpSIn_of_wpIn hro (he cd Fe n (fun e a' w' => Q e a' cs w') E H w f f' x a c c' H' L hW h hf hr hk).1
  induction cd with
  | seq p q ihp _ =>
    intro Q E H w f f' x a c c' H' L h hf hr hk
    simp only [execR] at h
    replace h := bind_ok.1 h
    obtain ⟨⟨y, f1⟩, c1, h1, _, _, hp, h, _⟩ := h
    refine wpSIn_seq ?_
    refine ihp hp hf hr fun E1 a1 w1 hle hr1 hf1 => ?_
    cases y with
    | normal => exact plain q h hf1 hr1 fun E' a' w' hle' hr' hf' => hk E' a' w' (Env.le_trans hle hle') hr' hf'
    | _ =>
      obtain ⟨q1, q2, q3, _⟩ := pure_ok.1 h
      cases q1; subst q2 q3
      exact hk E1 a1 w1 hle hr1 hf1
  | region id ops draw =>
    intro Q E H w f f' x a c c' H' L h hf hr hk
    simp only [execR] at h
    cases hri : recIn draw ops.toList with
    | none => rw [hri] at h; exact plain _ h hf hr hk
    | some p =>
      obtain ⟨o, os⟩ := p
      rw [hri] at h
      simp only at h
      obtain ⟨rfl, hl, hg, cl, ho, hcl⟩ := recIn_inv hri
      replace h := bind_ok.1 h
      obtain ⟨f1, c1, h1, _, _, hreg, h, _⟩ := h
      obtain ⟨q1, q2, q3, _⟩ := pure_ok.1 h
      cases q1; subst q2 q3
      refine wpSIn_recover hro hW.1 hl ho hcl hg hrec ?_
      refine regionL_sound hW hcs he os 1 (fun j => ?_) hreg (hf.put .nilI o.dst) hr hk
      have : ops.toList[1 + j]? = os[j]? := by rw [hl, Nat.add_comm, List.getElem?_cons_succ]
      rw [← this]; simp
  | _ => intro Q E H w f f' x a c c' H' L h hf hr hk; exact plain _ h hf hr hk

theorem callD_sound [Den] [Asm] [AsmOK P] {r : Rec} (hcs : CallSnd P w0 F r) (he : ExecSnd P w0 F r) {Fe : Fence} {n : Nat} (hW : Wd Fe) (hro : Fe.round = none) {E : Env} {H : Heap} {w : World} {g : FuncId} {args : List Value} {args' : Array Value} {u : Unit} {c c' : Nat} {H' : Heap} {L : Lg}
    (h : callD P r g args c H = .ok u c' H' L) (hr : HR P w0 F E H w) (hargs : LR E args args'.toList) :
    Callable P g ∧ CallsDIn Fe n P g args' .returning w fun e u' w' => u' = .returning ∧ ∃ v' E', e = .returned v' ∧ E.le E' ∧ HR P w0 F E' H' w' := by
  unfold callD at h
  simp only [nthL_eq, Array.getElem?_toList] at h
  cases hfn : P.funcs[g]? with
  | none => rw [hfn] at h; exact (bad_ok.1 h).elim
  | some fn =>
    rw [hfn] at h
    simp only at h
    cases hname : (fn.name == "runtime.NumGoroutine") with
    | true => rw [hname] at h; simp only [cond_true] at h; exact (bad_ok.1 h).elim
    | false =>
      rw [hname] at h
      simp only [cond_false] at h
      cases hb : fn.body with
      | none => rw [hb] at h; exact (bad_ok.1 h).elim
      | some code =>
        rw [hb] at h
        simp only at h
        refine ⟨⟨fn, code, hfn, hname, hb⟩, callsDIn_of_wpSIn hfn hb (hW.1 g) fun c₀ cs hm => ?_⟩
        have hrec : recoverD (c₀ :: cs) = none := by simp [recoverD, hm]
        replace h := bind_ok.1 h
        obtain ⟨⟨x, f1⟩, c1, h1, _, _, hex, h, _⟩ := h
        have hin := init_frame (args' := args'.toList) hargs fn.ntmps
        rw [Array.toArray_toList] at hin
        have hin2 : FR E Fe.round (Fr.init args (args.length + (fn.ntmps - args.length))) { tmps := args' ++ Array.replicate (fn.ntmps - args'.size) undef, defers := [] } := by rw [hro]; exact hin
        refine execR_sound hcs he hW hro hrec code hex hin2 hr fun E1 a1 w1 hle hr1 hf1 => ?_
        have fin : ∀ {c2 : Nat} {H2 : Heap} {L2 : Lg}, endD P fn f1 c1 h1 = .ok u c2 H2 L2 → H2 = H' → a1.defers = [] ∧ ∃ u', (c₀ :: cs : List Frame) = { c₀ with mode := u' } :: cs ∧ ∃ v, (results fn a1.tmps).run P w1 = .ok v w1 ∧ (u' = .returning ∧ ∃ v' E', Ending.returned v = .returned v' ∧ E.le E' ∧ HR P w0 F E' H' w1) := by
          intro c2 H2 L2 hend hH
          unfold endD at hend
          cases hds : f1.ds with
          | cons d ds => rw [hds] at hend; exact (bad_ok.1 hend).elim
          | nil =>
            rw [hds] at hend
            simp only at hend
            replace hend := bind_ok.1 hend
            obtain ⟨rv, c3, h3, _, _, hres, hend, _⟩ := hend
            obtain ⟨_, q2, q3, _⟩ := pure_ok.1 hend
            subst q2 q3
            obtain ⟨_, q5, v', q6, _⟩ := results_sound hf1 hr1 hres
            subst q5 hH
            have hd0 : a1.defers = [] := by
              have := hf1.defers
              rw [hds] at this
              generalize a1.defers = z at this
              cases this; rfl
            refine ⟨hd0, .returning, ?_, v', q6, rfl, v', E1, rfl, hle, hr1⟩
            rw [← hm]
        cases x <;> (try simp only at h) <;> first
          | exact (bad_ok.1 h).elim
          | exact fin h rfl
theorem leaves_sound [Den] [Asm] [AsmOK P] {r : Rec} (hcs : CallSnd P w0 F r) (he : ExecSnd P w0 F r) {Fe : Fence} {n : Nat} (hW : Wd Fe) (hro : Fe.round = none) {fn : Func} {tmps : Array Value} {Rr : Ending → World → Prop} {H1 : Heap} {c1 : Nat} : ∀ {is : List Df} {ds : List Deferred} {E : Env} {H : Heap} {w : World} {c : Nat} {u : Unit} {L : Lg},
    leave P r is c H = .ok u c1 H1 L → HR P w0 F E H w → DsR E is ds → (∀ E1 w1, E.le E1 → HR P w0 F E1 H1 w1 → ∃ v, (results fn tmps).run P w1 = .ok v w1 ∧ Rr (.returned v) w1) → LeavesInM Fe n P fn tmps Rr ds .returning w
  | [], ds, E, H, w, c, u, L, h, hr, hd, hk => by
    obtain ⟨_, q2, q3, _⟩ := pure_ok.1 h
    subst q2 q3
    cases hd
    exact hk E w E.le_refl hr
  | .mark i :: is, ds, E, H, w, c, u, L, h, hr, hd, hk => by
    replace h := bind_ok.1 h
    obtain ⟨u2, c2, h2, _, _, ht, h, _⟩ := h
    cases hd with
    | cons hE hd =>
      rename_i e ds
      unfold takeA at ht
      split at ht
      · rename_i hi
        cases ht
        obtain ⟨e', k1, k2⟩ := hr.obj i _ hi
        rw [hE] at k1; cases k1
        have hr2 : HR P w0 F E (H.set i .dead) (w.putObj e.blk (.deferred none)) :=
          hr.turn hi rfl rfl hE rfl rfl rfl World.putObj_size (fun b hb => World.putObj_heap_other hb) trivial
        exact ⟨by simp, .inl ⟨e.blk, _, rfl, run_takeDeferred k2, leaves_sound hcs he hW hro h hr2 hd hk⟩⟩
      · cases ht
  | .call g args cap :: is, ds, E, H, w, c, u, L, h, hr, hd, hk => by
    replace h := bind_ok.1 h
    obtain ⟨u2, c2, h2, _, _, ht, h, _⟩ := h
    cases hd with
    | call ha hc hd =>
      rename_i args' cap' ds
      have hl : LR E (args ++ cap) (args' ++ cap').toList := by rw [Array.toList_append]; exact LR.append ha hc
      obtain ⟨⟨fnn, code, hfn1, hname, hbody⟩, hcall⟩ := callD_sound (n := n - 1) hcs he hW hro ht hr hl
      refine ⟨by simp, .inr ⟨(fun hd => by rw [hW.2] at hd; cases hd), .func g, cap', g, args' ++ cap', rfl, ?_, (fun f' _ => hW.1 f'), hcall.mono fun e u' w' ⟨hu, v', E', he', hle, hr'⟩ => ?_⟩⟩
      · simp only [invoke, callFunc, Sem.run_bind, run_program, Result.andThen_ok, hfn1, hname, hbody]
        simp
      · subst he' hu
        exact leaves_sound hcs he hW hro h hr' (hd.mono hle) fun E1 w1 hle1 hr1 => hk E1 w1 (Env.le_trans hle hle1) hr1

theorem callS_sound [Den] [Asm] [AsmOK P] {tbl : Tbl} {r : Rec} (ht : TblSnd P w0 F tbl) (hcs : CallSnd P w0 F r) (he : ExecSnd P w0 F r) : CallSnd P w0 F ⟨r.exec, callS P tbl r⟩ := by
  intro g args c H v c' H' L h
  dsimp only at h
  unfold callS at h
  cases hm : tbl g with
  | some m => rw [hm] at h; exact (ht g m hm).2 args c H v c' H' L h
  | none =>
    rw [hm] at h
    simp only [nthL_eq, Array.getElem?_toList] at h
    cases hfn : P.funcs[g]? with
    | none => rw [hfn] at h; exact (bad_ok.1 h).elim
    | some fn =>
      rw [hfn] at h
      simp only at h
      cases hname : (fn.name == "runtime.NumGoroutine") with
      | true => rw [hname] at h; simp only [cond_true] at h; exact (bad_ok.1 h).elim
      | false =>
        rw [hname] at h
        simp only [cond_false] at h
        cases hb : fn.body with
        | none => rw [hb] at h; exact (bad_ok.1 h).elim
        | some code =>
          rw [hb] at h
          simp only at h
          refine ⟨⟨fn, code, hfn, hname, hb⟩, fun E w args' hr hargs Fe n hW => ?_⟩
          replace h := bind_ok.1 h
          obtain ⟨⟨x, f1⟩, c1, h1, _, _, hex, h, _⟩ := h
          have hW' : Wd Fe.plain := hW
          have key : code.wpIn Fe.plain n P (bodyPostM Fe.plain n P fn (fun e w' => ∃ v' E', e = .returned v' ∧ E.le E' ∧ HR P w0 F E' H' w' ∧ VR E' v v')) { tmps := args'.toArray ++ Array.replicate (fn.ntmps - args'.toArray.size) undef, defers := [] } w := by
            refine (he code Fe.plain n _ E H w _ f1 x _ _ _ _ _ hW' hex (init_frame hargs fn.ntmps) hr fun E1 a1 w1 hle hr1 hf1 => ?_).1
            have fin : ∀ {c2 : Nat} {H2 : Heap} {L2 : Lg}, M.bind (leave P r f1.ds) (fun _ => resultsA P fn f1) c1 h1 = .ok v c2 H2 L2 → H2 = H' →
                LeavesInM Fe.plain n P fn a1.tmps (fun e w' => ∃ v' E', e = .returned v' ∧ E.le E' ∧ HR P w0 F E' H' w' ∧ VR E' v v') a1.defers .returning w1 := by
              intro c2 H2 L2 hres hH
              replace hres := bind_ok.1 hres
              obtain ⟨u, c3, h3, _, _, htk, hres, _⟩ := hres
              refine leaves_sound hcs he hW' rfl htk hr1 hf1.defers fun E2 w2 hle2 hr2 => ?_
              obtain ⟨_, q2, v', q3, q4⟩ := results_sound (hf1.mono hle2) hr2 hres
              subst hH q2
              exact ⟨v', q3, v', E2, rfl, Env.le_trans hle hle2, hr2, q4⟩
            cases x <;> (try simp only at h) <;> first
              | exact (bad_ok.1 h).elim
              | exact fin h rfl
          exact callsIn_of_wp_marks (F := Fe.plain) hfn hb (hW.1 g) key

theorem rec_sound [Den] [Asm] [AsmOK P] (hm : P.follows .mixedOrders = true) {tbl : Tbl} (ht : TblSnd P w0 F tbl) : ∀ n, ExecSnd P w0 F (rec P tbl n) ∧ CallSnd P w0 F (rec P tbl n)
  | 0 => ⟨(fun code Fe n Q E H w f f' x a c c' H' L _ h => by cases h), (fun g args c H v c' H' L h => by cases h)⟩
  | n + 1 => by
    obtain ⟨he, hc⟩ := rec_sound hm ht n
    have hl := recLocal P tbl (fun g m args h => (ht g m h).1 args) n
    exact ⟨execS_sound (draw_sound hm hc he hl) hc he, callS_sound ht hc he⟩
end

theorem noTbl_sound [Den] {P : Program} {w0 : World} {F : Nat → Prop} : TblSnd P w0 F noTbl := fun g m h => by cases h

theorem HR.start [Den] (P : Program) (w : World) : HR P w (fun _ => False) (fun _ => none) .nil w :=
  ⟨⟨rfl, rfl, rfl, Nat.le_refl _, fun _ _ _ => rfl⟩, (fun i e h => by cases h), (fun i o h => by cases h), (fun i j o p e e' _ h => by cases h), (fun i o e h => by cases h)⟩
theorem Keeps.below {w0 w : World} (h : Keeps w0 (fun _ => False) w) : Go.RowKit.Below w0.heap.size w0 w :=
  ⟨h.os, h.tape, h.output, h.size, fun k hk => h.block k hk (fun f => f)⟩

def saysTrue : R Value → Bool
  | .ok (.bool b) _ _ _ => b
  | _ => false
/-- A call of no arguments that the interpreter finds true. -/
theorem closed_true [Den] [Asm] {P : Program} [AsmOK P] (hm : P.follows .mixedOrders = true) {n : Nat} {g : FuncId} (h : saysTrue ((rec P noTbl n).call g [] 0 .nil) = true) (w : World) :
    Calls P g #[] w fun e w' => e = .returned (.bool true) ∧ Go.RowKit.Below w.heap.size w w' := by
  cases hr : (rec P noTbl n).call g [] 0 .nil with
  | bad k => rw [hr] at h; cases h
  | ok v c' H' L =>
    rw [hr] at h
    have hv : v = .bool true := by
      cases v <;> first | (cases h; done) | skip
      rename_i b
      simp only [saysTrue] at h
      rw [h]
    subst hv
    obtain ⟨_, hc⟩ := (rec_sound (P := P) (w0 := w) (F := fun _ => False) hm noTbl_sound n).2 _ _ _ _ _ _ _ _ hr
    have := hc _ w [] (HR.start P w) (LR.nil _) Fence.wide 0 ⟨fun _ => trivial, rfl⟩
    refine (callsIn_wide.1 this).mono fun e w' ⟨v', E', h1, h2, h3, h4⟩ => ?_
    cases h4
    exact ⟨h1, h3.keeps.below⟩
end Go.Sx

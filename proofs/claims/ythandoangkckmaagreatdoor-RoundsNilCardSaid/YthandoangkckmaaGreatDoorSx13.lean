import Derived.Test.YthandoangkckmaaGreatDoorSx12
import Derived.Scope
namespace Go.Sx
section
variable {P : Program} {w0 : World} {F : Nat → Prop} {E : Env} {H : Heap} {w : World} {R : Option Nat}

theorem wanted_sound [Den] [Asm] (P : Program) [AsmOK P] {ops : Array Oper} {f : Fr} {a : Act} {o : Oper} {b : Bool} (hf : FR E R f a) (h : wantedA ops f o = some b) : Region.wanted o (yielded ops a.tmps) = b := by
  unfold wantedA at h
  simp only [nthL_eq, Array.getElem?_toList] at h
  unfold Region.wanted
  cases hg : o.guard with
  | none => rw [hg] at h; cases h; rfl
  | some gw =>
    obtain ⟨j, want⟩ := gw
    rw [hg] at h
    simp only [yielded] at h ⊢
    cases hd : (ops[j]?).bind (·.dst) with
    | none => rw [hd] at h; simp only at h; cases h; simp
    | some d =>
      rw [hd] at h
      simp only [Option.bind_some] at h ⊢
      cases hv : f.get d with
      | none => rw [hv] at h; cases h
      | some u =>
        rw [hv] at h
        obtain ⟨hlt, hvr⟩ := hf.tr.val d u hv
        have hlt' : d < a.tmps.size := by rw [hf.size]; exact hlt
        have hs : a.tmps[d]? = some a.tmps[d] := by simp [hlt']
        rw [Array.getD_eq_getD_getElem?, hs] at hvr
        rw [hs]
        simp only [Option.getD_some] at hvr
        generalize a.tmps[d] = u' at hvr
        cases hvr with
        | sym k i hs =>
          simp only at h
          cases htr : truth (.float k i) with
          | none => rw [htr] at h; cases h
          | some t =>
            rw [htr] at h
            cases h
            have := truth_sound (P := P) (E := E) htr (.sym k i hs)
            rw [this]; simp
        | ssl k h1 h2 h3 h4 h5 h6 => subst h6; simp only at h; cases h; simp
        | opq i hh => simp only at h; cases h
        | _ => simp only at h; cases h; simp

theorem stepN_sound [Den] [Asm] [AsmOK P] {Fe : Fence} {n : Nat} {r : Rec} {ops : Array Oper} {i : Nat} {o : Oper} {f f' : Fr} {a : Act} {Q : Exit → Act → World → Prop} {K : Act → World → Prop} (hW : Wd Fe) (hcs : CallSnd P w0 F r) (he : ExecSnd P w0 F r) (ho : ops[i]? = some o)
    {c c' : Nat} {H' : Heap} {L : Lg} (h : stepN P r ops o f c H = .ok f' c' H' L) (hf : FR E R f a) (hr : HR P w0 F E H w)
    (hk : ∀ E' a' w', E.le E' → HR P w0 F E' H' w' → FR E' R f' a' → K a' w') : wpOpIn Fe n P ops Q i K a w := by
  unfold wpOpIn
  simp only [ho]
  unfold stepN at h
  replace h := bind_ok.1 h
  obtain ⟨v, c1, h1, _, _, hop, h, _⟩ := h
  obtain ⟨q1, q2, q3, _⟩ := pure_ok.1 h
  subst q1 q2 q3
  unfold stepV at hop
  cases hw0 : wantedA ops f o with
  | none => rw [hw0] at hop; exact (bad_ok.1 hop).elim
  | some b =>
  rw [wanted_sound P hf hw0]
  cases hw : b with
  | true =>
    rw [hw0, hw] at hop
    simp only [cond_true] at hop
    simp only [if_true]
    exact op_sound hW hcs he hop hf hr fun E' v' w' hle hr' hv => hk E' _ w' hle hr' ((hf.mono hle).put hv _)
  | false =>
    rw [hw0, hw] at hop
    simp only [cond_false] at hop
    simp only [Bool.false_eq_true, if_false]
    obtain ⟨q1, q2, q3, _⟩ := pure_ok.1 hop
    subst q1 q2 q3
    exact ⟨fun g _ => hW.1 g, hk E _ w E.le_refl hr (hf.put (VR.undef E) _)⟩

/-- A statement 'defer'. -/
theorem stepD_sound [Den] {Fe : Fence} {n : Nat} {ops : Array Oper} {i : Nat} {o : Oper} {cl : Call} {f f' : Fr} {a : Act} {Q : Exit → Act → World → Prop} {K : Act → World → Prop} (hW : Wd Fe) (ho : ops[i]? = some o) (hd : o.op = .defer cl)
    {c c' : Nat} {H' : Heap} {L : Lg} (h : stepD o cl f c H = .ok f' c' H' L) (hf : FR E Fe.round f a) (hr : HR P w0 F E H w)
    (hk : ∀ E' a' w', E.le E' → HR P w0 F E' H' w' → FR E' Fe.round f' a' → K a' w') : wpOpIn Fe n P ops Q i K a w := by
  unfold wpOpIn
  simp only [ho]
  unfold stepD at h
  cases hro : f.ro with
  | some l0 => rw [hro] at h; exact (bad_ok.1 h).elim
  | none =>
    cases hg : o.guard with
    | some gw => rw [hro, hg] at h; exact (bad_ok.1 h).elim
    | none =>
      rw [hro, hg] at h
      simp only at h
      replace h := bind_ok.1 h
      obtain ⟨d, c1, h1, _, _, hda, h, _⟩ := h
      obtain ⟨q1, q2, q3, _⟩ := pure_ok.1 h
      subst q1 q2 q3
      have hw : Region.wanted o (yielded ops a.tmps) = true := by unfold Region.wanted; rw [hg]
      rw [if_pos hw]
      unfold deferA at hda
      cases hcl : cl.callee with
      | invoke r m => rw [hcl] at hda; exact (bad_ok.1 hda).elim
      | builtin b => rw [hcl] at hda; exact (bad_ok.1 hda).elim
      | value g =>
        rw [hcl] at hda
        simp only at hda
        replace hda := beval hda
        obtain ⟨gv, _, hgv, hda⟩ := hda
        replace hda := bind_ok.1 hda
        obtain ⟨args, c2, h2, _, _, hargs, hda, _⟩ := hda
        obtain ⟨p1, p2, p3⟩ := evalL_sound hf hargs
        subst p1 p2
        have e1 := eval_sound hf hgv
        generalize hga : a.eval g = gv' at e1
        cases e1 <;> (try exact (bad_ok.1 hda).elim)
        case fn gid first fs captured cs hf1 pf1 hc1 pf2 =>
          obtain ⟨q1, q2, q3, _⟩ := pure_ok.1 hda
          subst q1 q2 q3
          have hrnd : Fe.round = none := by
            have h5 := hf.ro
            rw [hro] at h5
            generalize Fe.round = z at h5
            cases h5; rfl
          refine ⟨fun f _ => hW.1 f, ?_⟩
          have hrun : (o.semAt Fe.round a.eval).run P w = .ok (.defer { target := .fn (.func gid) cs, args := fs ++ cl.args.map a.eval }) w := by
            rw [hrnd, Oper.semAt_none]
            simp only [execOp, hd, resolve, hcl, hga, Deferred.ofValue, Sem.run_bind, Sem.run_pure, Result.andThen_ok]
          rw [hrun]
          rw [Oper.uponIn_defer]
          refine hk E _ w E.le_refl hr ?_
          have hF : LR E first.toList fs.toList := ⟨hf1, pf1⟩
          have hC : LR E captured.toList cs.toList := ⟨hc1, pf2⟩
          have hds : DsR E (.call gid (first.toList ++ args) captured.toList :: f.ds) ({ target := .fn (.func gid) cs, args := fs ++ cl.args.map a.eval } :: a.defers) := by
            refine .call ?_ hC hf.defers
            rw [Array.toList_append, Array.toList_map]
            exact LR.append hF p3
          have hpush : FR E Fe.round (pushD f (.call gid (first.toList ++ args) captured.toList)) { a with defers := { target := .fn (.func gid) cs, args := fs ++ cl.args.map a.eval } :: a.defers } := by
            obtain ⟨t, n, ro, ds⟩ := f
            exact ⟨hds, hf.ro, ⟨hf.tr.size, hf.tr.val⟩⟩
          exact hpush.put (VR.undef E) o.dst
theorem isDefer_op {o : Oper} {cl : Call} (h : isDefer o = some cl) : o.op = .defer cl := by
  unfold isDefer at h
  split at h
  · rename_i hd; cases h; exact hd
  · cases h
theorem step_sound [Den] [Asm] [AsmOK P] {Fe : Fence} {n : Nat} {r : Rec} {ops : Array Oper} {i : Nat} {o : Oper} {f f' : Fr} {a : Act} {Q : Exit → Act → World → Prop} {K : Act → World → Prop} (hW : Wd Fe) (hcs : CallSnd P w0 F r) (he : ExecSnd P w0 F r) (ho : ops[i]? = some o)
    {c c' : Nat} {H' : Heap} {L : Lg} (h : stepA P r ops o f c H = .ok f' c' H' L) (hf : FR E Fe.round f a) (hr : HR P w0 F E H w)
    (hk : ∀ E' a' w', E.le E' → HR P w0 F E' H' w' → FR E' Fe.round f' a' → K a' w') : wpOpIn Fe n P ops Q i K a w := by
  unfold stepA at h
  cases hd : isDefer o with
  | some cl => rw [hd] at h; exact stepD_sound hW ho (isDefer_op hd) h hf hr hk
  | none => rw [hd] at h; exact stepN_sound hW hcs he ho h hf hr hk

theorem regionL_sound [Den] [Asm] [AsmOK P] {Fe : Fence} {n : Nat} {r : Rec} {ops : Array Oper} {Q : Exit → Act → World → Prop} (hW : Wd Fe) (hcs : CallSnd P w0 F r) (he : ExecSnd P w0 F r) : ∀ (l : List Oper) (k : Nat), (∀ j, l[j]? = ops[k + j]?) →
    ∀ {E : Env} {H : Heap} {w : World} {f f' : Fr} {a : Act} {c c' : Nat} {H' : Heap} {L : Lg}, regionL P r ops l f c H = .ok f' c' H' L → FR E Fe.round f a → HR P w0 F E H w →
    (∀ E' a' w', E.le E' → HR P w0 F E' H' w' → FR E' Fe.round f' a' → Q .normal a' w') → wpOpsIn Fe n P ops Q (List.range' k l.length) a w
  | [], k, _, E, H, w, f, f', a, c, c', H', L, h, hf, hr, hk => by
    obtain ⟨q1, q2, q3, _⟩ := pure_ok.1 h
    subst q1 q2 q3
    exact hk E a w E.le_refl hr hf
  | o :: l, k, hl, E, H, w, f, f', a, c, c', H', L, h, hf, hr, hk => by
    have h0 : ops[k]? = some o := by simpa using (hl 0).symm
    replace h := bind_ok.1 h
    obtain ⟨f1, c1, h1, _, _, hst, h, _⟩ := h
    rw [List.length_cons, List.range'_succ, wpOpsIn_cons]
    refine step_sound hW hcs he h0 hst hf hr fun E1 a1 w1 hle hr1 hf1 => ?_
    exact regionL_sound hW hcs he l (k + 1) (fun j => by have := hl (j + 1); simpa [Nat.add_assoc, Nat.add_comm 1 j] using this) h hf1 hr1 fun E' a' w' hle' hr' hf' => hk E' a' w' (Env.le_trans hle hle') hr' hf'

/-- What is asked of drawn regions (proved apart). -/
def DrawSnd [Den] [Asm] (P : Program) (w0 : World) (F : Nat → Prop) (r : Rec) : Prop := ∀ (Fe : Fence) (n id : Nat) (ops : Array Oper) (Q : Exit → Act → World → Prop) (E : Env) (H : Heap) (w : World) (f f' : Fr) (a : Act) (c c' : Nat) (H' : Heap) (L : Lg),
  Wd Fe → regionA P r ops true f c H = .ok f' c' H' L → FR E Fe.round f a → HR P w0 F E H w →
  (∀ E' a' w', E.le E' → HR P w0 F E' H' w' → FR E' Fe.round f' a' → Q .normal a' w') → (Code.region id ops true).wpIn Fe n P Q a w

theorem wpIn_of_loop {Fe : Fence} {n : Nat} {c : Code} {Q : Exit → Act → World → Prop} {a : Act} (h : loopWp Fe n P c Q a w) : (Code.loop c).wpIn Fe n P Q a w := fun b k cs hro hb hr =>
  let ⟨e, a', w', hq, harr⟩ := h b k cs hro hb hr
  ⟨e, a', w', hq, .of_steps (.one (fenced_calm hb hr rfl) stepR_loop) harr⟩
theorem loopWp_round {Fe : Fence} {n : Nat} {c : Code} {Q : Exit → Act → World → Prop} {a : Act} (h : c.wpIn Fe n P (Exit.then (loopWp Fe n P c Q) Q) a w) : loopWp Fe n P c Q a w := by
  intro b k cs hro hb hr
  obtain ⟨e, a₁, w₁, hq, harr⟩ := h b (.inLoop c :: k) cs hro hb hr
  cases e with
  | normal =>
    obtain ⟨e₂, a₂, w₂, hq₂, harr₂⟩ := hq b k cs hro hb hr
    exact ⟨e₂, a₂, w₂, hq₂, .of_steps (StepsIn.trans harr (.one (fenced_calm hb hr rfl) stepR_inLoop)) harr₂⟩
  | exit id => exact ⟨_, a₁, w₁, hq, .pass (x := .inLoop c) rfl (fun _ _ => .inl (by simp)) harr⟩
  | goto l => exact ⟨_, a₁, w₁, hq, .pass (x := .inLoop c) rfl (fun _ _ => .inl (by simp)) harr⟩
  | ret => exact ⟨_, a₁, w₁, hq, .pass (x := .inLoop c) rfl (fun _ _ => .inl (by simp)) harr⟩
  | panic ch => exact ⟨_, a₁, w₁, hq, .pass (x := .inLoop c) rfl (fun _ _ => .inl (by simp)) harr⟩
  | outgrown => exact ⟨_, a₁, w₁, hq, .pass (x := .inLoop c) rfl (fun _ _ => .inl (by simp)) harr⟩

theorem stepR_scope {c : Code} {b : Frame} {a : Act} {k : List Item} {cs : List Frame} : step P (lone (b.atR a (.code (.scope c) :: k)) cs w) = .next (lone (b.atR a (.code c :: .inScope c :: k)) cs w) :=
  step_lone_go (by simp [stepG, stepG.exec, Frame.atR])
theorem stepR_inScope {c : Code} {b : Frame} {a : Act} {k : List Item} {cs : List Frame} : step P (lone (b.atR a (.inScope c :: k)) cs w) = .next (lone (b.atR a k) cs w) :=
  step_lone_go (by simp [stepG, stepG.exec, Frame.atR])
theorem wpIn_scope_straight [Den] [Asm] [AsmOK P] {Fe : Fence} {n : Nat} {c : Code} {Q : Exit → Act → World → Prop} {a : Act} (h : c.wpIn Fe n P (Exit.noGoto Q) a w) : (Code.scope c).wpIn Fe n P Q a w := by
  intro b k cs hro hb hr
  have h0 : (lone (b.atR a (.code (.scope c) :: k)) cs w).fenced P Fe := fenced_calm hb hr rfl
  obtain ⟨e, a₁, w₁, hq, harr⟩ := h b (.inScope c :: k) cs hro hb hr
  cases e with
  | normal => exact ⟨.normal, a₁, w₁, hq, .head h0 stepR_scope (StepsIn.trans harr (.one (fenced_calm hb hr rfl) stepR_inScope))⟩
  | exit id =>
    have hx : exitTo id (.inScope c :: k) = exitTo id k := by simp [exitTo]
    exact ⟨.exit id, a₁, w₁, hq, fun k' hk => .head h0 stepR_scope (harr.1 k' (by rw [hx]; exact hk)),
      fun hr' hk => let ⟨k₁, h1, h2⟩ := harr.2 hr' (by rw [hx]; exact hk); ⟨k₁, h1, .head h0 stepR_scope h2⟩⟩
  | goto l => exact hq.elim
  | ret => exact ⟨_, a₁, w₁, hq, .of_steps (.one h0 stepR_scope) harr⟩
  | panic ch => exact ⟨_, a₁, w₁, hq, .of_steps (.one h0 stepR_scope) harr⟩
  | outgrown => exact ⟨_, a₁, w₁, hq, .of_steps (.one h0 stepR_scope) harr⟩

/-! ## A range over a function -/
theorem alloc_eq (w : World) (o : Obj) : w.alloc o = { w with heap := w.heap.push o } := rfl
theorem enter_sound [Den] {Rn : Option Nat} {f : Fr} {a : Act} {psA : Array Tmp} {assign body : Code} {d : Nat} {mark : List Df} {l c c1 c2 : Nat} {H1 H2 : Heap} {L1 L2 : Lg} (hA : enterA f c H = .ok (d, mark) c1 H1 L1)
    (hN : newA (.loop .ready none f psA.toList assign body d) c1 H1 = .ok l c2 H2 L2) (hf : FR E Rn f a) (hr : HR P w0 F E H w) (fn : FuncId) :
    ∃ mk w1 E2 e, (Instr.enterLoop fn a.tmps psA assign body Rn).run P w = .ok (e.blk, mk) w1 ∧ E.le E2 ∧ HR P w0 F E2 H2 w1 ∧ E2 l = some e ∧ FR E2 Rn ⟨f.t, f.n, f.ro, mark ++ f.ds⟩ { a with defers := mk ++ a.defers } := by
  unfold enterA at hA
  obtain ⟨j1, j2, hj, j3, _⟩ := newA_inv hN
  cases hro : f.ro with
  | none =>
    rw [hro] at hA
    simp only at hA
    replace hA := bind_ok.1 hA
    obtain ⟨d1, c3, h3, _, _, hd, hA, _⟩ := hA
    obtain ⟨q1, q2, q3, _⟩ := pure_ok.1 hA
    cases q1
    obtain ⟨i1, i2, hi, i3, _⟩ := newA_inv hd
    have hRn : Rn = none := by have := hf.ro; rw [hro] at this; cases this; rfl
    subst hRn
    subst q2 q3 i3 i2 i1 j1 j2 j3
    obtain ⟨k1, k2⟩ := hr.fresh (o := .defd) (b := .deferred (some [])) (cap := 0) hi (fun w' hw' => ⟨_, by simp [Env.upd]; rfl, by rw [hw']; simp⟩)
    obtain ⟨E1, hE1d⟩ : ∃ E1, E1 = Env.upd E d ⟨w.heap.size, 0, 0⟩ := ⟨_, rfl⟩
    obtain ⟨wd, hwd⟩ : ∃ wd, wd = { w with heap := w.heap.push (.deferred (some [])) } := ⟨_, rfl⟩
    have hsz : wd.heap.size = w.heap.size + 1 := by rw [hwd]; simp
    have hE1 : E1 d = some ⟨w.heap.size, 0, 0⟩ := by rw [hE1d]; simp [Env.upd]
    rw [← hE1d] at k1 k2
    rw [← hwd] at k2
    have hEl : E1 (d + 1) = none := by
      cases hx : E1 (d + 1) with
      | none => rfl
      | some x => exact absurd hj (k2.dom _ _ hx)
    have hle2 : E1.le (Env.upd E1 (d + 1) ⟨wd.heap.size, 0, 0⟩) := Env.le_upd hEl
    obtain ⟨lr, hlr⟩ : ∃ lr : Loop, lr = { state := .ready, pending := none, fn, tmps := a.tmps, params := psA, assign, body, defers := w.heap.size } := ⟨_, rfl⟩
    obtain ⟨m1, m2⟩ := k2.fresh (o := .loop .ready none f psA.toList assign body d) (b := .loop lr) (cap := 0) hj
      (fun w' hw' => ⟨⟨wd.heap.size, 0, 0⟩, lr, by simp [Env.upd], by rw [hw']; simp, by rw [hlr], by rw [hlr], by rw [hlr], by rw [hlr], by rw [hlr], by rw [hlr]; exact (hf.tr.mono k1).mono hle2, ⟨w.heap.size, 0, 0⟩, hle2 _ _ hE1, by rw [hlr]⟩)
    have hrun := run_enterLoop_outer (P := P) (w := w) fn a.tmps psA assign body
    rw [← hlr] at hrun
    refine ⟨[{ target := .collected w.heap.size, args := #[] }], { wd with heap := wd.heap.push (.loop lr) }, _, ⟨wd.heap.size, 0, 0⟩, ?_, Env.le_trans k1 m1, m2, by simp [Env.upd], ?_, ?_, ?_⟩
    · rw [hrun, hsz, hwd]; rfl
    · exact .cons (m1 _ _ hE1) (hf.defers.mono (Env.le_trans k1 m1))
    · have := hf.ro.mono (Env.le_trans k1 m1)
      rw [hro] at this
      exact this
    · exact ⟨hf.tr.size, fun k v hk => ⟨(hf.tr.val k v hk).1, (hf.tr.val k v hk).2.mono (Env.le_trans k1 m1)⟩⟩
  | some l0 =>
    rw [hro] at hA
    simp only at hA
    replace hA := bind_ok.1 hA
    obtain ⟨x, c3, h3, _, _, hx, hA, _⟩ := hA
    obtain ⟨q1, q2, q3, _⟩ := pure_ok.1 hA
    cases q1
    obtain ⟨i1, i2, hi⟩ := lpGet_inv hx
    subst q2 q3 i1 i2
    have hRo := hf.ro
    rw [hro] at hRo
    cases hRo with
    | some hl0 =>
      rename_i e0
      obtain ⟨e', lr, k1, k2, _, _, _, _, _, _, ed, k9, k10⟩ := hr.obj l0 _ hi
      rw [hl0] at k1; cases k1
      subst j1 j2 j3
      have hEl : E l = none := by
        cases hx : E l with
        | none => rfl
        | some x => exact absurd hj (hr.dom _ _ hx)
      have hle2 : E.le (Env.upd E l ⟨w.heap.size, 0, 0⟩) := Env.le_upd hEl
      obtain ⟨lq, hlq⟩ : ∃ lq : Loop, lq = { state := .ready, pending := none, fn, tmps := a.tmps, params := psA, assign, body, defers := lr.defers } := ⟨_, rfl⟩
      obtain ⟨m1, m2⟩ := hr.fresh (o := .loop .ready none f psA.toList assign body x.dfr) (b := .loop lq) (cap := 0) hj
        (fun w' hw' => ⟨_, lq, by simp [Env.upd]; rfl, by rw [hw']; simp, by rw [hlq], by rw [hlq], by rw [hlq], by rw [hlq], by rw [hlq], by rw [hlq]; exact hf.tr.mono hle2, ed, hle2 _ _ k9, by rw [hlq]; exact k10⟩)
      subst hlq
      refine ⟨[], _, _, ⟨w.heap.size, 0, 0⟩, ?_, m1, m2, by simp [Env.upd], ?_, ?_, ?_⟩
      · unfold Instr.enterLoop
        simp only [Sem.run_bind, run_getLoop k2, run_newObj_alloc, Result.andThen, Sem.run_pure]
        rfl
      · exact hf.defers.mono m1
      · have := hf.ro.mono m1
        rw [hro] at this
        exact this
      · exact ⟨hf.tr.size, fun k v hk => ⟨(hf.tr.val k v hk).1, (hf.tr.val k v hk).2.mono m1⟩⟩

theorem range_sound [Den] [Asm] [AsmOK P] {r : Rec} (hcs : CallSnd P w0 F r) (he : ExecSnd P w0 F r) {Fe : Fence} {n : Nat} {Q : Exit → Act → World → Prop} {g : Operand} {ps : Array Tmp} {assign body : Code} {f f' : Fr} {x : Exit} {a : Act} {gv : Value} {c c' : Nat} {H' : Heap} {L : Lg} (hW : Wd Fe)
    (h : rangeA r gv ps.toList assign body f c H = .ok (x, f') c' H' L) (hgv : VR E gv (a.eval g)) (hf : FR E Fe.round f a) (hr : HR P w0 F E H w)
    (hk : ∀ E' a' w', E.le E' → HR P w0 F E' H' w' → FR E' Fe.round f' a' → Q x a' w') : (Code.rangeFunc g ps assign body).wpIn Fe n P Q a w := by
  unfold rangeA at h
  replace h := bind_ok.1 h
  obtain ⟨⟨d, mark⟩, c1, h1, _, _, hA, h, _⟩ := h
  replace h := bind_ok.1 h
  obtain ⟨l, c2, h2, _, _, hN, h, _⟩ := h
  replace h := bind_ok.1 h
  obtain ⟨v, c3, h3, _, _, hC, h, _⟩ := h
  replace h := bind_ok.1 h
  obtain ⟨y, c4, h4, _, _, hG, h, _⟩ := h
  obtain ⟨g1, g2, hi⟩ := lpGet_inv hG
  subst g1 g2
  refine wpIn_rangeFunc fun fn hfn => ?_
  obtain ⟨mk, w1, E2, e, k1, k2, k3, k4, k5⟩ := enter_sound hA hN hf hr fn
  unfold callF at hC
  split at hC
  · rename_i gid first captured
    generalize hga : a.eval g = gv' at hgv
    cases hgv with
    | fn hf1 p1 hc1 p2 =>
      rename_i fs cs
      obtain ⟨⟨fnn, code, hfn1, hname, hbody⟩, hcalls⟩ := hcs _ _ _ _ _ _ _ _ hC
      refine ⟨e.blk, mk, w1, { target := .fn (.func gid) cs, args := fs ++ #[.func (.yield e.blk) #[] #[]] }, w1, gid, fs ++ #[.func (.yield e.blk) #[] #[]] ++ cs, w1, k1, ?_, fun f' _ => hW.1 f', ?_, (fun hd => by rw [hW.2] at hd; cases hd), ?_⟩
      · simp only [resolve, hga, Deferred.ofValue, Sem.run_pure]
        simp [Act.eval]
      · simp only [invoke, callFunc, Sem.run_bind, run_program, Result.andThen_ok, hfn1, hname, hbody]
        simp
      · have hlr : LR E2 (first.toList ++ [Value.func (.yield l) #[] #[]] ++ captured.toList) (fs ++ #[Value.func (.yield e.blk) #[] #[]] ++ cs).toList := by
          rw [Array.toList_append, Array.toList_append]
          have hy : VR E2 (Value.func (.yield l) #[] #[]) (Value.func (.yield e.blk) #[] #[]) := .yl k4
          have hF : LR E2 first.toList fs.toList := ⟨hf1, fun k x y hx hy => (p1 k x y hx hy).mono k2⟩
          have hC' : LR E2 captured.toList cs.toList := ⟨hc1, fun k x y hx hy => (p2 k x y hx hy).mono k2⟩
          exact LR.append (LR.append hF (LR.cons hy (LR.nil _))) hC'
        have hc := hcalls E2 w1 _ k3 hlr Fe (n - 1) hW
        simp only [Array.toArray_toList] at hc
        refine hc.mono fun ee w' ⟨v', E', he', hle, hr', hv'⟩ => ?_
        subst he'
        have hEl := hle _ _ k4
        have hleT := Env.le_trans k2 hle
        have fin : ∀ {st : LoopState} {L6 : Lg}, y.st = st → st ≠ .busy → M.bind (lpSet l .exhausted y.pend) (fun _ => (match y.pend with
            | none => M.pure (.normal, ⟨f.t, f.n, f.ro, mark ++ f.ds⟩)
            | some c => r.exec c ⟨f.t, f.n, f.ro, mark ++ f.ds⟩)) c4 h4 = .ok (x, f') c' H' L6 → rangePost Fe n P e.blk Q { a with defers := mk ++ a.defers } (.returned v') w' := by
          intro st L6 hst hne h
          replace h := bind_ok.1 h
          obtain ⟨u, c5, h5, _, _, hS, h, _⟩ := h
          obtain ⟨lr, m1, m2⟩ := lpSet_sound hS hr' hEl
          have hob : lr.state = y.st ∧ lr.pending = y.pend := by
            obtain ⟨e'', l', g1, g2, g3, g4, _⟩ := hr'.obj l _ hi
            rw [hEl] at g1; cases g1
            rw [m1] at g2; cases g2
            exact ⟨g3, g4⟩
          rw [← hob.2] at m2
          refine ⟨lr.pending, _, run_endLoop m1 (by rw [hob.1, hst]; exact hne), ?_⟩
          rw [hob.2] at m2 ⊢
          cases hp : y.pend with
          | none =>
            rw [hp] at h m2
            simp only at h ⊢
            obtain ⟨p1, p2, p3, _⟩ := pure_ok.1 h
            cases p1; subst p2 p3
            exact hk E' _ _ hleT m2 (k5.mono hle)
          | some cd =>
            rw [hp] at h m2
            simp only at h ⊢
            exact (he cd Fe n Q E' _ _ _ f' x _ _ _ _ _ hW h (k5.mono hle) m2 fun E'' a'' w'' hle' hr'' hf'' => hk E'' a'' w'' (Env.le_trans hleT hle') hr'' hf'').1
        cases hst : y.st with
        | busy => rw [hst] at h; exact (bad_ok.1 h).elim
        | ready => rw [hst] at h; exact fin hst (by simp) h
        | done => rw [hst] at h; exact fin hst (by simp) h
        | exhausted => rw [hst] at h; exact fin hst (by simp) h
  · exact (bad_ok.1 hC).elim

theorem execS_sound [Den] [Asm] [AsmOK P] {r : Rec} (hd : DrawSnd P w0 F r) (hcs : CallSnd P w0 F r) (he : ExecSnd P w0 F r) : ExecSnd P w0 F ⟨execS P r, r.call⟩ := by
  intro code Fe n Q E H w f f' x a c c' H' L hW h hf hr hk
  dsimp only at h
  have nl : ∀ {G : Prop}, G → (∀ b, code ≠ .loop b) → G ∧ ∀ b, code = .loop b → loopWp Fe n P b Q a w := fun g hn => ⟨g, fun b e => absurd e (hn b)⟩
  cases code with
  | skip =>
    obtain ⟨q1, q2, q3, _⟩ := pure_ok.1 h
    cases q1; subst q2 q3
    exact nl (wpIn_skip (hk E a w E.le_refl hr hf)) (by simp)
  | label l =>
    obtain ⟨q1, q2, q3, _⟩ := pure_ok.1 h
    cases q1; subst q2 q3
    exact nl (wpIn_label (hk E a w E.le_refl hr hf)) (by simp)
  | region id ops draw =>
    simp only [execS] at h
    replace h := bind_ok.1 h
    obtain ⟨f1, c1, h1, _, _, hreg, h, _⟩ := h
    obtain ⟨q1, q2, q3, _⟩ := pure_ok.1 h
    cases q1; subst q2 q3
    refine nl ?_ (by simp)
    cases draw with
    | true => exact hd Fe n id ops Q E H w f _ a c _ _ _ hW hreg hf hr hk
    | false =>
      refine wpIn_region ?_
      rw [List.range_eq_range', ← Array.length_toList]
      exact regionL_sound hW hcs he ops.toList 0 (by simp) hreg hf hr hk
  | seq p q =>
    simp only [execS] at h
    replace h := bind_ok.1 h
    obtain ⟨⟨y, f1⟩, c1, h1, _, _, hp, h, _⟩ := h
    refine nl (wpIn_seq ?_) (by simp)
    refine (he p Fe n _ E H w f f1 y a c _ _ _ hW hp hf hr fun E1 a1 w1 hle hr1 hf1 => ?_).1
    cases y with
    | normal =>
      exact (he q Fe n Q E1 _ w1 f1 f' x a1 _ _ _ _ hW h hf1 hr1 fun E' a' w' hle' hr' hf' => hk E' a' w' (Env.le_trans hle hle') hr' hf').1
    | _ =>
      obtain ⟨q1, q2, q3, _⟩ := pure_ok.1 h
      cases q1; subst q2 q3
      exact hk E1 a1 w1 hle hr1 hf1
  | cond cd p q =>
    simp only [execS] at h
    replace h := beval h
    obtain ⟨v, _, hv, h⟩ := h
    have e1 := eval_sound hf hv
    generalize hga : a.eval cd = gv at e1
    cases htr : truth v with
    | none => rw [htr] at h; exact (bad_ok.1 h).elim
    | some t =>
    rw [htr] at h
    dsimp only at h
    have := truth_sound (P := P) htr e1
    subst this
    refine nl (wpIn_cond hga ?_) (by simp)
    cases t
    · exact (he q Fe n Q E H w f f' x a _ _ _ _ hW h hf hr hk).1
    · exact (he p Fe n Q E H w f f' x a _ _ _ _ hW h hf hr hk).1
  | block id b =>
    simp only [execS] at h
    replace h := bind_ok.1 h
    obtain ⟨⟨y, f1⟩, c1, h1, _, _, hp, h, _⟩ := h
    refine nl (wpIn_block ?_) (by simp)
    refine (he b Fe n _ E H w f f1 y a c _ _ _ hW hp hf hr fun E1 a1 w1 hle hr1 hf1 => ?_).1
    cases y with
    | exit id' =>
      obtain ⟨q1, q2, q3, _⟩ := pure_ok.1 h
      simp only [Prod.mk.injEq] at q1
      obtain ⟨q1, q4⟩ := q1
      subst q2 q3 q4
      simp only [Exit.inBlock]
      cases hb : Nat.beq id' id with
      | true =>
        rw [hb] at q1
        simp only [cond_true] at q1
        subst q1
        rw [if_pos (Nat.eq_of_beq_eq_true hb)]
        exact hk E1 a1 w1 hle hr1 hf1
      | false =>
        rw [hb] at q1
        simp only [cond_false] at q1
        subst q1
        rw [if_neg (fun e => by rw [e, Nat.beq_refl] at hb; cases hb)]
        exact hk E1 a1 w1 hle hr1 hf1
    | _ =>
      obtain ⟨q1, q2, q3, _⟩ := pure_ok.1 h
      cases q1; subst q2 q3
      exact hk E1 a1 w1 hle hr1 hf1
  | loop b =>
    simp only [execS] at h
    replace h := bind_ok.1 h
    obtain ⟨⟨y, f1⟩, c1, h1, _, _, hp, h, _⟩ := h
    have key : loopWp Fe n P b Q a w := by
      refine loopWp_round ?_
      refine (he b Fe n _ E H w f f1 y a c _ _ _ hW hp hf hr fun E1 a1 w1 hle hr1 hf1 => ?_).1
      cases y with
      | normal =>
        exact (he (.loop b) Fe n Q E1 _ w1 f1 f' x a1 _ _ _ _ hW h hf1 hr1 fun E' a' w' hle' hr' hf' => hk E' a' w' (Env.le_trans hle hle') hr' hf').2 b rfl
      | _ =>
        obtain ⟨q1, q2, q3, _⟩ := pure_ok.1 h
        cases q1; subst q2 q3
        exact hk E1 a1 w1 hle hr1 hf1
    exact ⟨wpIn_of_loop key, fun b' e => by cases e; exact key⟩
  | exit id =>
    obtain ⟨q1, q2, q3, _⟩ := pure_ok.1 h
    cases q1; subst q2 q3
    exact nl (wpIn_exit (hk E a w E.le_refl hr hf)) (by simp)
  | ret =>
    obtain ⟨q1, q2, q3, _⟩ := pure_ok.1 h
    cases q1; subst q2 q3
    exact nl (wpIn_ret (hk E a w E.le_refl hr hf)) (by simp)
  | scope b =>
    simp only [execS] at h
    replace h := bind_ok.1 h
    obtain ⟨⟨y, f1⟩, c1, h1, _, _, hp, h, _⟩ := h
    refine nl (wpIn_scope_straight ?_) (by simp)
    refine (he b Fe n _ E H w f f1 y a c _ _ _ hW hp hf hr fun E1 a1 w1 hle hr1 hf1 => ?_).1
    cases y with
    | goto l => exact (bad_ok.1 h).elim
    | _ =>
      obtain ⟨q1, q2, q3, _⟩ := pure_ok.1 h
      cases q1; subst q2 q3
      exact hk E1 a1 w1 hle hr1 hf1
  | rangeFunc g ps assign body =>
    simp only [execS] at h
    replace h := beval h
    obtain ⟨v, _, hv, h⟩ := h
    exact nl (range_sound hcs he hW h (eval_sound hf hv) hf hr hk) (by simp)
  | _ => simp only [execS] at h; exact (bad_ok.1 h).elim

/-! ## Results and calls -/
def resF (a : Act) : ResultVar → Sem Value
  | .tmp t => pure (a.tmps.getD t undef)
  | .cell x t => do loadVar t (← asAddr (a.tmps.getD x undef))
theorem res_sound [Den] {f : Fr} {a : Act} (hf : FR E R f a) (hr : HR P w0 F E H w) {rs : List ResultVar} : ∀ {vs : List Value} {c c' : Nat} {H' : Heap} {L : Lg}, resA P f rs c H = .ok vs c' H' L →
    c' = c ∧ H' = H ∧ ∃ vs', (rs.mapM (resF a)).run P w = .ok vs' w ∧ LR E vs vs' := by
  induction rs with
  | nil =>
    intro vs c c' H' L h
    obtain ⟨rfl, rfl, rfl, _⟩ := pure_ok.1 h
    exact ⟨rfl, rfl, [], rfl, LR.nil E⟩
  | cons r rs ih =>
    intro vs c c' H' L h
    cases r with
    | tmp t =>
      simp only [resA] at h
      replace h := bopt h
      obtain ⟨v, _, hv, h⟩ := h
      replace h := bind_ok.1 h
      obtain ⟨us, c1, h1, _, _, hus, h, _⟩ := h
      obtain ⟨q1, q2, vs', q3, q4⟩ := ih hus
      obtain ⟨q5, q6, q7, _⟩ := pure_ok.1 h
      subst q5 q6 q7 q1 q2
      refine ⟨rfl, rfl, _ :: vs', ?_, LR.cons (hf.get hv) q4⟩
      simp only [List.mapM_cons, resF, Sem.run_bind, Sem.run_pure, Result.andThen_ok, q3]
    | cell x t =>
      simp only [resA] at h
      replace h := bopt h
      obtain ⟨p, _, hp, h⟩ := h
      replace h := bind_ok.1 h
      obtain ⟨v, c2, h2, _, _, hv, h, _⟩ := h
      obtain ⟨p1, p2, v', p3, p4⟩ := load_sound hv hr (hf.get hp)
      subst p1 p2
      replace h := bind_ok.1 h
      obtain ⟨us, c1, h1, _, _, hus, h, _⟩ := h
      obtain ⟨q1, q2, vs', q3, q4⟩ := ih hus
      obtain ⟨q5, q6, q7, _⟩ := pure_ok.1 h
      subst q5 q6 q7 q1 q2
      refine ⟨rfl, rfl, v' :: vs', ?_, LR.cons p4 q4⟩
      have p3' : (resF a (.cell x t)).run P w = .ok v' w := by
        simp only [resF]
        generalize a.tmps.getD x undef = u at p3 ⊢
        cases u <;> first | (simp [Instr.loadAt, Instr.sureAddr] at p3; done) | skip
        rename_i p
        cases p with
        | none => simp [Instr.loadAt, Instr.sureAddr] at p3
        | some q => rw [← p3]; rfl
      rw [List.mapM_cons, Sem.run_bind, p3', Result.andThen_ok, Sem.run_bind, q3, Result.andThen_ok]
      rfl
theorem results_sound [Den] {fn : Func} {f : Fr} {a : Act} (hf : FR E R f a) (hr : HR P w0 F E H w) {v : Value} {c c' : Nat} {H' : Heap} {L : Lg} (h : resultsA P fn f c H = .ok v c' H' L) :
    c' = c ∧ H' = H ∧ ∃ v', (results fn a.tmps).run P w = .ok v' w ∧ VR E v v' := by
  unfold resultsA at h
  replace h := bind_ok.1 h
  obtain ⟨vs, c1, h1, _, _, hvs, h, _⟩ := h
  obtain ⟨q1, q2, vs', q3, q4⟩ := res_sound hf hr hvs
  subst q1 q2
  have hrun : (results fn a.tmps).run P w = .ok (if h : vs'.toArray.size = 1 then vs'.toArray[0] else .tuple vs'.toArray) w := by
    have he : results fn a.tmps = (do let vs ← fn.results.mapM (resF a); pure (if h : vs.size = 1 then vs[0] else .tuple vs)) := by
      unfold results
      congr 1
    rw [he, Sem.run_bind, Array.mapM_eq_mapM_toList, Sem.run_map, q3]
    rfl
  cases vs with
  | nil =>
    obtain ⟨q5, q6, q7, _⟩ := pure_ok.1 h
    subst q5 q6 q7
    rw [q4.nil_inv] at hrun
    exact ⟨rfl, rfl, _, hrun, .tup_of (LR.nil E)⟩
  | cons u us =>
    obtain ⟨u', us', rfl, hu, hus⟩ := q4.cons_inv
    cases us with
    | nil =>
      obtain ⟨q5, q6, q7, _⟩ := pure_ok.1 h
      subst q5 q6 q7
      rw [hus.nil_inv] at hrun
      exact ⟨rfl, rfl, _, hrun, hu⟩
    | cons x xs =>
      obtain ⟨x', xs', rfl, hx, hxs⟩ := hus.cons_inv
      obtain ⟨q5, q6, q7, _⟩ := pure_ok.1 h
      subst q5 q6 q7
      rw [dif_neg (by simp)] at hrun
      exact ⟨rfl, rfl, _, hrun, .tup_of (by simpa using LR.cons hu (LR.cons hx hxs))⟩
end
end Go.Sx

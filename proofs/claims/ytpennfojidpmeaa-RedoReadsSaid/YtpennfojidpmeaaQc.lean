import Derived.Test.YtpennfojidpmeaaQb
import Derived.OrdersIn
import Derived.RangeFuncLeaves
import Derived.RangeFuncRecord
import Derived.Scope
namespace Go.Sx
section
variable {P : Program} {w0 : World} {F : Nat → Prop} {E : Env} {H : Heap} {w : World} {R : Option Nat}
inductive DsR [Den] (E : Env) : List Nat → List Deferred → Prop
  | nil : DsR E [] []
  | rest : DsR E [bigD] Den.jk
  | cons {i : Nat} {e : EI} {is : List Nat} {ds : List Deferred} (h : E i = some e) (t : DsR E is ds) : DsR E (i :: is) ({ target := .collected e.blk, args := #[] } :: ds)
theorem DsR.mono [Den] {E' : Env} (hle : E.le E') {is : List Nat} {ds : List Deferred} (h : DsR E is ds) : DsR E' is ds := by
  induction h with
  | nil => exact .nil
  | rest => exact .rest
  | cons h _ ih => exact .cons (hle _ _ h) ih
inductive RoR (E : Env) : Option Nat → Option Nat → Prop
  | none : RoR E none none
  | some {l : Nat} {e : EI} (h : E l = some e) : RoR E (some l) (some e.blk)
theorem RoR.mono {E' : Env} (hle : E.le E') {x y : Option Nat} (h : RoR E x y) : RoR E' x y := by
  cases h with
  | none => exact .none
  | some h => exact .some (hle _ _ h)
structure FR [Den] (E : Env) (R : Option Nat) (f : Fr) (a : Act) : Prop where
  defers : DsR E f.ds a.defers
  ro : RoR E f.ro R
  tr : TR E f a.tmps
theorem FR.size [Den] {f : Fr} {a : Act} (h : FR E R f a) : a.tmps.size = f.n := h.tr.size
theorem VR.undef [Den] (E : Env) : VR E undef undef := .tup_of (LR.nil E)
theorem FR.get [Den] {f : Fr} {a : Act} (h : FR E R f a) {k : Nat} {v : Value} (hk : f.get k = some v) : VR E v (a.tmps.getD k Go.undef) := (h.tr.val k v hk).2
theorem FR.mono [Den] {E' : Env} {f : Fr} {a : Act} (h : FR E R f a) (hle : E.le E') : FR E' R f a := ⟨h.defers.mono hle, h.ro.mono hle, h.tr.mono hle⟩
theorem TR.put [Den] {f : Fr} {tmps : Array Value} {v v' : Value} (h : TR E f tmps) (hv : VR E v v') (d : Tmp) : TR E (f.put (some d) v) (tmps.setIfInBounds d v') := by
  obtain ⟨t, n, ro, ds⟩ := f
  obtain ⟨h1, h2⟩ := h
  simp only at h1 h2
  unfold Fr.put
  simp only
  cases hb : Nat.blt d n with
  | false =>
    simp only [cond_false]
    have hd : ¬ d < tmps.size := fun hlt => by rw [h1] at hlt; rw [blt_iff.2 hlt] at hb; cases hb
    have : tmps.setIfInBounds d v' = tmps := by simp [Array.setIfInBounds, hd]
    rw [this]; exact ⟨h1, h2⟩
  | true =>
    simp only [cond_true]
    have hd := blt_iff.1 hb
    refine ⟨by simpa using h1, fun k u hk => ?_⟩
    simp only [Tr.get_set] at hk
    by_cases hkd : k = d
    · subst hkd
      rw [if_pos rfl] at hk
      cases hk
      refine ⟨hd, ?_⟩
      have e2 : (tmps.setIfInBounds k v').getD k Go.undef = v' := by
        rw [Array.getD_eq_getD_getElem?]; simp [h1, hd]
      rw [e2]; exact hv
    · rw [if_neg hkd] at hk
      have e2 : (tmps.setIfInBounds d v').getD k Go.undef = tmps.getD k Go.undef := by
        rw [Array.getD_eq_getD_getElem?, Array.getD_eq_getD_getElem?, Array.getElem?_setIfInBounds_ne (Ne.symm hkd)]
      rw [e2]; exact h2 k u hk
theorem put_ro (f : Fr) (dst : Option Tmp) (v : Value) : (f.put dst v).ro = f.ro ∧ (f.put dst v).ds = f.ds := by
  obtain ⟨t, n, ro, ds⟩ := f
  cases dst with
  | none => exact ⟨rfl, rfl⟩
  | some d =>
    unfold Fr.put
    simp only
    cases Nat.blt d n <;> exact ⟨rfl, rfl⟩
theorem FR.put [Den] {f : Fr} {a : Act} {v v' : Value} (h : FR E R f a) (hv : VR E v v') (dst : Option Tmp) : FR E R (f.put dst v) (a.put dst v') := by
  obtain ⟨p1, p2⟩ := put_ro f dst v
  cases dst with
  | none => exact h
  | some d => exact ⟨by rw [p2]; exact h.defers, by rw [p1]; exact h.ro, h.tr.put hv d⟩
theorem FR.puts [Den] : ∀ {ps : List Tmp} {args args' : List Value} {f : Fr} {tmps : Array Value} {ds : List Deferred}, FR E R f { tmps := tmps, defers := ds } → LR E args args' →
    FR E R (f.puts ps args) { tmps := (ps.zip args').foldl (fun t (p : Tmp × Value) => t.setIfInBounds p.1 p.2) tmps, defers := ds }
  | [], args, args', f, tmps, ds, h, _ => by simpa [Fr.puts] using h
  | p :: ps, [], args', f, tmps, ds, h, hl => by rw [hl.nil_inv]; simpa [Fr.puts] using h
  | p :: ps, v :: vs, args', f, tmps, ds, h, hl => by
    obtain ⟨v', vs', rfl, hv, hl'⟩ := hl.cons_inv
    simp only [Fr.puts, List.zip_cons_cons, List.foldl_cons]
    exact FR.puts (h.put hv (some p)) hl'
theorem eval_sound [Den] {f : Fr} {a : Act} (hf : FR E R f a) {x : Operand} {v : Value} {c : Nat} {h : Heap} {c' : Nat} {h' : Heap} {L : Lg} (hh : f.eval x c h = .ok v c' h' L) : VR E v (a.eval x) := by
  cases x with
  | tmp t => obtain ⟨hv, _⟩ := opt_ok.1 hh; exact hf.get hv
  | const u =>
    simp only [Fr.eval] at hh
    cases hc : cleanB u <;> rw [hc] at hh <;> simp only [cond_true, cond_false] at hh
    · exact (bad_ok.1 hh).elim
    · obtain ⟨rfl, _⟩ := pure_ok.1 hh; exact VR.clean hc
  | global g => simp only [Fr.eval] at hh; exact (bad_ok.1 hh).elim
  | func g =>
    obtain ⟨rfl, _⟩ := pure_ok.1 hh
    exact VR.cleanS rfl
theorem evalL_sound [Den] {f : Fr} {a : Act} (hf : FR E R f a) : ∀ {xs : List Operand} {vs : List Value} {c : Nat} {h : Heap} {c' : Nat} {h' : Heap} {L : Lg}, evalL f xs c h = .ok vs c' h' L → c' = c ∧ h' = h ∧ LR E vs (xs.map a.eval)
  | [], vs, c, h, c', h', L, hh => by
    obtain ⟨rfl, rfl, rfl, _⟩ := pure_ok.1 hh
    exact ⟨rfl, rfl, LR.nil E⟩
  | x :: xs, vs, c, h, c', h', L, hh => by
    replace hh := beval hh
    obtain ⟨v, _, hv, hh⟩ := hh
    replace hh := bind_ok.1 hh
    obtain ⟨us, c1, h1, _, _, hu, hh, _⟩ := hh
    obtain ⟨q1, q2, q3⟩ := evalL_sound hf hu
    obtain ⟨q4, q5, q6, _⟩ := pure_ok.1 hh
    subst q4 q5 q6 q1 q2
    exact ⟨rfl, rfl, LR.cons (eval_sound hf hv) q3⟩
theorem pairsL_sound [Den] {f : Fr} {a : Act} (hf : FR E R f a) : ∀ {xs : List (Nat × Operand)} {vs : List (Nat × Value)} {c : Nat} {h : Heap} {c' : Nat} {h' : Heap} {L : Lg}, pairsL f xs c h = .ok vs c' h' L →
    c' = c ∧ h' = h ∧ vs.map (·.1) = (xs.map fun (p : Nat × Operand) => (p.1, a.eval p.2)).map (·.1) ∧ LR E (vs.map (·.2)) ((xs.map fun (p : Nat × Operand) => (p.1, a.eval p.2)).map (·.2))
  | [], vs, c, h, c', h', L, hh => by
    obtain ⟨rfl, rfl, rfl, _⟩ := pure_ok.1 hh
    exact ⟨rfl, rfl, rfl, LR.nil E⟩
  | (i, x) :: xs, vs, c, h, c', h', L, hh => by
    replace hh := beval hh
    obtain ⟨v, _, hv, hh⟩ := hh
    replace hh := bind_ok.1 hh
    obtain ⟨us, c1, h1, _, _, hu, hh, _⟩ := hh
    obtain ⟨q1, q2, q3, q7⟩ := pairsL_sound hf hu
    obtain ⟨q4, q5, q6, _⟩ := pure_ok.1 hh
    subst q4 q5 q6 q1 q2
    exact ⟨rfl, rfl, by simpa using q3, LR.cons (eval_sound hf hv) q7⟩
theorem evalO_sound [Den] {f : Fr} {a : Act} (hf : FR E R f a) {x : Option Operand} {v : Option Value} {c : Nat} {h : Heap} {c' : Nat} {h' : Heap} {L : Lg} (hh : evalO f x c h = .ok v c' h' L) : c' = c ∧ h' = h ∧ OR E v (x.map a.eval) := by
  cases x with
  | none => obtain ⟨rfl, rfl, rfl, _⟩ := pure_ok.1 hh; exact ⟨rfl, rfl, .none⟩
  | some x =>
    simp only [evalO] at hh
    replace hh := beval hh
    obtain ⟨u, _, hu, hh⟩ := hh
    obtain ⟨rfl, rfl, rfl, _⟩ := pure_ok.1 hh
    exact ⟨rfl, rfl, .some (eval_sound hf hu)⟩
def Wd (Fe : Fence) : Prop := (∀ f, Fe.fn f) ∧ Fe.depth = none
def Callable (P : Program) (g : FuncId) : Prop := ∃ fn c, P.funcs[g]? = some fn ∧ (fn.name == "runtime.NumGoroutine") = false ∧ fn.body = some c
def CallSnd [Den] (P : Program) (w0 : World) (F : Nat → Prop) (r : Rec) : Prop := ∀ g args c H v c' H' L, r.call g args c H = .ok v c' H' L → Callable P g ∧
  ∀ E w args', HR P w0 F E H w → LR E args args' → ∀ Fe n, Wd Fe → CallsIn Fe n P g args'.toArray w (fun e w' => ∃ v' E', e = .returned v' ∧ E.le E' ∧ HR P w0 F E' H' w' ∧ VR E' v v')
def loopWp (Fe : Fence) (n : Nat) (P : Program) (c : Code) (Q : Exit → Act → World → Prop) (a : Act) (w : World) : Prop :=
  ∀ (b : Frame) (k : List Item) (cs : List Frame), b.roundOf = Fe.round → Fe.fn b.fn → Fe.room (cs.length + 1 + n) →
    ∃ e a' w', Q e a' w' ∧ ArrivesIn (Machine.fenced P Fe) P (lone (b.atR a (.code c :: .inLoop c :: k)) cs w) b k cs e a' w'
def ExecSnd [Den] (P : Program) (w0 : World) (F : Nat → Prop) (r : Rec) : Prop := ∀ (code : Code) (Fe : Fence) (n : Nat) (Q : Exit → Act → World → Prop) (E : Env) (H : Heap) (w : World) (f f' : Fr) (x : Exit) (a : Act) (c c' : Nat) (H' : Heap) (L : Lg),
  Wd Fe → r.exec code f c H = .ok (x, f') c' H' L → FR E Fe.round f a → HR P w0 F E H w →
  (∀ E' a' w', E.le E' → HR P w0 F E' H' w' → FR E' Fe.round f' a' → Q x a' w') → code.wpIn Fe n P Q a w ∧ ∀ b, code = .loop b → loopWp Fe n P b Q a w
theorem wp_val {Fe : Fence} {n : Nat} {o : Oper} {a : Act} {next : Act → World → Prop} {Q : Exit → Act → World → Prop} {v' : Value} {w' : World} (hW : Wd Fe) (hd : ∀ c, o.op ≠ .defer c)
    (h : (execOp a.eval o).run P w = .ok (.value v') w') (hk : next (a.put o.dst v') w') : o.wpIn Fe n P a w next Q := by
  refine ⟨fun f _ => hW.1 f, ?_⟩
  rw [Oper.semAt_eq _ _ _ hd, h]; exact hk
theorem wp_skip' {Fe : Fence} {n : Nat} {o : Oper} {a : Act} {next : Act → World → Prop} {Q : Exit → Act → World → Prop} {w' : World} (hW : Wd Fe) (hd : ∀ c, o.op ≠ .defer c)
    (h : (execOp a.eval o).run P w = .ok .skip w') (hk : next (a.put o.dst undef) w') : o.wpIn Fe n P a w next Q := by
  refine ⟨fun f _ => hW.1 f, ?_⟩
  rw [Oper.semAt_eq _ _ _ hd, h]; exact hk
theorem map_pairs (ps : Array (Nat × Operand)) (ρ : Operand → Value) : (ps.map fun (p : Nat × Operand) => (p.1, ρ p.2)).toList = ps.toList.map fun (p : Nat × Operand) => (p.1, ρ p.2) := by simp
theorem lpGet_inv {i c c' : Nat} {x : LpA} {H' : Heap} {L : Lg} (h : lpGet i c H = .ok x c' H' L) : c' = c ∧ H' = H ∧ H.get i = some (.loop x.st x.pend x.f x.ps x.assign x.body x.dfr) := by
  unfold lpGet at h
  split at h
  · rename_i hi; cases h; exact ⟨rfl, rfl, hi⟩
  · cases h
theorem lpSet_sound [Den] {i c c' : Nat} {st : LoopState} {pe : Option Code} {u : Unit} {H' : Heap} {L : Lg} (h : lpSet i st pe c H = .ok u c' H' L) (hr : HR P w0 F E H w) {e : EI} (he : E i = some e) :
    ∃ l, w.heap[e.blk]? = some (.loop l) ∧ HR P w0 F E H' (w.putObj e.blk (.loop { l with state := st, pending := pe })) := by
  unfold lpSet at h
  split at h
  · rename_i s0 p0 f ps a b d hi
    cases h
    obtain ⟨e', l, h1, h2, h3, h4, h5, h6, h7, h8, h9⟩ := hr.obj i _ hi
    rw [he] at h1; cases h1
    have hlt : e.blk < w.heap.size := hr.blk_lt hi rfl he
    refine ⟨l, h2, hr.turn hi rfl rfl he rfl rfl rfl World.putObj_size (fun b hb => World.putObj_heap_other hb) ⟨e, _, he, World.putObj_heap_same hlt, rfl, rfl, h5, h6, h7, h8, h9⟩⟩
  · cases h
theorem jump_inv {e : Exit} {j : Option Code} (h : jumpOf e = some j) : (e = .normal ∧ j = none) ∨ (e = .ret ∧ j = some .ret) ∨ (∃ id, e = .exit id ∧ j = some (.exit id)) ∨ (∃ l, e = .goto l ∧ j = some (.goto l)) := by
  cases e <;> simp only [jumpOf, Option.some.injEq, reduceCtorEq] at h <;> subst h
  · exact .inl ⟨rfl, rfl⟩
  · exact .inr (.inr (.inl ⟨_, rfl, rfl⟩))
  · exact .inr (.inr (.inr ⟨_, rfl, rfl⟩))
  · exact .inr (.inl ⟨rfl, rfl⟩)
theorem yield_sound [Den] {Fe : Fence} {n : Nat} {r : Rec} (hW : Wd Fe) (he : ExecSnd P w0 F r) {l : Nat} {e : EI} {args args' : List Value} {v : Value} {c c' : Nat} {H' : Heap} {L : Lg} (h : yieldA r l args c H = .ok v c' H' L)
    (hr : HR P w0 F E H w) (hE : E l = some e) (hargs : LR E args args') :
    ∃ lr : Loop, w.heap[e.blk]? = some (.loop lr) ∧ args'.toArray.size = lr.params.size ∧
      ∀ Rr : Ending → World → Prop, (∀ E' v' w', E.le E' → HR P w0 F E' H' w' → VR E' v v' → Rr (.returned v') w') →
        RoundIn Fe n P e.blk lr.fn ((lr.params.zip args'.toArray).foldl (fun tmps (t, a) => tmps.setIfInBounds t a) lr.tmps) lr.assign lr.body w Rr := by
  unfold yieldA at h
  replace h := bind_ok.1 h
  obtain ⟨x, c1, h1, _, _, hx, h, _⟩ := h
  obtain ⟨q1, q2, hi⟩ := lpGet_inv hx
  subst q1 q2
  replace h := bguard h
  obtain ⟨_, hg, h⟩ := h
  have hsz := Nat.eq_of_beq_eq_true hg
  obtain ⟨e', lr, k1, k2, k3, k4, k5, k6, k7, k8, ed, k9, k10⟩ := hr.obj l _ hi
  rw [hE] at k1; cases k1
  refine ⟨lr, k2, ?_, fun Rr hk => ?_⟩
  · have := hargs.len
    simp only [List.size_toArray]
    rw [← this, hsz, ← k5, Array.length_toList]
  replace h := bind_ok.1 h
  obtain ⟨⟨ex, f1⟩, c2, h2, _, _, hasg, h, _⟩ := h
  have hW2 : Wd (Fe.inRound e.blk) := hW
  refine roundIn_of_wpIn (hW.1 _) ?_
  have hf0 : FR E (Fe.inRound e.blk).round ⟨x.f.t, x.f.n, some l, []⟩ { tmps := lr.tmps, defers := [] } :=
    ⟨.nil, .some hE, ⟨k8.size, k8.val⟩⟩
  have hf1 := FR.puts (ps := x.ps) hf0 hargs
  have hfold : (x.ps.zip args').foldl (fun t (p : Tmp × Value) => t.setIfInBounds p.1 p.2) lr.tmps = (lr.params.zip args'.toArray).foldl (fun tmps (t, a) => tmps.setIfInBounds t a) lr.tmps := by
    rw [← Array.foldl_toList, Array.toList_zip, k5]
  rw [hfold] at hf1
  rw [k6, k7]
  refine (he x.assign (Fe.inRound e.blk) n _ E _ w _ f1 ex _ _ _ _ _ hW2 hasg hf1 hr fun E1 a1 w1 hle hr1 hff1 => ?_).1
  cases ex <;> simp only at h <;> first | (exact (bad_ok.1 h).elim) | skip
  replace h := bind_ok.1 h
  obtain ⟨y, c3, h3, _, _, hy, h, _⟩ := h
  obtain ⟨q1, q2, hi1⟩ := lpGet_inv hy
  subst q1 q2
  have hE1 := hle _ _ hE
  cases hst : y.st <;> rw [hst] at h <;> simp only at h <;> first | (exact (bad_ok.1 h).elim) | skip
  replace h := bind_ok.1 h
  obtain ⟨u, c4, h4, _, _, hset, h, _⟩ := h
  replace h := bind_ok.1 h
  obtain ⟨⟨e2, f2⟩, c5, h5, _, _, hbody, h, _⟩ := h
  obtain ⟨l1, m1, m2⟩ := lpSet_sound hset hr1 hE1
  have hst1 : l1.state = .ready := by
    obtain ⟨e'', l', g1, g2, g3, _⟩ := hr1.obj l _ hi1
    rw [hE1] at g1; cases g1
    rw [m1] at g2; cases g2
    rw [g3, hst]
  have hpe1 : l1.pending = y.pend := by
    obtain ⟨e'', l', g1, g2, g3, g4, _⟩ := hr1.obj l _ hi1
    rw [hE1] at g1; cases g1
    rw [m1] at g2; cases g2
    rw [g4]
  rw [← hpe1] at m2
  refine ⟨_, run_beginRound m1 hst1, ?_⟩
  refine (he x.body (Fe.inRound e.blk) n _ E1 _ _ _ f2 e2 _ _ _ _ _ hW2 hbody hff1 m2 fun E2 a2 w2 hle2 hr2 hff2 => ?_).1
  have hE2 := hle2 _ _ hE1
  have hle3 := Env.le_trans hle hle2
  simp only at h
  cases hj : jumpOf e2 with
  | none => rw [hj] at h; exact (bad_ok.1 h).elim
  | some j =>
    rw [hj] at h
    have fin : ∀ {st : LoopState} {b : Bool} {c6 : Nat} {H6 : Heap} {L6 : Lg}, M.bind (lpSet l st j) (fun _ => M.pure (.bool b)) c5 h5 = .ok v c6 H6 L6 → H6 = H' → st = (if j.isNone then .ready else .done) → b = j.isNone →
        ∃ v' w', (Instr.endRound e.blk j).run P w2 = .ok v' w' ∧ Rr (.returned v') w' := by
      intro st b c6 H6 L6 h hH hs hb
      replace h := bind_ok.1 h
      obtain ⟨u, c7, h7, _, _, hset2, h, _⟩ := h
      obtain ⟨p1, p2, p3, _⟩ := pure_ok.1 h
      subst p1 p2 p3 hH
      obtain ⟨l2, m3, m4⟩ := lpSet_sound hset2 hr2 hE2
      refine ⟨_, _, run_endRound j m3, ?_⟩
      rw [← hs, ← hb]
      exact hk E2 _ _ hle3 m4 (.bool _)
    rcases jump_inv hj with ⟨rfl, rfl⟩ | ⟨rfl, rfl⟩ | ⟨id, rfl, rfl⟩ | ⟨t, rfl, rfl⟩
    · exact fin h rfl rfl rfl
    · exact fin h rfl rfl rfl
    · exact fin h rfl rfl rfl
    · exact fin h rfl rfl rfl
theorem callV_sound [Den] {Fe : Fence} {n : Nat} {r : Rec} {o : Oper} {a : Act} {next : Act → World → Prop} {Q : Exit → Act → World → Prop} (hW : Wd Fe) (hcs : CallSnd P w0 F r) (he : ExecSnd P w0 F r) {cl : Call} {g : Operand} (ho : o.op = .call cl) (hcl : cl.callee = .value g)
    {fv v : Value} {args : List Value} {c c' : Nat} {H' : Heap} {L : Lg} (h : callV r fv args c H = .ok v c' H' L) (hr : HR P w0 F E H w) (hfv : VR E fv (a.eval g)) (hargs : LR E args (cl.args.toList.map a.eval))
    (hk : ∀ E' v' w', E.le E' → HR P w0 F E' H' w' → VR E' v v' → next (a.put o.dst v') w') : o.wpIn Fe n P a w next Q := by
  unfold callV at h
  split at h
  · rename_i gid first captured
    generalize hga : a.eval g = gv at hfv
    cases hfv with
    | fn hf1 h1 hc1 h2 =>
      rename_i f' c'
      obtain ⟨⟨fn, body, hfn, hname, hbody⟩, hcalls⟩ := hcs _ _ _ _ _ _ _ _ h
      have hrun : (execOp a.eval o).run P w = .ok (.enter gid (f' ++ (cl.args.map a.eval) ++ c')) w := by
        simp only [execOp, ho, resolve, hcl, hga, Deferred.ofValue, Sem.run_bind, Sem.run_pure, Result.andThen_ok, invoke, callFunc, run_program, hfn, hname, hbody]
        simp
      refine ⟨fun f _ => hW.1 f, ?_⟩
      rw [Oper.semAt_eq _ _ _ (fun c e => by rw [ho] at e; cases e), hrun]
      refine ⟨(fun hd => by rw [hW.2] at hd; cases hd), ?_⟩
      have hlr : LR E (first.toList ++ args ++ captured.toList) (f' ++ (cl.args.map a.eval) ++ c').toList := by
        rw [Array.toList_append, Array.toList_append, Array.toList_map]
        exact LR.append (LR.append ⟨hf1, h1⟩ hargs) ⟨hc1, h2⟩
      have hc := hcalls E w _ hr hlr Fe (n - 1) hW
      simp only [Array.toArray_toList] at hc
      refine hc.mono fun e w' ⟨v', E', he, hle, hr', hv'⟩ => ?_
      subst he
      exact hk E' v' w' hle hr' hv'
  · rename_i l first captured
    cases hb : (Nat.beq first.size 0 && Nat.beq captured.size 0) with
    | false => rw [hb] at h; simp only [cond_false] at h; exact (bad_ok.1 h).elim
    | true =>
      rw [hb] at h
      simp only [cond_true] at h
      generalize hga : a.eval g = gv at hfv
      cases hfv with
      | yl hl =>
        rename_i e
        obtain ⟨lr, k1, k2, k3⟩ := yield_sound (n := n - 1) hW he h hr hl hargs
        have hargs' : (cl.args.map a.eval) = (cl.args.toList.map a.eval).toArray := by apply Array.toList_inj.1; simp
        have hrun : (execOp a.eval o).run P w = .ok (.round e.blk lr.fn ((lr.params.zip (cl.args.map a.eval)).foldl (fun tmps (t, a) => tmps.setIfInBounds t a) lr.tmps) lr.assign lr.body) w := by
          simp only [execOp, ho, resolve, hcl, hga, Deferred.ofValue, Sem.run_bind, Sem.run_pure, Result.andThen_ok, invoke]
          rw [show (#[] ++ cl.args.map a.eval : Array Value) = cl.args.map a.eval from by simp]
          rw [run_yield k1 (by rw [hargs']; exact k2)]
        refine ⟨fun f _ => hW.1 f, ?_⟩
        rw [Oper.semAt_eq _ _ _ (fun c e => by rw [ho] at e; cases e), hrun]
        rw [Oper.uponIn_round]
        refine ⟨(fun hd => by rw [hW.2] at hd; cases hd), ?_⟩
        rw [hargs']
        exact k3 _ fun E' v' w' hle hr' hv => hk E' v' w' hle hr' hv
  · exact (bad_ok.1 h).elim
end
end Go.Sx
namespace Go.Sx
section
variable {P : Program} {w0 : World} {F : Nat → Prop} {E : Env} {H : Heap} {w : World} {R : Option Nat}
theorem pairs_fst (xs : List (Nat × Operand)) (ρ : Operand → Value) : (xs.map fun (p : Nat × Operand) => (p.1, ρ p.2)) = xs.map fun (i, x) => (i, ρ x) := rfl
theorem findLd_of {t k : Nat} : ∀ {l : List LdE} {e : LdE}, findLd t k l = some e → e ∈ l ∧ t = e.t ∧ k = e.k
  | [], e, h => by cases h
  | x :: l, e, h => by
    simp only [findLd] at h
    cases hb : (Nat.beq x.t t && Nat.beq x.k k) with
    | true =>
      rw [hb] at h
      cases h
      simp only [Bool.and_eq_true] at hb
      exact ⟨List.mem_cons_self, (Nat.eq_of_beq_eq_true hb.1).symm, (Nat.eq_of_beq_eq_true hb.2).symm⟩
    | false =>
      rw [hb] at h
      obtain ⟨h1, h2⟩ := findLd_of h
      exact ⟨List.mem_cons_of_mem _ h1, h2⟩
theorem findApp_of {ats : List TypeId} {args : List Value} {c : Nat} : ∀ {l : List (List TypeId × Entry)} {e : Entry}, findApp ats args c l = some e → ∃ ts, (ts, e) ∈ l ∧ c = e.c ∧ args = e.args ∧ ts = ats
  | [], e, h => by cases h
  | (ts, x) :: l, e, h => by
    simp only [findApp] at h
    cases hb : (Nat.beq x.c c && beqVL args x.args && decide (ts = ats)) with
    | true =>
      rw [hb] at h
      cases h
      simp only [Bool.and_eq_true, decide_eq_true_eq] at hb
      exact ⟨ts, List.mem_cons_self, (Nat.eq_of_beq_eq_true hb.1.1).symm, beqVL_eq hb.1.2, hb.2⟩
    | false =>
      rw [hb] at h
      obtain ⟨ts, h1, h2⟩ := findApp_of h
      exact ⟨ts, List.mem_cons_of_mem _ h1, h2⟩
theorem op_sound [Den] [Asm] [AsmOK P] {Fe : Fence} {n : Nat} {r : Rec} {f : Fr} {o : Oper} {a : Act} {next : Act → World → Prop} {Q : Exit → Act → World → Prop} (hW : Wd Fe) (hcs : CallSnd P w0 F r) (he : ExecSnd P w0 F r)
    {v : Value} {c c' : Nat} {H' : Heap} {L : Lg} (h : opA P r f o c H = .ok v c' H' L) (hf : FR E R f a) (hr : HR P w0 F E H w)
    (hk : ∀ E' v' w', E.le E' → HR P w0 F E' H' w' → VR E' v v' → next (a.put o.dst v') w') : o.wpIn Fe n P a w next Q := by
  have nd : ∀ (op : Op), o.op = op → (∀ c, op ≠ .defer c) → ∀ c, o.op ≠ .defer c := fun op h1 h2 c => by rw [h1]; exact h2 c
  -- a step that leaves the world alone
  have stay : ∀ {v' : Value}, c' = c → H' = H → (∀ c, o.op ≠ .defer c) → (execOp a.eval o).run P w = .ok (.value v') w → VR E v v' → o.wpIn Fe n P a w next Q :=
    fun e1 e2 hd hrun hv => wp_val hW hd hrun (hk E _ w (E.le_refl) (by rw [e2]; exact hr) hv)
  unfold opA at h
  generalize ho : o.op = op at h
  cases op
  case move x =>
    dsimp only [oPick, oAlloc, oBox, oBuild, oBuildSlice, oLoad, oStore, oNilCheck, oBinOp, oUnOp, oConvert, oMakeFunc, oSliceToArrayPointer, oMakeSlice, oSlice, oFieldAddr, oField, oIndexAddr, oIndex, oLookup, oMapUpdate, oInsert, oExtract, oCall] at h
    obtain ⟨q1, q2, _⟩ := eval_ok h
    exact stay q1 q2 (nd _ ho (by simp)) (by simp [execOp, ho]) (eval_sound hf h)
  case assign x =>
    dsimp only [oPick, oAlloc, oBox, oBuild, oBuildSlice, oLoad, oStore, oNilCheck, oBinOp, oUnOp, oConvert, oMakeFunc, oSliceToArrayPointer, oMakeSlice, oSlice, oFieldAddr, oField, oIndexAddr, oIndex, oLookup, oMapUpdate, oInsert, oExtract, oCall] at h
    obtain ⟨q1, q2, _⟩ := eval_ok h
    exact stay q1 q2 (nd _ ho (by simp)) (by simp [execOp, ho]) (eval_sound hf h)
  case pick cd x y =>
    dsimp only [oPick, oAlloc, oBox, oBuild, oBuildSlice, oLoad, oStore, oNilCheck, oBinOp, oUnOp, oConvert, oMakeFunc, oSliceToArrayPointer, oMakeSlice, oSlice, oFieldAddr, oField, oIndexAddr, oIndex, oLookup, oMapUpdate, oInsert, oExtract, oCall] at h
    replace h := beval h; obtain ⟨cv, _, hcv, h⟩ := h
    replace h := beval h; obtain ⟨xv, _, hxv, h⟩ := h
    replace h := beval h; obtain ⟨yv, _, hyv, h⟩ := h
    have e1 := eval_sound hf hcv
    have e2 := eval_sound hf hxv
    have e3 := eval_sound hf hyv
    cases htr : truth cv with
    | none => rw [htr] at h; exact (bad_ok.1 h).elim
    | some t =>
    rw [htr] at h
    dsimp only at h
    generalize hga : a.eval cd = gv at e1
    have := truth_sound (P := P) htr e1
    subst this
    obtain ⟨q0, q1, q2, _⟩ := pure_ok.1 h
    refine stay (v' := if t then a.eval x else a.eval y) q1 q2 (nd _ ho (by simp)) (by simp [execOp, ho, hga, asBool]) ?_
    subst q0
    cases t
    · simpa using e3
    · simpa using e2
  case alloc el =>
    dsimp only [oPick, oAlloc, oBox, oBuild, oBuildSlice, oLoad, oStore, oNilCheck, oBinOp, oUnOp, oConvert, oMakeFunc, oSliceToArrayPointer, oMakeSlice, oSlice, oFieldAddr, oField, oIndexAddr, oIndex, oLookup, oMapUpdate, oInsert, oExtract, oCall] at h
    replace h := bopt h; obtain ⟨z, _, hz, h⟩ := h
    replace h := bguard h; obtain ⟨_, hcl, h⟩ := h
    obtain ⟨E', k1, k2, k3⟩ := newRow_sound h hr (VR.clean (E := E) hcl).cells
    refine wp_val hW (nd _ ho (by simp)) ?_ (hk E' _ _ k1 k2 k3)
    simp [execOp, ho, Instr.alloc, run_zero hz, newVar, run_newRow]
  case box el x =>
    dsimp only [oPick, oAlloc, oBox, oBuild, oBuildSlice, oLoad, oStore, oNilCheck, oBinOp, oUnOp, oConvert, oMakeFunc, oSliceToArrayPointer, oMakeSlice, oSlice, oFieldAddr, oField, oIndexAddr, oIndex, oLookup, oMapUpdate, oInsert, oExtract, oCall] at h
    replace h := beval h; obtain ⟨xv, _, hxv, h⟩ := h
    obtain ⟨E', k1, k2, k3⟩ := newRow_sound h hr (eval_sound hf hxv).cells
    refine wp_val hW (nd _ ho (by simp)) ?_ (hk E' _ _ k1 k2 k3)
    simp [execOp, ho, Instr.box, newVar, run_newRow]
  case build t ps =>
    dsimp only [oPick, oAlloc, oBox, oBuild, oBuildSlice, oLoad, oStore, oNilCheck, oBinOp, oUnOp, oConvert, oMakeFunc, oSliceToArrayPointer, oMakeSlice, oSlice, oFieldAddr, oField, oIndexAddr, oIndex, oLookup, oMapUpdate, oInsert, oExtract, oCall] at h
    replace h := bind_ok.1 h; obtain ⟨vs, c1, h1, _, _, hvs, h, _⟩ := h
    obtain ⟨q1, q2, q3, q4⟩ := pairsL_sound hf hvs
    obtain ⟨q5, q6, q7, _⟩ := opt_ok.1 h
    obtain ⟨v', hv1, hv2⟩ := build_sound (w := w) (parts' := ps.map fun (p : Nat × Operand) => (p.1, a.eval p.2)) q5 (by rw [map_pairs]; exact q3) (by rw [map_pairs]; exact q4)
    refine stay (q6.trans q1) (q7.trans q2) (nd _ ho (by simp)) ?_ hv2
    simp only [execOp, ho, Sem.run_bind]
    rw [show (ps.map fun (i, x) => (i, a.eval x)) = ps.map fun (p : Nat × Operand) => (p.1, a.eval p.2) from rfl, hv1]; rfl
  case buildSlice t m ps =>
    dsimp only [oPick, oAlloc, oBox, oBuild, oBuildSlice, oLoad, oStore, oNilCheck, oBinOp, oUnOp, oConvert, oMakeFunc, oSliceToArrayPointer, oMakeSlice, oSlice, oFieldAddr, oField, oIndexAddr, oIndex, oLookup, oMapUpdate, oInsert, oExtract, oCall] at h
    replace h := bind_ok.1 h; obtain ⟨vs, c1, h1, _, _, hvs, h, _⟩ := h
    obtain ⟨q1, q2, q3, q4⟩ := pairsL_sound hf hvs
    subst q1 q2
    obtain ⟨v', w', E', k1, k2, k3, k4⟩ := buildSlice_sound (parts' := ps.map fun (p : Nat × Operand) => (p.1, a.eval p.2)) h hr (by rw [map_pairs]; exact q3) (by rw [map_pairs]; exact q4)
    refine wp_val hW (nd _ ho (by simp)) ?_ (hk E' _ _ k2 k3 k4)
    simp only [execOp, ho, Sem.run_bind]
    rw [show (ps.map fun (i, x) => (i, a.eval x)) = ps.map fun (p : Nat × Operand) => (p.1, a.eval p.2) from rfl, k1]; rfl
  case load t x =>
    dsimp only [oPick, oAlloc, oBox, oBuild, oBuildSlice, oLoad, oStore, oNilCheck, oBinOp, oUnOp, oConvert, oMakeFunc, oSliceToArrayPointer, oMakeSlice, oSlice, oFieldAddr, oField, oIndexAddr, oIndex, oLookup, oMapUpdate, oInsert, oExtract, oCall] at h
    replace h := beval h; obtain ⟨xv, _, hxv, h⟩ := h
    split at h
    · rename_i k
      unfold loadX at h
      cases hfl : findLd t k Asm.lds with
      | none =>
        rw [hfl] at h
        simp only at h
        unfold appX at h
        cases hfa : findApp [t, 1000000] [.chan (some k)] c Asm.apps with
        | none => rw [hfa] at h; cases h
        | some e =>
          rw [hfa] at h
          obtain ⟨ts, m1, m2, m3, m4⟩ := findApp_of hfa
          subst m2
          have hl : LR E e.args [a.eval x] := by rw [← m3]; exact LR.cons (eval_sound hf hxv) (LR.nil E)
          obtain ⟨v', k1, E', k2, k3, k4⟩ := (AsmOK.app (P := P) _ m1).2.1 t m4 w0 F E H w _ _ _ _ _ h hr hl _ rfl
          exact wp_val hW (nd _ ho (by simp)) (by simp [execOp, ho, k1]) (hk E' _ _ k2 k3 k4)
      | some e =>
        rw [hfl] at h
        simp only at h
        split at h
        · rename_i T j ro hx
          cases hb : Nat.beq j e.j with
          | false => rw [hb] at h; cases h
          | true =>
            rw [hb] at h
            cases h
            have hj := Nat.eq_of_beq_eq_true hb
            subst hj
            obtain ⟨m1, m2, m3⟩ := findLd_of hfl
            subst m2 m3
            obtain ⟨v', k1, k2⟩ := AsmOK.ld (P := P) e m1 w0 F E H w T ro _ hr (.inl hx) (eval_sound hf hxv)
            exact stay rfl rfl (nd _ ho (by simp)) (by simp [execOp, ho, k1]) k2
        · rename_i T j ro hx
          cases hb : Nat.beq j e.j with
          | false => rw [hb] at h; cases h
          | true =>
            rw [hb] at h
            cases h
            have hj := Nat.eq_of_beq_eq_true hb
            subst hj
            obtain ⟨m1, m2, m3⟩ := findLd_of hfl
            subst m2 m3
            obtain ⟨v', k1, k2⟩ := AsmOK.ld (P := P) e m1 w0 F E H w T ro _ hr (.inr hx) (eval_sound hf hxv)
            exact stay rfl rfl (nd _ ho (by simp)) (by simp [execOp, ho, k1]) k2
        · cases h
    · obtain ⟨q1, q2, v', hv1, hv2⟩ := load_sound h hr (eval_sound hf hxv)
      exact stay q1 q2 (nd _ ho (by simp)) (by simp [execOp, ho, hv1]) hv2
  case store t x y =>
    dsimp only [oPick, oAlloc, oBox, oBuild, oBuildSlice, oLoad, oStore, oNilCheck, oBinOp, oUnOp, oConvert, oMakeFunc, oSliceToArrayPointer, oMakeSlice, oSlice, oFieldAddr, oField, oIndexAddr, oIndex, oLookup, oMapUpdate, oInsert, oExtract, oCall] at h
    replace h := beval h; obtain ⟨xv, _, hxv, h⟩ := h
    replace h := beval h; obtain ⟨yv, _, hyv, h⟩ := h
    replace h := bind_ok.1 h; obtain ⟨u, c1, h1, _, _, hst, h, _⟩ := h
    unfold storeX at hst
    split at hst
    · rename_i k
      replace hst := bind_ok.1 hst
      obtain ⟨r, c2, h2, _, _, hap, hst, _⟩ := hst
      obtain ⟨_, g3, g4, _⟩ := pure_ok.1 hst
      subst g3 g4
      unfold appX at hap
      cases hfa : findApp [t, 1000001] [.chan (some k), yv] c Asm.apps with
      | none => rw [hfa] at hap; cases hap
      | some e =>
        rw [hfa] at hap
        obtain ⟨ts, m1, m2, m3, m4⟩ := findApp_of hfa
        subst m2
        have hl : LR E e.args [a.eval x, a.eval y] := by rw [← m3]; exact LR.cons (eval_sound hf hxv) (LR.cons (eval_sound hf hyv) (LR.nil E))
        obtain ⟨w', k1, E', k2, k3⟩ := (AsmOK.app (P := P) _ m1).2.2.1 t m4 w0 F E H w _ _ _ _ _ hap hr hl _ _ rfl
        obtain ⟨q2, q3, q4, _⟩ := pure_ok.1 h
        subst q2 q3 q4
        refine wp_skip' hW (nd _ ho (by simp)) (w' := w') ?_ (hk E' _ _ k2 k3 (VR.undef E'))
        simp [execOp, ho, k1]
    · obtain ⟨q1, w', k1, k2⟩ := store_sound hst hr (eval_sound hf hxv) (eval_sound hf hyv)
      obtain ⟨q2, q3, q4, _⟩ := pure_ok.1 h
      subst q2 q3 q4
      refine wp_skip' hW (nd _ ho (by simp)) (w' := w') ?_ (hk E _ _ E.le_refl k2 (VR.undef E))
      simp [execOp, ho, k1]
  case nilCheck x =>
    dsimp only [oPick, oAlloc, oBox, oBuild, oBuildSlice, oLoad, oStore, oNilCheck, oBinOp, oUnOp, oConvert, oMakeFunc, oSliceToArrayPointer, oMakeSlice, oSlice, oFieldAddr, oField, oIndexAddr, oIndex, oLookup, oMapUpdate, oInsert, oExtract, oCall] at h
    replace h := beval h; obtain ⟨xv, _, hxv, h⟩ := h
    have e1 := eval_sound hf hxv
    generalize hga : a.eval x = gv at e1
    cases xv <;> (try simp only at h) <;> first | (exact (bad_ok.1 h).elim) | skip
    · rename_i p
      cases p <;> (try simp only at h) <;> first | (exact (bad_ok.1 h).elim) | skip
      obtain ⟨q0, q1, q2, _⟩ := pure_ok.1 h
      subst q0
      cases e1 with
      | ptr he => exact stay q1 q2 (nd _ ho (by simp)) (by simp [execOp, ho, hga]) (.ptr he)
    · rename_i g p q
      cases g <;> simp only at h <;> first | (exact (bad_ok.1 h).elim) | skip
      obtain ⟨q0, q1, q2, _⟩ := pure_ok.1 h
      subst q0
      cases e1 with
      | fn a1 a2 a3 a4 => exact stay q1 q2 (nd _ ho (by simp)) (by simp [execOp, ho, hga]) (.fn a1 a2 a3 a4)
  case binOp op t x y yt =>
    dsimp only [oPick, oAlloc, oBox, oBuild, oBuildSlice, oLoad, oStore, oNilCheck, oBinOp, oUnOp, oConvert, oMakeFunc, oSliceToArrayPointer, oMakeSlice, oSlice, oFieldAddr, oField, oIndexAddr, oIndex, oLookup, oMapUpdate, oInsert, oExtract, oCall] at h
    replace h := beval h; obtain ⟨xv, _, hxv, h⟩ := h
    replace h := beval h; obtain ⟨yv, _, hyv, h⟩ := h
    obtain ⟨q1, q2, v', hv1, hv2⟩ := bin_sound (x := x) (y := y) h (eval_sound hf hxv) (eval_sound hf hyv) w
    refine stay q1 q2 (nd _ ho (by simp)) ?_ hv2
    simp only [execOp, ho, Sem.run_bind (P := P) (w := w) (x := (do eqGuard op t x y (a.eval x) (a.eval y); binOp op t (a.eval x) (a.eval y))), hv1]; rfl
  case unOp op t x =>
    dsimp only [oPick, oAlloc, oBox, oBuild, oBuildSlice, oLoad, oStore, oNilCheck, oBinOp, oUnOp, oConvert, oMakeFunc, oSliceToArrayPointer, oMakeSlice, oSlice, oFieldAddr, oField, oIndexAddr, oIndex, oLookup, oMapUpdate, oInsert, oExtract, oCall] at h
    replace h := beval h; obtain ⟨xv, _, hxv, h⟩ := h
    have e1 := eval_sound hf hxv
    cases hp : plainB xv with
    | false =>
      rw [hp] at h
      simp only [cond_false] at h
      obtain ⟨q5, q6, q7, _⟩ := opt_ok.1 h
      obtain ⟨r', k1, k2⟩ := AsmOK.ok (P := P) _ _ q5 E _ e1 w
      exact stay q6 q7 (nd _ ho (by simp)) (by simp [execOp, ho, k2]) k1
    | true =>
      rw [hp] at h
      simp only [cond_true] at h
      obtain ⟨q5, q6, q7, _⟩ := opt_ok.1 h
      obtain ⟨k1, k2⟩ := pure_run q5 (quiet_un hp) w
      have ea := e1.plain hp
      exact stay q6 q7 (nd _ ho (by simp)) (by simp [execOp, ho, ea, k1]) (VR.clean k2)
  case convert s d x =>
    dsimp only [oPick, oAlloc, oBox, oBuild, oBuildSlice, oLoad, oStore, oNilCheck, oBinOp, oUnOp, oConvert, oMakeFunc, oSliceToArrayPointer, oMakeSlice, oSlice, oFieldAddr, oField, oIndexAddr, oIndex, oLookup, oMapUpdate, oInsert, oExtract, oCall] at h
    replace h := beval h; obtain ⟨xv, _, hxv, h⟩ := h
    have e1 := eval_sound hf hxv
    cases hcc : (isIntT P s && isIntT P d && isIntV xv) with
    | false =>
      rw [hcc] at h
      simp only [cond_false] at h
      obtain ⟨q5, q6, q7, _⟩ := opt_ok.1 h
      obtain ⟨r', k1, k2⟩ := AsmOK.ok (P := P) _ _ q5 E _ e1 w
      exact stay q6 q7 (nd _ ho (by simp)) (by simp [execOp, ho, k2]) k1
    | true =>
      rw [hcc] at h
      simp only [cond_true] at h
      simp only [Bool.and_eq_true] at hcc
      obtain ⟨⟨hs0, hd0⟩, hv0⟩ := hcc
      obtain ⟨ks, hs⟩ : ∃ k, P.underlying s = some (.int k) := by
        unfold isIntT at hs0; split at hs0
        · rename_i k hk; exact ⟨k, hk⟩
        · cases hs0
      obtain ⟨kd, hd⟩ : ∃ k, P.underlying d = some (.int k) := by
        unfold isIntT at hd0; split at hd0
        · rename_i k hk; exact ⟨k, hk⟩
        · cases hd0
      obtain ⟨q5, q6, q7, _⟩ := opt_ok.1 h
      cases xv <;> first | (simp [isIntV] at hv0; done) | skip
      rename_i k3 m
      have ea := e1.plain rfl
      have hq : Quiet P (convert s d (.int k3 m)) := by
        unfold convert
        refine Quiet.bind (quiet_underlying s) fun u1 h1 => Quiet.bind (quiet_underlying d) fun u2 h2 => ?_
        obtain ⟨w1, w2, h1⟩ := h1
        obtain ⟨w3, w4, h2⟩ := h2
        rw [run_underlying hs] at h1
        rw [run_underlying hd] at h2
        cases h1; cases h2
        exact Quiet.pure _
      obtain ⟨k1, k2⟩ := pure_run q5 hq w
      exact stay q6 q7 (nd _ ho (by simp)) (by simp [execOp, ho, ea, k1]) (VR.clean k2)
  case makeFunc g x y =>
    dsimp only [oPick, oAlloc, oBox, oBuild, oBuildSlice, oLoad, oStore, oNilCheck, oBinOp, oUnOp, oConvert, oMakeFunc, oSliceToArrayPointer, oMakeSlice, oSlice, oFieldAddr, oField, oIndexAddr, oIndex, oLookup, oMapUpdate, oInsert, oExtract, oCall] at h
    replace h := bind_ok.1 h; obtain ⟨xs, c1, h1, _, _, hxs, h, _⟩ := h
    replace h := bind_ok.1 h; obtain ⟨ys, c2, h2, _, _, hys, h, _⟩ := h
    obtain ⟨q1, q2, q3⟩ := evalL_sound hf hxs
    obtain ⟨q4, q5, q6⟩ := evalL_sound hf hys
    cases g <;> simp only at h <;> first | (exact (bad_ok.1 h).elim) | skip
    rename_i g
    obtain ⟨q0, q7, q8, _⟩ := pure_ok.1 h
    subst q0
    refine stay (v' := .func (.func g) (x.map a.eval) (y.map a.eval)) (q7.trans (q4.trans q1)) (q8.trans (q5.trans q2)) (nd _ ho (by simp)) (by simp [execOp, ho, Instr.makeFunc]) ?_
    have l1 : LR E xs.toArray.toList (x.map a.eval).toList := by simpa using q3
    have l2 : LR E ys.toArray.toList (y.map a.eval).toList := by simpa using q6
    exact .fn l1.1 l1.2 l2.1 l2.2
  case makeMap t r =>
    cases r <;> dsimp only at h <;> first | (exact (bad_ok.1 h).elim) | skip
    replace h := bind_ok.1 h; obtain ⟨j, c1, h1, _, _, hj0, h, _⟩ := h
    obtain ⟨q0, q1, q2, _⟩ := pure_ok.1 h
    obtain ⟨hj1, hj2, hj, hj3, _⟩ := newA_inv hj0
    subst q0 q1 q2 hj1 hj2 hj3
    have hfr := hr.fresh (o := .map []) (b := .map #[] 0) (cap := 0) hj (fun w' hw' => ⟨_, #[], 0, by simp [Env.upd]; rfl, by rw [hw']; simp, .nil⟩)
    have hE : Env.upd E j ⟨w.heap.size, 0, 0⟩ j = some ⟨w.heap.size, 0, 0⟩ := by simp [Env.upd]
    refine wp_val hW (nd _ ho (by simp)) (w' := { w with heap := w.heap.push (.map #[] 0) }) (v' := .map (some w.heap.size)) ?_ (hk _ _ _ hfr.1 hfr.2 (.map hE))
    simp [execOp, ho, Instr.makeMap]
  case makeSlice t x y =>
    dsimp only [oPick, oAlloc, oBox, oBuild, oBuildSlice, oLoad, oStore, oNilCheck, oBinOp, oUnOp, oConvert, oMakeFunc, oSliceToArrayPointer, oMakeSlice, oSlice, oFieldAddr, oField, oIndexAddr, oIndex, oLookup, oMapUpdate, oInsert, oExtract, oCall] at h
    replace h := beval h; obtain ⟨xv, _, hxv, h⟩ := h
    replace h := beval h; obtain ⟨yv, _, hyv, h⟩ := h
    obtain ⟨v', w', E', k1, k2, k3, k4⟩ : ∃ v' w' E', (Instr.makeSlice t (a.eval x) (a.eval y)).run P w = .ok v' w' ∧ E.le E' ∧ HR P w0 F E' H' w' ∧ VR E' v v' := by
      unfold makeX at h
      cases hsy : isSym xv with
      | false => rw [hsy] at h; exact makeSlice_sound h hr (eval_sound hf hxv) (eval_sound hf hyv)
      | true =>
        rw [hsy] at h
        simp only [cond_true] at h
        unfold appX at h
        cases hfa : findApp [t, 1000002] [xv, yv] c Asm.apps with
        | none => rw [hfa] at h; cases h
        | some e =>
          rw [hfa] at h
          obtain ⟨ts, m1, m2, m3, m4⟩ := findApp_of hfa
          subst m2
          have hl : LR E e.args [a.eval x, a.eval y] := by rw [← m3]; exact LR.cons (eval_sound hf hxv) (LR.cons (eval_sound hf hyv) (LR.nil E))
          exact (AsmOK.app (P := P) _ m1).2.2.2.1 t m4 w0 F E H w _ _ _ _ _ h hr hl _ _ rfl
    refine wp_val hW (nd _ ho (by simp)) ?_ (hk E' _ _ k2 k3 k4)
    simp [execOp, ho, k1]
  case sliceToArrayPointer t x =>
    dsimp only [oPick, oAlloc, oBox, oBuild, oBuildSlice, oLoad, oStore, oNilCheck, oBinOp, oUnOp, oConvert, oMakeFunc, oSliceToArrayPointer, oMakeSlice, oSlice, oFieldAddr, oField, oIndexAddr, oIndex, oLookup, oMapUpdate, oInsert, oExtract, oCall] at h
    replace h := beval h; obtain ⟨xv, _, hxv, h⟩ := h
    cases hcx : isCx xv with
    | false =>
      rw [hcx] at h
      obtain ⟨p1, p2, p3, _⟩ := opt_ok.1 h
      obtain ⟨v', hv1, hv2⟩ := arrayAt_sound p1 (eval_sound hf hxv) w
      exact stay p2 p3 (nd _ ho (by simp)) (by simp [execOp, ho, hv1]) hv2
    | true =>
      rw [hcx] at h
      simp only [cond_true] at h
      unfold appX at h
      cases hfa : findApp [t, 1000004] [xv] c Asm.apps with
      | none => rw [hfa] at h; cases h
      | some e =>
        rw [hfa] at h
        obtain ⟨ts, m1, m2, m3, m4⟩ := findApp_of hfa
        subst m2
        have hl : LR E e.args [a.eval x] := by rw [← m3]; exact LR.cons (eval_sound hf hxv) (LR.nil E)
        obtain ⟨v', k1, E', k2, k3, k4⟩ := (AsmOK.app (P := P) _ m1).2.2.2.2.2 t m4 w0 F E H w _ _ _ _ _ h hr hl _ rfl
        exact wp_val hW (nd _ ho (by simp)) (by simp [execOp, ho, k1]) (hk E' _ _ k2 k3 k4)
  case slice t x lo hi mx =>
    dsimp only [oPick, oAlloc, oBox, oBuild, oBuildSlice, oLoad, oStore, oNilCheck, oBinOp, oUnOp, oConvert, oMakeFunc, oSliceToArrayPointer, oMakeSlice, oSlice, oFieldAddr, oField, oIndexAddr, oIndex, oLookup, oMapUpdate, oInsert, oExtract, oCall] at h
    replace h := beval h; obtain ⟨xv, _, hxv, h⟩ := h
    replace h := bind_ok.1 h; obtain ⟨lov, c1, h1, _, _, hlo, h, _⟩ := h
    replace h := bind_ok.1 h; obtain ⟨hiv, c2, h2, _, _, hhi, h, _⟩ := h
    replace h := bind_ok.1 h; obtain ⟨mxv, c3, h3, _, _, hmx, h, _⟩ := h
    obtain ⟨q1, q2, q3⟩ := evalO_sound hf hlo
    obtain ⟨q4, q5, q6⟩ := evalO_sound hf hhi
    obtain ⟨q7, q8, q9⟩ := evalO_sound hf hmx
    obtain ⟨p1, p2, p3, _⟩ := opt_ok.1 h
    obtain ⟨v', hv1, hv2⟩ : ∃ v', (Instr.sliceAt t (a.eval x) (lo.map a.eval) (hi.map a.eval) (mx.map a.eval)).run P w = .ok v' w ∧ VR E v v' := by
      unfold orAsm at p1
      split at p1
      · rename_i hia
        cases p1
        exact slice_sound hia (eval_sound hf hxv) q3 q6 q9 w
      · have orr : ∀ {x y : Option Value}, OR E x y → OptR E x y := fun h => by cases h with
          | none => rfl
          | some h => exact ⟨_, rfl, h⟩
        obtain ⟨r', k1, k2⟩ := AsmOK.ok (P := P) _ _ p1 E _ _ _ _ (eval_sound hf hxv) (orr q3) (orr q6) (orr q9) w
        exact ⟨r', k2, k1⟩
    exact stay (p2.trans (q7.trans (q4.trans q1))) (p3.trans (q8.trans (q5.trans q2))) (nd _ ho (by simp)) (by simp [execOp, ho, hv1]) hv2
  case fieldAddr t x i =>
    dsimp only [oPick, oAlloc, oBox, oBuild, oBuildSlice, oLoad, oStore, oNilCheck, oBinOp, oUnOp, oConvert, oMakeFunc, oSliceToArrayPointer, oMakeSlice, oSlice, oFieldAddr, oField, oIndexAddr, oIndex, oLookup, oMapUpdate, oInsert, oExtract, oCall] at h
    replace h := beval h; obtain ⟨xv, _, hxv, h⟩ := h
    obtain ⟨p1, p2, p3, _⟩ := opt_ok.1 h
    obtain ⟨v', hv1, hv2⟩ : ∃ v', (Instr.fieldAt t (a.eval x) i).run P w = .ok v' w ∧ VR E v v' := by
      unfold orAsm at p1
      split at p1
      · rename_i hia
        cases p1
        exact fieldAddr_sound (w := w) hia (eval_sound hf hxv)
      · obtain ⟨r', k1, k2⟩ := AsmOK.ok (P := P) _ _ p1 E _ (eval_sound hf hxv) w
        exact ⟨r', k2, k1⟩
    exact stay p2 p3 (nd _ ho (by simp)) (by simp [execOp, ho, hv1]) hv2
  case field t x i =>
    dsimp only [oPick, oAlloc, oBox, oBuild, oBuildSlice, oLoad, oStore, oNilCheck, oBinOp, oUnOp, oConvert, oMakeFunc, oSliceToArrayPointer, oMakeSlice, oSlice, oFieldAddr, oField, oIndexAddr, oIndex, oLookup, oMapUpdate, oInsert, oExtract, oCall] at h
    replace h := beval h; obtain ⟨xv, _, hxv, h⟩ := h
    obtain ⟨p1, p2, p3, _⟩ := opt_ok.1 h
    obtain ⟨v', hv1, hv2⟩ := field_sound (w := w) p1 (eval_sound hf hxv)
    exact stay p2 p3 (nd _ ho (by simp)) (by simp [execOp, ho, hv1]) hv2
  case indexAddr t x i =>
    dsimp only [oPick, oAlloc, oBox, oBuild, oBuildSlice, oLoad, oStore, oNilCheck, oBinOp, oUnOp, oConvert, oMakeFunc, oSliceToArrayPointer, oMakeSlice, oSlice, oFieldAddr, oField, oIndexAddr, oIndex, oLookup, oMapUpdate, oInsert, oExtract, oCall] at h
    replace h := beval h; obtain ⟨xv, _, hxv, h⟩ := h
    replace h := beval h; obtain ⟨iv, _, hiv, h⟩ := h
    obtain ⟨p1, p2, p3, _⟩ := opt_ok.1 h
    obtain ⟨v', hv1, hv2⟩ : ∃ v', (Instr.indexAt t (a.eval x) (a.eval i)).run P w = .ok v' w ∧ VR E v v' := by
      unfold orAsm at p1
      split at p1
      · rename_i hia
        cases p1
        exact indexAddr_sound (w := w) hia (eval_sound hf hxv) (eval_sound hf hiv)
      · obtain ⟨r', k1, k2⟩ := AsmOK.ok (P := P) _ _ p1 E _ _ (eval_sound hf hxv) (eval_sound hf hiv) w
        exact ⟨r', k2, k1⟩
    exact stay p2 p3 (nd _ ho (by simp)) (by simp [execOp, ho, hv1]) hv2
  case index t x i =>
    dsimp only [oPick, oAlloc, oBox, oBuild, oBuildSlice, oLoad, oStore, oNilCheck, oBinOp, oUnOp, oConvert, oMakeFunc, oSliceToArrayPointer, oMakeSlice, oSlice, oFieldAddr, oField, oIndexAddr, oIndex, oLookup, oMapUpdate, oInsert, oExtract, oCall] at h
    replace h := beval h; obtain ⟨xv, _, hxv, h⟩ := h
    replace h := beval h; obtain ⟨iv, _, hiv, h⟩ := h
    obtain ⟨p1, p2, p3, _⟩ := opt_ok.1 h
    obtain ⟨v', hv1, hv2⟩ : ∃ v', (Instr.index t (a.eval x) (a.eval i)).run P w = .ok v' w ∧ VR E v v' := by
      unfold orAsm at p1
      split at p1
      · rename_i hia
        cases p1
        exact index_sound (w := w) hia (eval_sound hf hxv) (eval_sound hf hiv)
      · obtain ⟨r', k1, k2⟩ := AsmOK.ok (P := P) _ _ p1 E _ _ (eval_sound hf hxv) (eval_sound hf hiv) w
        exact ⟨r', k2, k1⟩
    exact stay p2 p3 (nd _ ho (by simp)) (by simp [execOp, ho, hv1]) hv2
  case lookup t x i ok =>
    dsimp only [oPick, oAlloc, oBox, oBuild, oBuildSlice, oLoad, oStore, oNilCheck, oBinOp, oUnOp, oConvert, oMakeFunc, oSliceToArrayPointer, oMakeSlice, oSlice, oFieldAddr, oField, oIndexAddr, oIndex, oLookup, oMapUpdate, oInsert, oExtract, oCall] at h
    replace h := beval h; obtain ⟨xv, _, hxv, h⟩ := h
    replace h := beval h; obtain ⟨iv, _, hiv, h⟩ := h
    obtain ⟨q1, q2, v', hv1, hv2⟩ := lookup_sound h hr (eval_sound hf hxv) (eval_sound hf hiv)
    exact stay q1 q2 (nd _ ho (by simp)) (by simp [execOp, ho, hv1]) hv2
  case mapUpdate t m k x =>
    dsimp only [oPick, oAlloc, oBox, oBuild, oBuildSlice, oLoad, oStore, oNilCheck, oBinOp, oUnOp, oConvert, oMakeFunc, oSliceToArrayPointer, oMakeSlice, oSlice, oFieldAddr, oField, oIndexAddr, oIndex, oLookup, oMapUpdate, oInsert, oExtract, oCall] at h
    replace h := beval h; obtain ⟨mv, _, hmv, h⟩ := h
    replace h := beval h; obtain ⟨kv, _, hkv, h⟩ := h
    replace h := beval h; obtain ⟨xv, _, hxv, h⟩ := h
    replace h := bind_ok.1 h; obtain ⟨u, c1, h1, _, _, hst, h, _⟩ := h
    obtain ⟨q1, w', k1, k2⟩ := update_sound hst hr (eval_sound hf hmv) (eval_sound hf hkv) (eval_sound hf hxv)
    obtain ⟨q2, q3, q4, _⟩ := pure_ok.1 h
    subst q2 q3 q4
    refine wp_skip' hW (nd _ ho (by simp)) (w' := w') ?_ (hk E _ _ E.le_refl k2 (VR.undef E))
    simp [execOp, ho, k1]
  case insert t m k x =>
    dsimp only [oPick, oAlloc, oBox, oBuild, oBuildSlice, oLoad, oStore, oNilCheck, oBinOp, oUnOp, oConvert, oMakeFunc, oSliceToArrayPointer, oMakeSlice, oSlice, oFieldAddr, oField, oIndexAddr, oIndex, oLookup, oMapUpdate, oInsert, oExtract, oCall] at h
    replace h := beval h; obtain ⟨mv, _, hmv, h⟩ := h
    replace h := beval h; obtain ⟨kv, _, hkv, h⟩ := h
    replace h := beval h; obtain ⟨xv, _, hxv, h⟩ := h
    replace h := bind_ok.1 h; obtain ⟨u, c1, h1, _, _, hst, h, _⟩ := h
    obtain ⟨q1, w', k1, k2⟩ := update_sound hst hr (eval_sound hf hmv) (eval_sound hf hkv) (eval_sound hf hxv)
    obtain ⟨q2, q3, q4, _⟩ := pure_ok.1 h
    subst q2 q3 q4
    refine wp_skip' hW (nd _ ho (by simp)) (w' := w') ?_ (hk E _ _ E.le_refl k2 (VR.undef E))
    simp [execOp, ho, k1]
  case extract x i =>
    dsimp only [oPick, oAlloc, oBox, oBuild, oBuildSlice, oLoad, oStore, oNilCheck, oBinOp, oUnOp, oConvert, oMakeFunc, oSliceToArrayPointer, oMakeSlice, oSlice, oFieldAddr, oField, oIndexAddr, oIndex, oLookup, oMapUpdate, oInsert, oExtract, oCall] at h
    replace h := beval h; obtain ⟨xv, _, hxv, h⟩ := h
    have e1 := eval_sound hf hxv
    generalize hga : a.eval x = gv at e1
    cases xv <;> simp only at h <;> first | (exact (bad_ok.1 h).elim) | skip
    rename_i vs
    obtain ⟨p1, p2, p3, _⟩ := opt_ok.1 h
    cases e1 with
    | tup a1 a2 =>
      rename_i vs'
      obtain ⟨y, hy, hv⟩ := LR.get (E := E) ⟨a1, a2⟩ (k := i) (x := v) (by simpa using p1)
      have hy' : vs'[i]? = some y := by simpa using hy
      exact stay p2 p3 (nd _ ho (by simp)) (by simp [execOp, ho, hga, Instr.extract, hy']) hv
  case call cl =>
    dsimp only [oPick, oAlloc, oBox, oBuild, oBuildSlice, oLoad, oStore, oNilCheck, oBinOp, oUnOp, oConvert, oMakeFunc, oSliceToArrayPointer, oMakeSlice, oSlice, oFieldAddr, oField, oIndexAddr, oIndex, oLookup, oMapUpdate, oInsert, oExtract, oCall] at h
    generalize hcl : cl.callee = ce at h
    cases ce <;> dsimp only at h
    case value g =>
      replace h := beval h; obtain ⟨gv, _, hgv, h⟩ := h
      replace h := bind_ok.1 h; obtain ⟨args, c1, h1, _, _, hargs, h, _⟩ := h
      obtain ⟨q1, q2, q3⟩ := evalL_sound hf hargs
      subst q1 q2
      exact callV_sound hW hcs he ho hcl h hr (eval_sound hf hgv) q3 hk
    case invoke => exact (bad_ok.1 h).elim
    case builtin b =>
      replace h := bind_ok.1 h; obtain ⟨args, c1, h1, _, _, hargs, h, _⟩ := h
      obtain ⟨q1, q2, q3⟩ := evalL_sound hf hargs
      subst q1 q2
      have hargs' : (cl.args.map a.eval) = (cl.args.toList.map a.eval).toArray := by apply Array.toList_inj.1; simp
      unfold builtinA at h
      cases b <;> dsimp only at h
      case append =>
        obtain ⟨v', w', E', k1, k2, k3, k4⟩ : ∃ v' w' E', (Builtin.append_ cl.argTypes o.type (cl.args.toList.map a.eval).toArray).run P w = .ok v' w' ∧ E.le E' ∧ HR P w0 F E' H' w' ∧ VR E' v v' := by
          cases hcx : args.any isCx with
          | false => rw [hcx] at h; exact append_sound (ty := o.type) h hr q3
          | true =>
            rw [hcx] at h
            simp only [cond_true] at h
            cases hbg : cl.argTypes.toList.any (Nat.ble 1000000) with
            | true => rw [hbg] at h; simp only [cond_true] at h; exact (bad_ok.1 h).elim
            | false =>
            rw [hbg] at h
            simp only [cond_false] at h
            unfold appX at h
            cases hfa : findApp cl.argTypes.toList args _ Asm.apps with
            | none => rw [hfa] at h; cases h
            | some e =>
              rw [hfa] at h
              obtain ⟨ts, m1, m2, m3, m4⟩ := findApp_of hfa
              subst m2 m3
              exact (AsmOK.app (P := P) _ m1).1 (by rw [m4]; exact hbg) w0 F E _ w _ _ _ _ _ o.type cl.argTypes h hr q3 m4.symm
        refine wp_val hW (nd _ ho (by simp)) ?_ (hk E' _ _ k2 k3 k4)
        simp only [execOp, ho, resolve, hcl, Sem.run_bind, Sem.run_pure, Result.andThen_ok, invoke, builtin, hargs', k1]
      case copy =>
        obtain ⟨v', w', E', k1, k2, k3, k4⟩ : ∃ v' w' E', (Builtin.copy_ cl.argTypes o.type (cl.args.toList.map a.eval).toArray).run P w = .ok v' w' ∧ E.le E' ∧ HR P w0 F E' H' w' ∧ VR E' v v' := by
          cases hcx : args.any isCx with
          | false =>
            rw [hcx] at h
            obtain ⟨v', w', k1, k2, k3⟩ := copy_sound (ty := o.type) h hr q3
            exact ⟨v', w', E, k1, E.le_refl, k2, k3⟩
          | true =>
            rw [hcx] at h
            simp only [cond_true] at h
            unfold appX at h
            cases hfa : findApp (cl.argTypes.toList ++ [1000003]) args _ Asm.apps with
            | none => rw [hfa] at h; cases h
            | some e =>
              rw [hfa] at h
              obtain ⟨ts, m1, m2, m3, m4⟩ := findApp_of hfa
              subst m2 m3
              exact (AsmOK.app (P := P) _ m1).2.2.2.2.1 _ m4 w0 F E _ w _ _ _ _ _ o.type cl.argTypes h hr q3 rfl
        refine wp_val hW (nd _ ho (by simp)) ?_ (hk E' _ _ k2 k3 k4)
        simp only [execOp, ho, resolve, hcl, Sem.run_bind, Sem.run_pure, Result.andThen_ok, invoke, builtin, hargs', k1]
      case min =>
        match args, q3, h with
        | [x, y], q3, h =>
          dsimp only at h
          obtain ⟨p1, p2, p3, _⟩ := opt_ok.1 h
          obtain ⟨x', r1, hr1, hx, hnil⟩ := q3.cons_inv
          obtain ⟨y', r2, hr2, hy, hnil⟩ := hnil.cons_inv
          rw [hr2, hnil.nil_inv] at hr1
          obtain ⟨v', k1, k2⟩ : ∃ v', (if false then Builtin.max_ cl.argTypes o.type #[x', y'] else Builtin.min_ cl.argTypes o.type #[x', y']).run P w = .ok v' w ∧ VR E v v' := by
            unfold orAsm at p1
            split at p1
            · rename_i hia
              cases p1
              rw [hr1] at q3
              have := minmax_sound (P := P) (ats := cl.argTypes) (ty := o.type) hia q3 w
              exact ⟨_, this.1, this.2⟩
            · obtain ⟨r', k1, k2⟩ := AsmOK.ok (P := P) _ _ p1 E _ _ hx hy cl.argTypes o.type w
              exact ⟨r', k2, k1⟩
          refine stay p2 p3 (nd _ ho (by simp)) ?_ k2
          simp only [Bool.false_eq_true, if_false] at k1
          simp only [execOp, ho, resolve, hcl, Sem.run_bind, Sem.run_pure, Result.andThen_ok, invoke, builtin, hargs', hr1, k1]
        | [], _, h => exact (bad_ok.1 h).elim
        | [_], _, h => exact (bad_ok.1 h).elim
        | _ :: _ :: _ :: _, _, h => exact (bad_ok.1 h).elim
      case max =>
        match args, q3, h with
        | [x, y], q3, h =>
          dsimp only at h
          obtain ⟨p1, p2, p3, _⟩ := opt_ok.1 h
          obtain ⟨x', r1, hr1, hx, hnil⟩ := q3.cons_inv
          obtain ⟨y', r2, hr2, hy, hnil⟩ := hnil.cons_inv
          rw [hr2, hnil.nil_inv] at hr1
          obtain ⟨v', k1, k2⟩ : ∃ v', (if true then Builtin.max_ cl.argTypes o.type #[x', y'] else Builtin.min_ cl.argTypes o.type #[x', y']).run P w = .ok v' w ∧ VR E v v' := by
            unfold orAsm at p1
            split at p1
            · rename_i hia
              cases p1
              rw [hr1] at q3
              have := minmax_sound (P := P) (ats := cl.argTypes) (ty := o.type) hia q3 w
              exact ⟨_, this.1, this.2⟩
            · obtain ⟨r', k1, k2⟩ := AsmOK.ok (P := P) _ _ p1 E _ _ hx hy cl.argTypes o.type w
              exact ⟨r', k2, k1⟩
          refine stay p2 p3 (nd _ ho (by simp)) ?_ k2
          simp only [if_true] at k1
          simp only [execOp, ho, resolve, hcl, Sem.run_bind, Sem.run_pure, Result.andThen_ok, invoke, builtin, hargs', hr1, k1]
        | [], _, h => exact (bad_ok.1 h).elim
        | [_], _, h => exact (bad_ok.1 h).elim
        | _ :: _ :: _ :: _, _, h => exact (bad_ok.1 h).elim
      case len =>
        match args, q3, h with
        | [x], q3, h =>
          dsimp only [oPick, oAlloc, oBox, oBuild, oBuildSlice, oLoad, oStore, oNilCheck, oBinOp, oUnOp, oConvert, oMakeFunc, oSliceToArrayPointer, oMakeSlice, oSlice, oFieldAddr, oField, oIndexAddr, oIndex, oLookup, oMapUpdate, oInsert, oExtract, oCall] at h
          cases ht : cl.argTypes[0]? with
          | none => rw [ht] at h; exact (bad_ok.1 h).elim
          | some t =>
            rw [ht] at h
            obtain ⟨x', r1, hr1, hx, hnil⟩ := q3.cons_inv
            rw [hnil.nil_inv] at hr1
            obtain ⟨q4, q5, v', hv1, hv2⟩ : _ ∧ _ ∧ ∃ v', (Builtin.len_ cl.argTypes o.type #[x']).run P w = .ok v' w ∧ VR E v v' := by
              cases hcx : isCx x with
              | false =>
                simp only [hcx, cond_false] at h
                exact len_sound (ty := o.type) ht h hr hx
              | true =>
                simp only [hcx, cond_true] at h
                obtain ⟨p1, p2, p3, _⟩ := opt_ok.1 h
                obtain ⟨r', k1, k2⟩ := AsmOK.ok (P := P) _ _ p1 E _ hx cl.argTypes o.type w ht
                exact ⟨p2, p3, r', k2, k1⟩
            refine stay q4 q5 (nd _ ho (by simp)) ?_ hv2
            simp only [execOp, ho, resolve, hcl, Sem.run_bind, Sem.run_pure, Result.andThen_ok, invoke, builtin, hargs', hr1, hv1]
        | [], _, h => exact (bad_ok.1 h).elim
        | _ :: _ :: _, _, h => exact (bad_ok.1 h).elim
      case delete =>
        match args, q3, h with
        | [m, k], q3, h =>
          dsimp only [oPick, oAlloc, oBox, oBuild, oBuildSlice, oLoad, oStore, oNilCheck, oBinOp, oUnOp, oConvert, oMakeFunc, oSliceToArrayPointer, oMakeSlice, oSlice, oFieldAddr, oField, oIndexAddr, oIndex, oLookup, oMapUpdate, oInsert, oExtract, oCall] at h
          cases ht : cl.argTypes[0]? with
          | none => rw [ht] at h; exact (bad_ok.1 h).elim
          | some t =>
            rw [ht] at h
            obtain ⟨m', r1, hr1, hm, hnil⟩ := q3.cons_inv
            obtain ⟨k', r2, hr2, hkk, hnil⟩ := hnil.cons_inv
            rw [hr2, hnil.nil_inv] at hr1
            replace h := bind_ok.1 h; obtain ⟨u, c2, h2, _, _, hst, h, _⟩ := h
            obtain ⟨q4, w', k1, k2⟩ := delete_sound (ty := o.type) ht hst hr hm hkk
            obtain ⟨q5, q6, q7, _⟩ := pure_ok.1 h
            subst q5 q6 q7
            refine wp_val hW (nd _ ho (by simp)) (w' := w') (v' := .tuple #[]) ?_ (hk E _ _ E.le_refl k2 (VR.undef E))
            simp only [execOp, ho, resolve, hcl, Sem.run_bind, Sem.run_pure, Result.andThen_ok, invoke, builtin, hargs', hr1, k1]
        | [], _, h => exact (bad_ok.1 h).elim
        | [_], _, h => exact (bad_ok.1 h).elim
        | _ :: _ :: _ :: _, _, h => exact (bad_ok.1 h).elim
      all_goals exact (bad_ok.1 h).elim
  all_goals (dsimp only at h; exact (bad_ok.1 h).elim)
end
end Go.Sx
namespace Go.Sx
section
variable {P : Program} {w0 : World} {F : Nat → Prop} {E : Env} {H : Heap} {w : World} {R : Option Nat}
theorem wanted_sound [Den] [Asm] (P : Program) [AsmOK P] {ops : Array Oper} {f : Fr} {a : Act} {o : Oper} {b : Bool} (hf : FR E R f a) (h : wantedA ops f o = some b) : Region.wanted o (yielded ops a.tmps) = b := by
  unfold wantedA at h
  simp only [nthL_eq, Array.getElem?_toList] at h
  unfold Region.wanted
  cases hg : o.guard with
  | none => rw [hg] at h; cases h; rfl
  | some gw =>
    obtain ⟨j, want⟩ := gw
    rw [hg] at h
    simp only [yielded] at h ⊢
    cases hd : (ops[j]?).bind (·.dst) with
    | none => rw [hd] at h; simp only at h; cases h; simp
    | some d =>
      rw [hd] at h
      simp only [Option.bind_some] at h ⊢
      cases hv : f.get d with
      | none => rw [hv] at h; cases h
      | some u =>
        rw [hv] at h
        obtain ⟨hlt, hvr⟩ := hf.tr.val d u hv
        have hlt' : d < a.tmps.size := by rw [hf.size]; exact hlt
        have hs : a.tmps[d]? = some a.tmps[d] := by simp [hlt']
        rw [Array.getD_eq_getD_getElem?, hs] at hvr
        rw [hs]
        simp only [Option.getD_some] at hvr
        generalize a.tmps[d] = u' at hvr
        cases hvr with
        | sym k i hs =>
          simp only at h
          cases htr : truth (.float k i) with
          | none => rw [htr] at h; cases h
          | some t =>
            rw [htr] at h
            cases h
            have := truth_sound (P := P) (E := E) htr (.sym k i hs)
            rw [this]; simp
        | ssl k h1 h2 h3 h4 h5 h6 => subst h6; simp only at h; cases h; simp
        | opq i hh => simp only at h; cases h
        | _ => simp only at h; cases h; simp
theorem step_sound [Den] [Asm] [AsmOK P] {Fe : Fence} {n : Nat} {r : Rec} {ops : Array Oper} {i : Nat} {o : Oper} {f f' : Fr} {a : Act} {Q : Exit → Act → World → Prop} {K : Act → World → Prop} (hW : Wd Fe) (hcs : CallSnd P w0 F r) (he : ExecSnd P w0 F r) (ho : ops[i]? = some o)
    {c c' : Nat} {H' : Heap} {L : Lg} (h : stepA P r ops o f c H = .ok f' c' H' L) (hf : FR E R f a) (hr : HR P w0 F E H w)
    (hk : ∀ E' a' w', E.le E' → HR P w0 F E' H' w' → FR E' R f' a' → K a' w') : wpOpIn Fe n P ops Q i K a w := by
  unfold wpOpIn
  simp only [ho]
  unfold stepA at h
  replace h := bind_ok.1 h
  obtain ⟨v, c1, h1, _, _, hop, h, _⟩ := h
  obtain ⟨q1, q2, q3, _⟩ := pure_ok.1 h
  subst q1 q2 q3
  unfold stepV at hop
  cases hw0 : wantedA ops f o with
  | none => rw [hw0] at hop; exact (bad_ok.1 hop).elim
  | some b =>
  rw [wanted_sound P hf hw0]
  cases hw : b with
  | true =>
    rw [hw0, hw] at hop
    simp only [cond_true] at hop
    simp only [if_true]
    exact op_sound hW hcs he hop hf hr fun E' v' w' hle hr' hv => hk E' _ w' hle hr' ((hf.mono hle).put hv _)
  | false =>
    rw [hw0, hw] at hop
    simp only [cond_false] at hop
    simp only [Bool.false_eq_true, if_false]
    obtain ⟨q1, q2, q3, _⟩ := pure_ok.1 hop
    subst q1 q2 q3
    exact ⟨fun g _ => hW.1 g, hk E _ w E.le_refl hr (hf.put (VR.undef E) _)⟩
theorem regionL_sound [Den] [Asm] [AsmOK P] {Fe : Fence} {n : Nat} {r : Rec} {ops : Array Oper} {Q : Exit → Act → World → Prop} (hW : Wd Fe) (hcs : CallSnd P w0 F r) (he : ExecSnd P w0 F r) : ∀ (l : List Oper) (k : Nat), (∀ j, l[j]? = ops[k + j]?) →
    ∀ {E : Env} {H : Heap} {w : World} {f f' : Fr} {a : Act} {c c' : Nat} {H' : Heap} {L : Lg}, regionL P r ops l f c H = .ok f' c' H' L → FR E R f a → HR P w0 F E H w →
    (∀ E' a' w', E.le E' → HR P w0 F E' H' w' → FR E' R f' a' → Q .normal a' w') → wpOpsIn Fe n P ops Q (List.range' k l.length) a w
  | [], k, _, E, H, w, f, f', a, c, c', H', L, h, hf, hr, hk => by
    obtain ⟨q1, q2, q3, _⟩ := pure_ok.1 h
    subst q1 q2 q3
    exact hk E a w E.le_refl hr hf
  | o :: l, k, hl, E, H, w, f, f', a, c, c', H', L, h, hf, hr, hk => by
    have h0 : ops[k]? = some o := by simpa using (hl 0).symm
    replace h := bind_ok.1 h
    obtain ⟨f1, c1, h1, _, _, hst, h, _⟩ := h
    rw [List.length_cons, List.range'_succ, wpOpsIn_cons]
    refine step_sound hW hcs he h0 hst hf hr fun E1 a1 w1 hle hr1 hf1 => ?_
    exact regionL_sound hW hcs he l (k + 1) (fun j => by have := hl (j + 1); simpa [Nat.add_assoc, Nat.add_comm 1 j] using this) h hf1 hr1 fun E' a' w' hle' hr' hf' => hk E' a' w' (Env.le_trans hle hle') hr' hf'
def DrawSnd [Den] [Asm] (P : Program) (w0 : World) (F : Nat → Prop) (r : Rec) : Prop := ∀ (Fe : Fence) (n id : Nat) (ops : Array Oper) (Q : Exit → Act → World → Prop) (E : Env) (H : Heap) (w : World) (f f' : Fr) (a : Act) (c c' : Nat) (H' : Heap) (L : Lg),
  Wd Fe → regionA P r ops true f c H = .ok f' c' H' L → FR E Fe.round f a → HR P w0 F E H w →
  (∀ E' a' w', E.le E' → HR P w0 F E' H' w' → FR E' Fe.round f' a' → Q .normal a' w') → (Code.region id ops true).wpIn Fe n P Q a w
theorem wpIn_of_loop {Fe : Fence} {n : Nat} {c : Code} {Q : Exit → Act → World → Prop} {a : Act} (h : loopWp Fe n P c Q a w) : (Code.loop c).wpIn Fe n P Q a w := fun b k cs hro hb hr =>
  let ⟨e, a', w', hq, harr⟩ := h b k cs hro hb hr
  ⟨e, a', w', hq, .of_steps (.one (fenced_calm hb hr rfl) stepR_loop) harr⟩
theorem loopWp_round {Fe : Fence} {n : Nat} {c : Code} {Q : Exit → Act → World → Prop} {a : Act} (h : c.wpIn Fe n P (Exit.then (loopWp Fe n P c Q) Q) a w) : loopWp Fe n P c Q a w := by
  intro b k cs hro hb hr
  obtain ⟨e, a₁, w₁, hq, harr⟩ := h b (.inLoop c :: k) cs hro hb hr
  cases e with
  | normal =>
    obtain ⟨e₂, a₂, w₂, hq₂, harr₂⟩ := hq b k cs hro hb hr
    exact ⟨e₂, a₂, w₂, hq₂, .of_steps (StepsIn.trans harr (.one (fenced_calm hb hr rfl) stepR_inLoop)) harr₂⟩
  | exit id => exact ⟨_, a₁, w₁, hq, .pass (x := .inLoop c) rfl (fun _ _ => .inl (by simp)) harr⟩
  | goto l => exact ⟨_, a₁, w₁, hq, .pass (x := .inLoop c) rfl (fun _ _ => .inl (by simp)) harr⟩
  | ret => exact ⟨_, a₁, w₁, hq, .pass (x := .inLoop c) rfl (fun _ _ => .inl (by simp)) harr⟩
  | panic ch => exact ⟨_, a₁, w₁, hq, .pass (x := .inLoop c) rfl (fun _ _ => .inl (by simp)) harr⟩
  | outgrown => exact ⟨_, a₁, w₁, hq, .pass (x := .inLoop c) rfl (fun _ _ => .inl (by simp)) harr⟩
theorem stepR_scope {c : Code} {b : Frame} {a : Act} {k : List Item} {cs : List Frame} : step P (lone (b.atR a (.code (.scope c) :: k)) cs w) = .next (lone (b.atR a (.code c :: .inScope c :: k)) cs w) :=
  step_lone_go (by simp [stepG, stepG.exec, Frame.atR])
theorem stepR_inScope {c : Code} {b : Frame} {a : Act} {k : List Item} {cs : List Frame} : step P (lone (b.atR a (.inScope c :: k)) cs w) = .next (lone (b.atR a k) cs w) :=
  step_lone_go (by simp [stepG, stepG.exec, Frame.atR])
theorem wpIn_scope_straight {Fe : Fence} {n : Nat} {c : Code} {Q : Exit → Act → World → Prop} {a : Act} (h : c.wpIn Fe n P (Exit.noGoto Q) a w) : (Code.scope c).wpIn Fe n P Q a w := by
  intro b k cs hro hb hr
  have h0 : (lone (b.atR a (.code (.scope c) :: k)) cs w).fenced P Fe := fenced_calm hb hr rfl
  obtain ⟨e, a₁, w₁, hq, harr⟩ := h b (.inScope c :: k) cs hro hb hr
  cases e with
  | normal => exact ⟨.normal, a₁, w₁, hq, .head h0 stepR_scope (StepsIn.trans harr (.one (fenced_calm hb hr rfl) stepR_inScope))⟩
  | exit id =>
    have hx : exitTo id (.inScope c :: k) = exitTo id k := by simp [exitTo]
    exact ⟨.exit id, a₁, w₁, hq, fun k' hk => .head h0 stepR_scope (harr.1 k' (by rw [hx]; exact hk)),
      fun hr' hk => let ⟨k₁, h1, h2⟩ := harr.2 hr' (by rw [hx]; exact hk); ⟨k₁, h1, .head h0 stepR_scope h2⟩⟩
  | goto l => exact hq.elim
  | ret => exact ⟨_, a₁, w₁, hq, .of_steps (.one h0 stepR_scope) harr⟩
  | panic ch => exact ⟨_, a₁, w₁, hq, .of_steps (.one h0 stepR_scope) harr⟩
  | outgrown => exact ⟨_, a₁, w₁, hq, .of_steps (.one h0 stepR_scope) harr⟩
theorem enter_sound [Den] {Rn : Option Nat} {f : Fr} {a : Act} {psA : Array Tmp} {assign body : Code} {d : Nat} {mark : List Nat} {l c c1 c2 : Nat} {H1 H2 : Heap} {L1 L2 : Lg} (hA : enterA f c H = .ok (d, mark) c1 H1 L1)
    (hN : newA (.loop .ready none f psA.toList assign body d) c1 H1 = .ok l c2 H2 L2) (hf : FR E Rn f a) (hr : HR P w0 F E H w) (fn : FuncId) :
    ∃ mk w1 E2 e, (Instr.enterLoop fn a.tmps psA assign body Rn).run P w = .ok (e.blk, mk) w1 ∧ E.le E2 ∧ HR P w0 F E2 H2 w1 ∧ E2 l = some e ∧ FR E2 Rn ⟨f.t, f.n, f.ro, mark ++ f.ds⟩ { a with defers := mk ++ a.defers } := by
  unfold enterA at hA
  obtain ⟨j1, j2, hj, j3, _⟩ := newA_inv hN
  cases hro : f.ro with
  | none =>
    rw [hro] at hA
    simp only at hA
    replace hA := bind_ok.1 hA
    obtain ⟨d1, c3, h3, _, _, hd, hA, _⟩ := hA
    obtain ⟨q1, q2, q3, _⟩ := pure_ok.1 hA
    cases q1
    obtain ⟨i1, i2, hi, i3, _⟩ := newA_inv hd
    have hRn : Rn = none := by have := hf.ro; rw [hro] at this; cases this; rfl
    subst hRn
    subst q2 q3 i3 i2 i1 j1 j2 j3
    obtain ⟨k1, k2⟩ := hr.fresh (o := .defd) (b := .deferred (some [])) (cap := 0) hi (fun w' hw' => ⟨_, by simp [Env.upd]; rfl, by rw [hw']; simp⟩)
    obtain ⟨E1, hE1d⟩ : ∃ E1, E1 = Env.upd E d ⟨w.heap.size, 0, 0⟩ := ⟨_, rfl⟩
    obtain ⟨wd, hwd⟩ : ∃ wd, wd = { w with heap := w.heap.push (.deferred (some [])) } := ⟨_, rfl⟩
    have hsz : wd.heap.size = w.heap.size + 1 := by rw [hwd]; simp
    have hE1 : E1 d = some ⟨w.heap.size, 0, 0⟩ := by rw [hE1d]; simp [Env.upd]
    rw [← hE1d] at k1 k2
    rw [← hwd] at k2
    have hEl : E1 (d + 1) = none := by
      cases hx : E1 (d + 1) with
      | none => rfl
      | some x => exact absurd hj (k2.dom _ _ hx)
    have hle2 : E1.le (Env.upd E1 (d + 1) ⟨wd.heap.size, 0, 0⟩) := Env.le_upd hEl
    obtain ⟨lr, hlr⟩ : ∃ lr : Loop, lr = { state := .ready, pending := none, fn, tmps := a.tmps, params := psA, assign, body, defers := w.heap.size } := ⟨_, rfl⟩
    obtain ⟨m1, m2⟩ := k2.fresh (o := .loop .ready none f psA.toList assign body d) (b := .loop lr) (cap := 0) hj
      (fun w' hw' => ⟨⟨wd.heap.size, 0, 0⟩, lr, by simp [Env.upd], by rw [hw']; simp, by rw [hlr], by rw [hlr], by rw [hlr], by rw [hlr], by rw [hlr], by rw [hlr]; exact (hf.tr.mono k1).mono hle2, ⟨w.heap.size, 0, 0⟩, hle2 _ _ hE1, by rw [hlr]⟩)
    have hrun := run_enterLoop_outer (P := P) (w := w) fn a.tmps psA assign body
    rw [← hlr] at hrun
    refine ⟨[{ target := .collected w.heap.size, args := #[] }], { wd with heap := wd.heap.push (.loop lr) }, _, ⟨wd.heap.size, 0, 0⟩, ?_, Env.le_trans k1 m1, m2, by simp [Env.upd], ?_, ?_, ?_⟩
    · rw [hrun, hsz, hwd]; rfl
    · exact .cons (m1 _ _ hE1) (hf.defers.mono (Env.le_trans k1 m1))
    · have := hf.ro.mono (Env.le_trans k1 m1)
      rw [hro] at this
      exact this
    · exact ⟨hf.tr.size, fun k v hk => ⟨(hf.tr.val k v hk).1, (hf.tr.val k v hk).2.mono (Env.le_trans k1 m1)⟩⟩
  | some l0 =>
    rw [hro] at hA
    simp only at hA
    replace hA := bind_ok.1 hA
    obtain ⟨x, c3, h3, _, _, hx, hA, _⟩ := hA
    obtain ⟨q1, q2, q3, _⟩ := pure_ok.1 hA
    cases q1
    obtain ⟨i1, i2, hi⟩ := lpGet_inv hx
    subst q2 q3 i1 i2
    have hRo := hf.ro
    rw [hro] at hRo
    cases hRo with
    | some hl0 =>
      rename_i e0
      obtain ⟨e', lr, k1, k2, _, _, _, _, _, _, ed, k9, k10⟩ := hr.obj l0 _ hi
      rw [hl0] at k1; cases k1
      subst j1 j2 j3
      have hEl : E l = none := by
        cases hx : E l with
        | none => rfl
        | some x => exact absurd hj (hr.dom _ _ hx)
      have hle2 : E.le (Env.upd E l ⟨w.heap.size, 0, 0⟩) := Env.le_upd hEl
      obtain ⟨lq, hlq⟩ : ∃ lq : Loop, lq = { state := .ready, pending := none, fn, tmps := a.tmps, params := psA, assign, body, defers := lr.defers } := ⟨_, rfl⟩
      obtain ⟨m1, m2⟩ := hr.fresh (o := .loop .ready none f psA.toList assign body x.dfr) (b := .loop lq) (cap := 0) hj
        (fun w' hw' => ⟨_, lq, by simp [Env.upd]; rfl, by rw [hw']; simp, by rw [hlq], by rw [hlq], by rw [hlq], by rw [hlq], by rw [hlq], by rw [hlq]; exact hf.tr.mono hle2, ed, hle2 _ _ k9, by rw [hlq]; exact k10⟩)
      subst hlq
      refine ⟨[], _, _, ⟨w.heap.size, 0, 0⟩, ?_, m1, m2, by simp [Env.upd], ?_, ?_, ?_⟩
      · unfold Instr.enterLoop
        simp only [Sem.run_bind, run_getLoop k2, run_newObj_alloc, Result.andThen, Sem.run_pure]
        rfl
      · exact hf.defers.mono m1
      · have := hf.ro.mono m1
        rw [hro] at this
        exact this
      · exact ⟨hf.tr.size, fun k v hk => ⟨(hf.tr.val k v hk).1, (hf.tr.val k v hk).2.mono m1⟩⟩
theorem range_sound [Den] [Asm] [AsmOK P] {r : Rec} (hcs : CallSnd P w0 F r) (he : ExecSnd P w0 F r) {Fe : Fence} {n : Nat} {Q : Exit → Act → World → Prop} {g : Operand} {ps : Array Tmp} {assign body : Code} {f f' : Fr} {x : Exit} {a : Act} {gv : Value} {c c' : Nat} {H' : Heap} {L : Lg} (hW : Wd Fe)
    (h : rangeA r gv ps.toList assign body f c H = .ok (x, f') c' H' L) (hgv : VR E gv (a.eval g)) (hf : FR E Fe.round f a) (hr : HR P w0 F E H w)
    (hk : ∀ E' a' w', E.le E' → HR P w0 F E' H' w' → FR E' Fe.round f' a' → Q x a' w') : (Code.rangeFunc g ps assign body).wpIn Fe n P Q a w := by
  unfold rangeA at h
  replace h := bind_ok.1 h
  obtain ⟨⟨d, mark⟩, c1, h1, _, _, hA, h, _⟩ := h
  replace h := bind_ok.1 h
  obtain ⟨l, c2, h2, _, _, hN, h, _⟩ := h
  replace h := bind_ok.1 h
  obtain ⟨v, c3, h3, _, _, hC, h, _⟩ := h
  replace h := bind_ok.1 h
  obtain ⟨y, c4, h4, _, _, hG, h, _⟩ := h
  obtain ⟨g1, g2, hi⟩ := lpGet_inv hG
  subst g1 g2
  refine wpIn_rangeFunc fun fn hfn => ?_
  obtain ⟨mk, w1, E2, e, k1, k2, k3, k4, k5⟩ := enter_sound hA hN hf hr fn
  unfold callF at hC
  split at hC
  · rename_i gid first captured
    generalize hga : a.eval g = gv' at hgv
    cases hgv with
    | fn hf1 p1 hc1 p2 =>
      rename_i fs cs
      obtain ⟨⟨fnn, code, hfn1, hname, hbody⟩, hcalls⟩ := hcs _ _ _ _ _ _ _ _ hC
      refine ⟨e.blk, mk, w1, { target := .fn (.func gid) cs, args := fs ++ #[.func (.yield e.blk) #[] #[]] }, w1, gid, fs ++ #[.func (.yield e.blk) #[] #[]] ++ cs, w1, k1, ?_, fun f' _ => hW.1 f', ?_, (fun hd => by rw [hW.2] at hd; cases hd), ?_⟩
      · simp only [resolve, hga, Deferred.ofValue, Sem.run_pure]
        simp [Act.eval]
      · simp only [invoke, callFunc, Sem.run_bind, run_program, Result.andThen_ok, hfn1, hname, hbody]
        simp
      · have hlr : LR E2 (first.toList ++ [Value.func (.yield l) #[] #[]] ++ captured.toList) (fs ++ #[Value.func (.yield e.blk) #[] #[]] ++ cs).toList := by
          rw [Array.toList_append, Array.toList_append]
          have hy : VR E2 (Value.func (.yield l) #[] #[]) (Value.func (.yield e.blk) #[] #[]) := .yl k4
          have hF : LR E2 first.toList fs.toList := ⟨hf1, fun k x y hx hy => (p1 k x y hx hy).mono k2⟩
          have hC' : LR E2 captured.toList cs.toList := ⟨hc1, fun k x y hx hy => (p2 k x y hx hy).mono k2⟩
          exact LR.append (LR.append hF (LR.cons hy (LR.nil _))) hC'
        have hc := hcalls E2 w1 _ k3 hlr Fe (n - 1) hW
        simp only [Array.toArray_toList] at hc
        refine hc.mono fun ee w' ⟨v', E', he', hle, hr', hv'⟩ => ?_
        subst he'
        have hEl := hle _ _ k4
        have hleT := Env.le_trans k2 hle
        have fin : ∀ {st : LoopState} {L6 : Lg}, y.st = st → st ≠ .busy → M.bind (lpSet l .exhausted y.pend) (fun _ => (match y.pend with
            | none => M.pure (.normal, ⟨f.t, f.n, f.ro, mark ++ f.ds⟩)
            | some c => r.exec c ⟨f.t, f.n, f.ro, mark ++ f.ds⟩)) c4 h4 = .ok (x, f') c' H' L6 → rangePost Fe n P e.blk Q { a with defers := mk ++ a.defers } (.returned v') w' := by
          intro st L6 hst hne h
          replace h := bind_ok.1 h
          obtain ⟨u, c5, h5, _, _, hS, h, _⟩ := h
          obtain ⟨lr, m1, m2⟩ := lpSet_sound hS hr' hEl
          have hob : lr.state = y.st ∧ lr.pending = y.pend := by
            obtain ⟨e'', l', g1, g2, g3, g4, _⟩ := hr'.obj l _ hi
            rw [hEl] at g1; cases g1
            rw [m1] at g2; cases g2
            exact ⟨g3, g4⟩
          rw [← hob.2] at m2
          refine ⟨lr.pending, _, run_endLoop m1 (by rw [hob.1, hst]; exact hne), ?_⟩
          rw [hob.2] at m2 ⊢
          cases hp : y.pend with
          | none =>
            rw [hp] at h m2
            simp only at h ⊢
            obtain ⟨p1, p2, p3, _⟩ := pure_ok.1 h
            cases p1; subst p2 p3
            exact hk E' _ _ hleT m2 (k5.mono hle)
          | some cd =>
            rw [hp] at h m2
            simp only at h ⊢
            exact (he cd Fe n Q E' _ _ _ f' x _ _ _ _ _ hW h (k5.mono hle) m2 fun E'' a'' w'' hle' hr'' hf'' => hk E'' a'' w'' (Env.le_trans hleT hle') hr'' hf'').1
        cases hst : y.st with
        | busy => rw [hst] at h; exact (bad_ok.1 h).elim
        | ready => rw [hst] at h; exact fin hst (by simp) h
        | done => rw [hst] at h; exact fin hst (by simp) h
        | exhausted => rw [hst] at h; exact fin hst (by simp) h
  · exact (bad_ok.1 hC).elim
theorem execS_sound [Den] [Asm] [AsmOK P] {r : Rec} (hd : DrawSnd P w0 F r) (hcs : CallSnd P w0 F r) (he : ExecSnd P w0 F r) : ExecSnd P w0 F ⟨execS P r, r.call⟩ := by
  intro code Fe n Q E H w f f' x a c c' H' L hW h hf hr hk
  dsimp only at h
  have nl : ∀ {G : Prop}, G → (∀ b, code ≠ .loop b) → G ∧ ∀ b, code = .loop b → loopWp Fe n P b Q a w := fun g hn => ⟨g, fun b e => absurd e (hn b)⟩
  cases code with
  | skip =>
    obtain ⟨q1, q2, q3, _⟩ := pure_ok.1 h
    cases q1; subst q2 q3
    exact nl (wpIn_skip (hk E a w E.le_refl hr hf)) (by simp)
  | label l =>
    obtain ⟨q1, q2, q3, _⟩ := pure_ok.1 h
    cases q1; subst q2 q3
    exact nl (wpIn_label (hk E a w E.le_refl hr hf)) (by simp)
  | region id ops draw =>
    simp only [execS] at h
    replace h := bind_ok.1 h
    obtain ⟨f1, c1, h1, _, _, hreg, h, _⟩ := h
    obtain ⟨q1, q2, q3, _⟩ := pure_ok.1 h
    cases q1; subst q2 q3
    refine nl ?_ (by simp)
    cases draw with
    | true => exact hd Fe n id ops Q E H w f _ a c _ _ _ hW hreg hf hr hk
    | false =>
      refine wpIn_region ?_
      rw [List.range_eq_range', ← Array.length_toList]
      exact regionL_sound hW hcs he ops.toList 0 (by simp) hreg hf hr hk
  | seq p q =>
    simp only [execS] at h
    replace h := bind_ok.1 h
    obtain ⟨⟨y, f1⟩, c1, h1, _, _, hp, h, _⟩ := h
    refine nl (wpIn_seq ?_) (by simp)
    refine (he p Fe n _ E H w f f1 y a c _ _ _ hW hp hf hr fun E1 a1 w1 hle hr1 hf1 => ?_).1
    cases y with
    | normal =>
      exact (he q Fe n Q E1 _ w1 f1 f' x a1 _ _ _ _ hW h hf1 hr1 fun E' a' w' hle' hr' hf' => hk E' a' w' (Env.le_trans hle hle') hr' hf').1
    | _ =>
      obtain ⟨q1, q2, q3, _⟩ := pure_ok.1 h
      cases q1; subst q2 q3
      exact hk E1 a1 w1 hle hr1 hf1
  | cond cd p q =>
    simp only [execS] at h
    replace h := beval h
    obtain ⟨v, _, hv, h⟩ := h
    have e1 := eval_sound hf hv
    generalize hga : a.eval cd = gv at e1
    cases htr : truth v with
    | none => rw [htr] at h; exact (bad_ok.1 h).elim
    | some t =>
    rw [htr] at h
    dsimp only at h
    have := truth_sound (P := P) htr e1
    subst this
    refine nl (wpIn_cond hga ?_) (by simp)
    cases t
    · exact (he q Fe n Q E H w f f' x a _ _ _ _ hW h hf hr hk).1
    · exact (he p Fe n Q E H w f f' x a _ _ _ _ hW h hf hr hk).1
  | block id b =>
    simp only [execS] at h
    replace h := bind_ok.1 h
    obtain ⟨⟨y, f1⟩, c1, h1, _, _, hp, h, _⟩ := h
    refine nl (wpIn_block ?_) (by simp)
    refine (he b Fe n _ E H w f f1 y a c _ _ _ hW hp hf hr fun E1 a1 w1 hle hr1 hf1 => ?_).1
    cases y with
    | exit id' =>
      obtain ⟨q1, q2, q3, _⟩ := pure_ok.1 h
      simp only [Prod.mk.injEq] at q1
      obtain ⟨q1, q4⟩ := q1
      subst q2 q3 q4
      simp only [Exit.inBlock]
      cases hb : Nat.beq id' id with
      | true =>
        rw [hb] at q1
        simp only [cond_true] at q1
        subst q1
        rw [if_pos (Nat.eq_of_beq_eq_true hb)]
        exact hk E1 a1 w1 hle hr1 hf1
      | false =>
        rw [hb] at q1
        simp only [cond_false] at q1
        subst q1
        rw [if_neg (fun e => by rw [e, Nat.beq_refl] at hb; cases hb)]
        exact hk E1 a1 w1 hle hr1 hf1
    | _ =>
      obtain ⟨q1, q2, q3, _⟩ := pure_ok.1 h
      cases q1; subst q2 q3
      exact hk E1 a1 w1 hle hr1 hf1
  | loop b =>
    simp only [execS] at h
    replace h := bind_ok.1 h
    obtain ⟨⟨y, f1⟩, c1, h1, _, _, hp, h, _⟩ := h
    have key : loopWp Fe n P b Q a w := by
      refine loopWp_round ?_
      refine (he b Fe n _ E H w f f1 y a c _ _ _ hW hp hf hr fun E1 a1 w1 hle hr1 hf1 => ?_).1
      cases y with
      | normal =>
        exact (he (.loop b) Fe n Q E1 _ w1 f1 f' x a1 _ _ _ _ hW h hf1 hr1 fun E' a' w' hle' hr' hf' => hk E' a' w' (Env.le_trans hle hle') hr' hf').2 b rfl
      | _ =>
        obtain ⟨q1, q2, q3, _⟩ := pure_ok.1 h
        cases q1; subst q2 q3
        exact hk E1 a1 w1 hle hr1 hf1
    exact ⟨wpIn_of_loop key, fun b' e => by cases e; exact key⟩
  | exit id =>
    obtain ⟨q1, q2, q3, _⟩ := pure_ok.1 h
    cases q1; subst q2 q3
    exact nl (wpIn_exit (hk E a w E.le_refl hr hf)) (by simp)
  | ret =>
    obtain ⟨q1, q2, q3, _⟩ := pure_ok.1 h
    cases q1; subst q2 q3
    exact nl (wpIn_ret (hk E a w E.le_refl hr hf)) (by simp)
  | scope b =>
    simp only [execS] at h
    replace h := bind_ok.1 h
    obtain ⟨⟨y, f1⟩, c1, h1, _, _, hp, h, _⟩ := h
    refine nl (wpIn_scope_straight ?_) (by simp)
    refine (he b Fe n _ E H w f f1 y a c _ _ _ hW hp hf hr fun E1 a1 w1 hle hr1 hf1 => ?_).1
    cases y with
    | goto l => exact (bad_ok.1 h).elim
    | _ =>
      obtain ⟨q1, q2, q3, _⟩ := pure_ok.1 h
      cases q1; subst q2 q3
      exact hk E1 a1 w1 hle hr1 hf1
  | rangeFunc g ps assign body =>
    simp only [execS] at h
    replace h := beval h
    obtain ⟨v, _, hv, h⟩ := h
    exact nl (range_sound hcs he hW h (eval_sound hf hv) hf hr hk) (by simp)
  | _ => simp only [execS] at h; exact (bad_ok.1 h).elim
def resF (a : Act) : ResultVar → Sem Value
  | .tmp t => pure (a.tmps.getD t undef)
  | .cell x t => do loadVar t (← asAddr (a.tmps.getD x undef))
theorem res_sound [Den] {f : Fr} {a : Act} (hf : FR E R f a) (hr : HR P w0 F E H w) {rs : List ResultVar} : ∀ {vs : List Value} {c c' : Nat} {H' : Heap} {L : Lg}, resA P f rs c H = .ok vs c' H' L →
    c' = c ∧ H' = H ∧ ∃ vs', (rs.mapM (resF a)).run P w = .ok vs' w ∧ LR E vs vs' := by
  induction rs with
  | nil =>
    intro vs c c' H' L h
    obtain ⟨rfl, rfl, rfl, _⟩ := pure_ok.1 h
    exact ⟨rfl, rfl, [], rfl, LR.nil E⟩
  | cons r rs ih =>
    intro vs c c' H' L h
    cases r with
    | tmp t =>
      simp only [resA] at h
      replace h := bopt h
      obtain ⟨v, _, hv, h⟩ := h
      replace h := bind_ok.1 h
      obtain ⟨us, c1, h1, _, _, hus, h, _⟩ := h
      obtain ⟨q1, q2, vs', q3, q4⟩ := ih hus
      obtain ⟨q5, q6, q7, _⟩ := pure_ok.1 h
      subst q5 q6 q7 q1 q2
      refine ⟨rfl, rfl, _ :: vs', ?_, LR.cons (hf.get hv) q4⟩
      simp only [List.mapM_cons, resF, Sem.run_bind, Sem.run_pure, Result.andThen_ok, q3]
    | cell x t =>
      simp only [resA] at h
      replace h := bopt h
      obtain ⟨p, _, hp, h⟩ := h
      replace h := bind_ok.1 h
      obtain ⟨v, c2, h2, _, _, hv, h, _⟩ := h
      obtain ⟨p1, p2, v', p3, p4⟩ := load_sound hv hr (hf.get hp)
      subst p1 p2
      replace h := bind_ok.1 h
      obtain ⟨us, c1, h1, _, _, hus, h, _⟩ := h
      obtain ⟨q1, q2, vs', q3, q4⟩ := ih hus
      obtain ⟨q5, q6, q7, _⟩ := pure_ok.1 h
      subst q5 q6 q7 q1 q2
      refine ⟨rfl, rfl, v' :: vs', ?_, LR.cons p4 q4⟩
      have p3' : (resF a (.cell x t)).run P w = .ok v' w := by
        simp only [resF]
        generalize a.tmps.getD x undef = u at p3 ⊢
        cases u <;> first | (simp [Instr.loadAt, Instr.sureAddr] at p3; done) | skip
        rename_i p
        cases p with
        | none => simp [Instr.loadAt, Instr.sureAddr] at p3
        | some q => rw [← p3]; rfl
      rw [List.mapM_cons, Sem.run_bind, p3', Result.andThen_ok, Sem.run_bind, q3, Result.andThen_ok]
      rfl
theorem results_sound [Den] {fn : Func} {f : Fr} {a : Act} (hf : FR E R f a) (hr : HR P w0 F E H w) {v : Value} {c c' : Nat} {H' : Heap} {L : Lg} (h : resultsA P fn f c H = .ok v c' H' L) :
    c' = c ∧ H' = H ∧ ∃ v', (results fn a.tmps).run P w = .ok v' w ∧ VR E v v' := by
  unfold resultsA at h
  replace h := bind_ok.1 h
  obtain ⟨vs, c1, h1, _, _, hvs, h, _⟩ := h
  obtain ⟨q1, q2, vs', q3, q4⟩ := res_sound hf hr hvs
  subst q1 q2
  have hrun : (results fn a.tmps).run P w = .ok (if h : vs'.toArray.size = 1 then vs'.toArray[0] else .tuple vs'.toArray) w := by
    have he : results fn a.tmps = (do let vs ← fn.results.mapM (resF a); pure (if h : vs.size = 1 then vs[0] else .tuple vs)) := by
      unfold results
      congr 1
    rw [he, Sem.run_bind, Array.mapM_eq_mapM_toList, Sem.run_map, q3]
    rfl
  cases vs with
  | nil =>
    obtain ⟨q5, q6, q7, _⟩ := pure_ok.1 h
    subst q5 q6 q7
    rw [q4.nil_inv] at hrun
    exact ⟨rfl, rfl, _, hrun, .tup_of (LR.nil E)⟩
  | cons u us =>
    obtain ⟨u', us', rfl, hu, hus⟩ := q4.cons_inv
    cases us with
    | nil =>
      obtain ⟨q5, q6, q7, _⟩ := pure_ok.1 h
      subst q5 q6 q7
      rw [hus.nil_inv] at hrun
      exact ⟨rfl, rfl, _, hrun, hu⟩
    | cons x xs =>
      obtain ⟨x', xs', rfl, hx, hxs⟩ := hus.cons_inv
      obtain ⟨q5, q6, q7, _⟩ := pure_ok.1 h
      subst q5 q6 q7
      rw [dif_neg (by simp)] at hrun
      exact ⟨rfl, rfl, _, hrun, .tup_of (by simpa using LR.cons hu (LR.cons hx hxs))⟩
end
end Go.Sx
namespace Go.Sx
inductive Loc where
  | cell (i k : Nat)
  | inf (i : Nat)
inductive Inf where
  | row (T : TypeId) (len : Nat) (ro : Bool)
  | map (es : List (Value × Value))
  | loop (st : LoopState) (pending : Option Code) (f : Fr) (ps : List Tmp) (assign body : Code) (dfr : Nat)
  | defd
  | dead
  | orow (T : TypeId) (j : Nat) (ro : Bool)
  | mrow (T : TypeId) (j : Nat) (ro : Bool)
inductive LV where
  | val (v : Value)
  | inf (i : Inf)
noncomputable def infOf : AObj → Inf
  | .row T cs ro => .row T cs.len ro
  | .map es => .map es
  | .loop st p f ps a b d => .loop st p f ps a b d
  | .defd => .defd
  | .dead => .dead
  | .orow T j ro => .orow T j ro
  | .mrow T j ro => .mrow T j ro
noncomputable def cellOf : AObj → Nat → Option Value
  | .row _ cs _, k => cs.get k
  | _, _ => none
noncomputable def look (h : Heap) : Loc → Option LV
  | .cell i k => ((h.get i).bind (cellOf · k)).map .val
  | .inf i => (h.get i).map (fun o => .inf (infOf o))
def Ev.touches : Ev → Loc → Prop
  | .cell i k _, .cell j m => i = j ∧ k = m
  | .info i, .inf j => i = j
  | .row i _, .cell j _ => i = j
  | .row i _, .inf j => i = j
  | _, _ => False
def Ev.writes : Ev → Loc → Prop
  | .cell i k w, .cell j m => w = true ∧ i = j ∧ k = m
  | .row i w, .cell j _ => w = true ∧ i = j
  | .row i w, .inf j => w = true ∧ i = j
  | _, _ => False
def Lg.mem (e : Ev) : Lg → Prop
  | .nil => False
  | .one f => e = f
  | .app a b => a.mem e ∨ b.mem e
def Lg.touch (L : Lg) (x : Loc) : Prop := ∃ e, L.mem e ∧ e.touches x
def Lg.wrote (L : Lg) (x : Loc) : Prop := ∃ e, L.mem e ∧ e.writes x
theorem Ev.touches_of_writes {e : Ev} {x : Loc} (h : e.writes x) : e.touches x := by
  cases e <;> cases x <;> simp_all [Ev.writes, Ev.touches]
theorem touch_of_wrote {L : Lg} {x : Loc} (h : L.wrote x) : L.touch x := let ⟨e, h1, h2⟩ := h; ⟨e, h1, Ev.touches_of_writes h2⟩
theorem touch_app {a b : Lg} {x : Loc} : (Lg.app a b).touch x ↔ a.touch x ∨ b.touch x := by
  constructor
  · rintro ⟨e, h1 | h1, h2⟩
    · exact .inl ⟨e, h1, h2⟩
    · exact .inr ⟨e, h1, h2⟩
  · rintro (⟨e, h1, h2⟩ | ⟨e, h1, h2⟩)
    · exact ⟨e, .inl h1, h2⟩
    · exact ⟨e, .inr h1, h2⟩
theorem wrote_app {a b : Lg} {x : Loc} : (Lg.app a b).wrote x ↔ a.wrote x ∨ b.wrote x := by
  constructor
  · rintro ⟨e, h1 | h1, h2⟩
    · exact .inl ⟨e, h1, h2⟩
    · exact .inr ⟨e, h1, h2⟩
  · rintro (⟨e, h1, h2⟩ | ⟨e, h1, h2⟩)
    · exact ⟨e, .inl h1, h2⟩
    · exact ⟨e, .inr h1, h2⟩
theorem touch_one {e : Ev} {x : Loc} : (Lg.one e).touch x ↔ e.touches x := ⟨fun ⟨_, h1, h2⟩ => h1 ▸ h2, fun h => ⟨e, rfl, h⟩⟩
theorem wrote_one {e : Ev} {x : Loc} : (Lg.one e).wrote x ↔ e.writes x := ⟨fun ⟨_, h1, h2⟩ => h1 ▸ h2, fun h => ⟨e, rfl, h⟩⟩
theorem wrote_nil {x : Loc} : ¬ Lg.nil.wrote x := fun ⟨_, h, _⟩ => h
def Local {α : Type} (m : M α) : Prop := ∀ c h a c' h' L, m c h = .ok a c' h' L →
  (∀ x, ¬ L.wrote x → look h' x = look h x) ∧
  ∀ g, (∀ x, L.touch x → look g x = look h x) → ∃ g', m c g = .ok a c' g' L ∧ (∀ x, L.wrote x → look g' x = look h' x) ∧ (∀ x, ¬ L.wrote x → look g' x = look g x)
theorem Local.pure {α : Type} (a : α) : Local (M.pure a) := by
  intro c h b c' h' L hh
  obtain ⟨rfl, rfl, rfl, rfl⟩ := pure_ok.1 hh
  exact ⟨fun _ _ => rfl, fun g _ => ⟨g, rfl, fun x hx => (wrote_nil hx).elim, fun _ _ => rfl⟩⟩
theorem Local.bad {α : Type} (n : Nat) : Local (M.bad n : M α) := fun _c _h _b _c' _h' _L hh => (bad_ok.1 hh).elim
theorem Local.opt {α : Type} (n : Nat) (o : Option α) : Local (optM n o) := by
  cases o with
  | none => exact Local.bad n
  | some a => exact Local.pure a
theorem Local.guard (n : Nat) (b : Bool) : Local (guardM n b) := by
  cases b with
  | false => exact Local.bad n
  | true => exact Local.pure ()
theorem bindL_ok {α β : Type} {m : M α} {f : α → Lg → M β} {c : Nat} {h : Heap} {b : β} {c' : Nat} {h' : Heap} {L : Lg} :
    bindL m f c h = .ok b c' h' L ↔ ∃ a c1 h1 l1 l2, m c h = .ok a c1 h1 l1 ∧ f a l1 c1 h1 = .ok b c' h' l2 ∧ L = .app l1 l2 := by
  unfold bindL
  constructor
  · intro hh
    cases hm : m c h with
    | bad n => rw [hm] at hh; cases hh
    | ok a c1 h1 l1 =>
      rw [hm] at hh
      dsimp only at hh
      cases hf : f a l1 c1 h1 with
      | bad n => rw [hf] at hh; cases hh
      | ok b2 c2 h2 l2 =>
        rw [hf] at hh
        cases hh
        exact ⟨a, c1, h1, l1, l2, rfl, hf, rfl⟩
  · rintro ⟨a, c1, h1, l1, l2, hm, hf, rfl⟩
    rw [hm]; simp only [hf]
theorem Local.bindL {α β : Type} {m : M α} {f : α → Lg → M β} (hm : Local m) (hf : ∀ a l, Local (f a l)) : Local (Sx.bindL m f) := by
  intro c h b c' h' L hh
  obtain ⟨a, c1, h1, l1, l2, h2, h3, rfl⟩ := bindL_ok.1 hh
  obtain ⟨p1, p2⟩ := hm _ _ _ _ _ _ h2
  obtain ⟨q1, q2⟩ := hf a l1 _ _ _ _ _ _ h3
  refine ⟨fun x hx => ?_, fun g hg => ?_⟩
  · rw [wrote_app] at hx
    rw [q1 x (fun h => hx (.inr h)), p1 x (fun h => hx (.inl h))]
  · obtain ⟨g1, r1, r2, r3⟩ := p2 g (fun x hx => hg x (touch_app.2 (.inl hx)))
    obtain ⟨g', s1, s2, s3⟩ := q2 g1 (fun x hx => by
      by_cases hw : l1.wrote x
      · exact r2 x hw
      · rw [r3 x hw, hg x (touch_app.2 (.inr hx)), p1 x hw])
    refine ⟨g', bindL_ok.2 ⟨a, c1, g1, l1, l2, r1, s1, rfl⟩, fun x hx => ?_, fun x hx => ?_⟩
    · by_cases hw : l2.wrote x
      · exact s2 x hw
      · rw [s3 x hw, q1 x hw]
        exact r2 x ((wrote_app.1 hx).resolve_right hw)
    · rw [wrote_app] at hx
      rw [s3 x (fun h => hx (.inr h)), r3 x (fun h => hx (.inl h))]
theorem Local.bind {α β : Type} {m : M α} {f : α → M β} (hm : Local m) (hf : ∀ a, Local (f a)) : Local (M.bind m f) := Local.bindL (f := fun a _ => f a) hm (fun a _ => hf a)
theorem look_set (h : Heap) (i : Nat) (o : AObj) (x : Loc) : look (h.set i o) x = match x with
    | .cell j k => if j = i then (cellOf o k).map .val else look h x
    | .inf j => if j = i then some (.inf (infOf o)) else look h x := by
  cases x with
  | cell j k =>
    simp only [look, Tr.get_set]
    by_cases hj : j = i <;> simp [hj]
  | inf j =>
    simp only [look, Tr.get_set]
    by_cases hj : j = i <;> simp [hj]
theorem Local.rd (i k : Nat) : Local (rd i k) := by
  intro c h v c' h' L hh
  obtain ⟨q1, q2, q3, T, cs, ro, hi, hk⟩ := rd_inv hh
  subst q1 q2 q3
  refine ⟨fun _ _ => rfl, fun g hg => ⟨g, ?_, fun x hx => ?_, fun _ _ => rfl⟩⟩
  · have := hg (.cell i k) (touch_one.2 ⟨rfl, rfl⟩)
    simp only [look, hi, Option.bind_some, cellOf, hk, Option.map_some] at this
    cases hgi : g.get i with
    | none => rw [hgi] at this; simp at this
    | some o =>
      rw [hgi] at this
      cases o <;> simp only [Option.bind_some, Option.map_none, reduceCtorEq] at this
      rename_i T2 cs2 ro2
      cases hk2 : cs2.get k with
      | none => rw [hk2] at this; simp at this
      | some u =>
        rw [hk2] at this
        simp only [Option.map_some, Option.some.injEq, LV.val.injEq] at this
        subst this
        simp [Sx.rd, hgi, hk2]
  · have := wrote_one.1 hx
    cases x <;> simp [Ev.writes] at this
theorem Local.wr (i k : Nat) (v : Value) : Local (wr i k v) := by
  intro c h u c' h' L hh
  obtain ⟨q1, q2, ho, T, cs, u0, hi, hk, q3⟩ := wr_inv hh
  subst q1 q2 q3
  have hw : ∀ x, ((Lg.one (Ev.info i)).app (Lg.one (Ev.cell i k true))).wrote x ↔ x = .cell i k := by
    intro x
    rw [wrote_app, wrote_one, wrote_one]
    cases x with
    | cell j m =>
      simp only [Ev.writes, Loc.cell.injEq, false_or, true_and]
      exact ⟨fun ⟨a, b⟩ => ⟨a.symm, b.symm⟩, fun ⟨a, b⟩ => ⟨a.symm, b.symm⟩⟩
    | inf j => simp [Ev.writes]
  refine ⟨fun x hx => ?_, fun g hg => ?_⟩
  · rw [hw] at hx
    rw [look_set]
    cases x with
    | cell j m =>
      simp only
      by_cases hj : j = i
      · subst hj
        have hm : m ≠ k := fun e => hx (by rw [e])
        simp only [if_true, cellOf, Cells.get_set hk, hm, if_false, look, hi, Option.bind_some]
      · simp [hj]
    | inf j =>
      simp only
      by_cases hj : j = i
      · subst hj; simp [look, hi, infOf, Cells.len_set]
      · simp [hj]
  · have h1 := hg (.inf i) (touch_app.2 (.inl (touch_one.2 rfl)))
    have h2 := hg (.cell i k) (touch_app.2 (.inr (touch_one.2 ⟨rfl, rfl⟩)))
    simp only [look, hi, Option.map_some, infOf] at h1
    simp only [look, hi, Option.bind_some, cellOf, hk, Option.map_some] at h2
    cases hgi : g.get i with
    | none => rw [hgi] at h1; simp at h1
    | some o =>
      rw [hgi] at h1 h2
      cases o <;> simp only [Option.map_some, Option.some.injEq, LV.inf.injEq, reduceCtorEq] at h1
      rename_i T2 cs2 ro2
      simp only [Inf.row.injEq] at h1
      obtain ⟨e1, e2, e3⟩ := h1
      subst e1 e3
      simp only [Option.bind_some] at h2
      cases hk2 : cs2.get k with
      | none => rw [hk2] at h2; simp at h2
      | some u1 =>
        refine ⟨g.set i (.row T2 (cs2.set k v) false), by simp [Sx.wr, hgi, hk2, ho], fun x hx => ?_, fun x hx => ?_⟩
        · rw [hw] at hx
          subst hx
          simp only [look_set, if_true, cellOf, Cells.get_set hk, Cells.get_set hk2]
        · rw [hw] at hx
          rw [look_set]
          cases x with
          | cell j m =>
            simp only
            by_cases hj : j = i
            · subst hj
              have hm : m ≠ k := fun e => hx (by rw [e])
              simp only [if_true, cellOf, Cells.get_set hk2, hm, if_false, look, hgi, Option.bind_some]
            · simp [hj]
          | inf j =>
            simp only
            by_cases hj : j = i
            · subst hj; simp [look, hgi, infOf, Cells.len_set]
            · simp [hj]
theorem Local.info (i : Nat) : Local (info i) := by
  intro c h r c' h' L hh
  have hh0 := hh
  obtain ⟨q1, q2, T, cs, ro, hi, q3⟩ := info_inv hh
  unfold Sx.info at hh0
  rw [hi] at hh0
  cases hh0
  refine ⟨fun _ _ => rfl, fun g hg => ⟨g, ?_, fun x hx => ?_, fun _ _ => rfl⟩⟩
  · have h1 := hg (.inf i) (touch_one.2 rfl)
    simp only [look, hi, Option.map_some, infOf] at h1
    cases hgi : g.get i with
    | none => rw [hgi] at h1; simp at h1
    | some o =>
      rw [hgi] at h1
      cases o <;> simp only [Option.map_some, Option.some.injEq, LV.inf.injEq, reduceCtorEq] at h1
      simp only [Inf.row.injEq] at h1
      obtain ⟨e1, e2, e3⟩ := h1
      subst e1 e3
      simp [Sx.info, hgi, e2]
  · have := wrote_one.1 hx
    cases x <;> simp [Ev.writes] at this
theorem row_wrote {i : Nat} {x : Loc} : (Lg.one (Ev.row i true)).wrote x ↔ (∃ k, x = .cell i k) ∨ x = .inf i := by
  rw [wrote_one]
  cases x with
  | cell j k => simp only [Ev.writes, true_and, Loc.cell.injEq, reduceCtorEq, or_false]; exact ⟨fun h => ⟨k, h.symm, rfl⟩, fun ⟨_, h, _⟩ => h.symm⟩
  | inf j => simp only [Ev.writes, true_and, reduceCtorEq, exists_false, false_or, Loc.inf.injEq]; exact ⟨fun h => h.symm, fun h => h.symm⟩
theorem look_set_other {h : Heap} {i : Nat} {o : AObj} {x : Loc} (hx : ¬ (Lg.one (Ev.row i true)).wrote x) : look (h.set i o) x = look h x := by
  rw [row_wrote] at hx
  rw [look_set]
  cases x with
  | cell j k =>
    have : j ≠ i := fun e => hx (.inl ⟨k, by rw [e]⟩)
    simp [this]
  | inf j =>
    have : j ≠ i := fun e => hx (.inr (by rw [e]))
    simp [this]
theorem look_set_same {h g : Heap} {i : Nat} {o : AObj} {x : Loc} (hx : (Lg.one (Ev.row i true)).wrote x) : look (h.set i o) x = look (g.set i o) x := by
  rw [row_wrote] at hx
  rcases hx with ⟨k, rfl⟩ | rfl <;> simp [look_set]
theorem Local.newA (o : AObj) : Local (newA o) := by
  intro c h j c' h' L hh
  obtain ⟨q1, q2, hn, q3, q4⟩ := newA_inv hh
  subst q1 q2 q3 q4
  refine ⟨fun x hx => look_set_other hx, fun g hg => ⟨g.set j o, ?_, fun x hx => look_set_same hx, fun x hx => look_set_other hx⟩⟩
  have h1 := hg (.inf j) (touch_one.2 rfl)
  simp only [look, hn, Option.map_none, Option.map_eq_none_iff] at h1
  simp [Sx.newA, h1]
theorem Local.killA (i : Nat) : Local (killA i) := by
  intro c h u c' h' L hh
  have hh0 := hh
  obtain ⟨q1, q2, T, cs, hi⟩ := killA_inv hh
  unfold Sx.killA at hh0
  rw [hi] at hh0
  cases hh0
  refine ⟨fun x hx => look_set_other hx, fun g hg => ⟨g.set i .dead, ?_, fun x hx => look_set_same hx, fun x hx => look_set_other hx⟩⟩
  have h1 := hg (.inf i) (touch_one.2 rfl)
  simp only [look, hi, Option.map_some, infOf] at h1
  cases hgi : g.get i with
  | none => rw [hgi] at h1; simp at h1
  | some o =>
    rw [hgi] at h1
    cases o <;> simp only [Option.map_some, Option.some.injEq, LV.inf.injEq, reduceCtorEq] at h1
    simp only [Inf.row.injEq] at h1
    obtain ⟨e1, e2, e3⟩ := h1
    subst e1 e3
    simp [Sx.killA, hgi]
theorem Local.growA (i : Nat) (T : TypeId) (new : List Value) : Local (growA i T new) := by
  intro c h j c' h' L hh
  obtain ⟨q1, q2, q3, cs, hi, hn, q4⟩ := growA_inv hh
  subst q1 q2 q3 q4
  have hne : j ≠ i := fun e => by rw [e, hi] at hn; cases hn
  have other : ∀ {g : Heap} {o : AObj} {x : Loc}, ¬ ((Lg.one (Ev.row i true)).app (Lg.one (Ev.row j true))).wrote x → look ((g.set i .dead).set j o) x = look g x := fun hx => by
    rw [wrote_app] at hx
    rw [look_set_other (fun h => hx (.inr h)), look_set_other (fun h => hx (.inl h))]
  refine ⟨fun x hx => other hx, fun g hg => ?_⟩
  have h1 := hg (.inf i) (touch_app.2 (.inl (touch_one.2 rfl)))
  have h2 := hg (.inf j) (touch_app.2 (.inr (touch_one.2 rfl)))
  have h3 : ∀ k, look g (.cell i k) = look h (.cell i k) := fun k => hg (.cell i k) (touch_app.2 (.inl (touch_one.2 rfl)))
  simp only [look, hn, Option.map_none, Option.map_eq_none_iff] at h2
  simp only [look, hi, Option.map_some, infOf] at h1
  cases hgi : g.get i with
  | none => rw [hgi] at h1; simp at h1
  | some o =>
    rw [hgi] at h1
    cases o <;> simp only [Option.map_some, Option.some.injEq, LV.inf.injEq, reduceCtorEq] at h1
    rename_i T2 cs2 ro2
    simp only [Inf.row.injEq] at h1
    obtain ⟨e1, e2, e3⟩ := h1
    subst e1 e3
    have hc : ∀ k, cs2.get k = cs.get k := fun k => by
      have := h3 k
      simp only [look, hi, hgi, Option.bind_some, cellOf] at this
      cases ha : cs2.get k <;> cases hb : cs.get k <;> rw [ha, hb] at this <;> simp at this
      rw [this]
    refine ⟨(g.set i .dead).set j (.row T2 (cs2.app new) false), by simp [Sx.growA, hgi, h2], fun x hx => ?_, fun x hx => other hx⟩
    obtain ⟨a1, a2⟩ := app_spec cs new
    obtain ⟨b1, b2⟩ := app_spec cs2 new
    rw [look_set (g.set i .dead) j, look_set (h.set i .dead) j]
    cases x with
    | cell m k =>
      simp only
      by_cases hm : m = j
      · rw [if_pos hm, if_pos hm]
        simp only [cellOf, a2, b2, e2, hc]
      · rw [if_neg hm, if_neg hm]
        have hx' := (wrote_app.1 hx).resolve_right (fun hw => by
          rcases row_wrote.1 hw with ⟨k', hk'⟩ | hk'
          · exact hm (by cases hk'; rfl)
          · cases hk')
        exact look_set_same hx'
    | inf m =>
      simp only
      by_cases hm : m = j
      · rw [if_pos hm, if_pos hm]
        simp only [infOf, a1, b1, e2]
      · rw [if_neg hm, if_neg hm]
        have hx' := (wrote_app.1 hx).resolve_right (fun hw => by
          rcases row_wrote.1 hw with ⟨k', hk'⟩ | hk'
          · cases hk'
          · exact hm (by cases hk'; rfl))
        exact look_set_same hx'
theorem Local.mapGet (i : Nat) : Local (mapGet i) := by
  intro c h r c' h' L hh
  have hh0 := hh
  obtain ⟨q1, q2, hi⟩ := mapGet_inv hh
  unfold Sx.mapGet at hh0
  rw [hi] at hh0
  cases hh0
  refine ⟨fun _ _ => rfl, fun g hg => ⟨g, ?_, fun x hx => ?_, fun _ _ => rfl⟩⟩
  · have h1 := hg (.inf i) (touch_one.2 rfl)
    simp only [look, hi, Option.map_some, infOf] at h1
    cases hgi : g.get i with
    | none => rw [hgi] at h1; simp at h1
    | some o =>
      rw [hgi] at h1
      cases o <;> simp only [Option.map_some, Option.some.injEq, LV.inf.injEq, reduceCtorEq] at h1
      simp only [Inf.map.injEq] at h1
      subst h1
      simp [Sx.mapGet, hgi]
  · have := wrote_one.1 hx
    cases x <;> simp [Ev.writes] at this
theorem Local.mapSet (i : Nat) (es : List (Value × Value)) : Local (mapSet i es) := by
  intro c h u c' h' L hh
  unfold Sx.mapSet at hh
  split at hh
  · rename_i es0 hi
    cases hh
    refine ⟨fun x hx => look_set_other hx, fun g hg => ⟨g.set i (.map es), ?_, fun x hx => look_set_same hx, fun x hx => look_set_other hx⟩⟩
    have h1 := hg (.inf i) (touch_one.2 rfl)
    simp only [look, hi, Option.map_some, infOf] at h1
    cases hgi : g.get i with
    | none => rw [hgi] at h1; simp at h1
    | some o =>
      rw [hgi] at h1
      cases o <;> simp only [Option.map_some, Option.some.injEq, LV.inf.injEq, reduceCtorEq] at h1
      simp [Sx.mapSet, hgi]
  · cases hh
theorem Local.rdN (i : Nat) : ∀ (n o : Nat), Local (rdN i o n)
  | 0, _o => Local.pure []
  | n + 1, o => Local.bind (Local.rd i o) fun _ => Local.bind (Local.rdN i n (o + 1)) fun _ => Local.pure _
theorem Local.wrN (i : Nat) : ∀ (vs : List Value) (o : Nat), Local (wrN i o vs)
  | [], _o => Local.pure ()
  | v :: vs, o => Local.bind (Local.wr i o v) fun _ => Local.wrN i vs (o + 1)
theorem Local.rdB (i o n : Nat) : Local (rdB i o n) := by rw [rdB_eq]; exact Local.rdN i n o
theorem Local.wrB (i o : Nat) (vs : List Value) : Local (wrB i o vs) := by rw [wrB_eq]; exact Local.wrN i vs o
theorem Local.lpGet (i : Nat) : Local (lpGet i) := by
  intro c h r c' h' L hh
  have hh0 := hh
  obtain ⟨q1, q2, hi⟩ := lpGet_inv hh
  unfold Sx.lpGet at hh0
  rw [hi] at hh0
  cases hh0
  refine ⟨fun _ _ => rfl, fun g hg => ⟨g, ?_, fun x hx => ?_, fun _ _ => rfl⟩⟩
  · have h1 := hg (.inf i) (touch_one.2 rfl)
    simp only [look, hi, Option.map_some, infOf] at h1
    cases hgi : g.get i with
    | none => rw [hgi] at h1; simp at h1
    | some o =>
      rw [hgi] at h1
      cases o <;> simp only [Option.map_some, Option.some.injEq, LV.inf.injEq, reduceCtorEq] at h1
      simp only [Inf.loop.injEq] at h1
      obtain ⟨e1, e2, e3, e4, e5, e6, e7⟩ := h1
      subst e1 e2 e3 e4 e5 e6 e7
      simp [Sx.lpGet, hgi]
  · have := wrote_one.1 hx
    cases x <;> simp [Ev.writes] at this
theorem Local.lpSet (i : Nat) (st : LoopState) (pe : Option Code) : Local (lpSet i st pe) := by
  intro c h u c' h' L hh
  unfold Sx.lpSet at hh
  split at hh
  · rename_i st0 pe0 f ps a b d hi
    cases hh
    refine ⟨fun x hx => look_set_other hx, fun g hg => ⟨g.set i (.loop st pe f ps a b d), ?_, fun x hx => look_set_same hx, fun x hx => look_set_other hx⟩⟩
    have h1 := hg (.inf i) (touch_one.2 rfl)
    simp only [look, hi, Option.map_some, infOf] at h1
    cases hgi : g.get i with
    | none => rw [hgi] at h1; simp at h1
    | some o =>
      rw [hgi] at h1
      cases o <;> simp only [Option.map_some, Option.some.injEq, LV.inf.injEq, reduceCtorEq] at h1
      simp only [Inf.loop.injEq] at h1
      obtain ⟨e1, e2, e3, e4, e5, e6, e7⟩ := h1
      subst e1 e2 e3 e4 e5 e6 e7
      simp [Sx.lpSet, hgi]
  · cases hh
theorem Local.takeA (i : Nat) : Local (takeA i) := by
  intro c h u c' h' L hh
  unfold Sx.takeA at hh
  split at hh
  · rename_i hi
    cases hh
    refine ⟨fun x hx => look_set_other hx, fun g hg => ⟨g.set i .dead, ?_, fun x hx => look_set_same hx, fun x hx => look_set_other hx⟩⟩
    have h1 := hg (.inf i) (touch_one.2 rfl)
    simp only [look, hi, Option.map_some, infOf] at h1
    cases hgi : g.get i with
    | none => rw [hgi] at h1; simp at h1
    | some o =>
      rw [hgi] at h1
      cases o <;> simp only [Option.map_some, Option.some.injEq, LV.inf.injEq, reduceCtorEq] at h1
      simp [Sx.takeA, hgi]
  · cases hh
theorem Local.takeL : ∀ (is : List Nat), Local (takeL is)
  | [] => Local.pure ()
  | i :: is => Local.bind (Local.guard _ _) fun _ => Local.bind (Local.takeA i) fun _ => Local.takeL is
theorem Local.eval (f : Fr) (x : Operand) : Local (f.eval x) := by
  cases x with
  | tmp t => exact Local.opt _ _
  | const v =>
    simp only [Fr.eval]
    cases cleanB v
    · exact Local.bad _
    · exact Local.pure _
  | global g => exact Local.bad _
  | func g => exact Local.pure _
theorem Local.evalL (f : Fr) : ∀ (xs : List Operand), Local (evalL f xs)
  | [] => Local.pure _
  | x :: xs => Local.bind (Local.eval f x) fun _ => Local.bind (Local.evalL f xs) fun _ => Local.pure _
theorem Local.pairsL (f : Fr) : ∀ (xs : List (Nat × Operand)), Local (pairsL f xs)
  | [] => Local.pure _
  | (_, x) :: xs => Local.bind (Local.eval f x) fun _ => Local.bind (Local.pairsL f xs) fun _ => Local.pure _
theorem Local.evalO (f : Fr) : ∀ (x : Option Operand), Local (evalO f x)
  | none => Local.pure _
  | some x => Local.bind (Local.eval f x) fun _ => Local.pure _
theorem Local.loadA (P : Program) (t : TypeId) (a : Value) : Local (loadA P t a) := by
  unfold Sx.loadA
  split
  · refine Local.bind (Local.opt _ _) fun b => ?_
    cases b
    · exact Local.rd _ _
    · exact Local.bind (Local.opt _ _) fun _ => Local.bind (Local.rdB _ _ _) fun _ => Local.pure _
  · exact Local.bad _
theorem Local.storeA (P : Program) (t : TypeId) (a v : Value) : Local (storeA P t a v) := by
  unfold Sx.storeA
  split
  · exact Local.bind (Local.opt _ _) fun _ => Local.bind (Local.guard _ _) fun _ => Local.wrB _ _ _
  · exact Local.bad _
theorem Local.newRowA (T : TypeId) (cs : List Value) : Local (newRowA T cs) := Local.bind (Local.guard _ _) fun _ => Local.bind (Local.newA _) fun _ => Local.pure _
theorem Local.buildSliceA (P : Program) (t : TypeId) (n : Nat) (ps : List (Nat × Value)) : Local (buildSliceA P t n ps) :=
  Local.bind (Local.opt _ _) fun _ => Local.bind (Local.opt _ _) fun _ => Local.bind (Local.guard _ _) fun _ => Local.bind (Local.opt _ _) fun _ => Local.bind (Local.guard _ _) fun _ => Local.bind (Local.opt _ _) fun _ =>
    Local.bind (Local.guard _ _) fun _ => Local.bind (Local.newA _) fun _ => Local.pure _
theorem Local.srcCells (n s : Nat) (x : Value) : Local (srcCells n s x) := by
  unfold Sx.srcCells
  split
  · exact Local.rdB _ _ _
  · exact Local.pure _
  · rename_i b
    cases Nat.beq s 1
    · exact Local.bad _
    · exact Local.pure _
  · exact Local.bad _
theorem Local.ite {α : Type} {b : Bool} {x y : M α} (hx : Local x) (hy : Local y) : Local (bif b then x else y) := by cases b; exact hy; exact hx
theorem Local.appendA (P : Program) (ats : List TypeId) (args : List Value) : Local (appendA P ats args) := by
  unfold Sx.appendA
  split
  · refine Local.bind (Local.opt _ _) fun _ => Local.bind (Local.opt _ _) fun _ => Local.bind (Local.opt _ _) fun _ => Local.bind (Local.opt _ _) fun _ => Local.bind (Local.guard _ _) fun _ => Local.bind (Local.opt _ _) fun _ => ?_
    refine Local.ite (Local.pure _) (Local.bind (Local.guard _ _) fun _ => Local.bind (Local.srcCells _ _ _) fun _ => Local.bind (Local.guard _ _) fun _ => ?_)
    split
    · exact Local.ite (Local.bind (Local.newA _) fun _ => Local.pure _) (Local.bad _)
    · refine Local.ite (Local.ite (Local.bind (Local.wrB _ _ _) fun _ => Local.pure _) (Local.bind (Local.rdB _ _ _) fun _ => Local.bind (Local.guard _ _) fun _ => Local.bind (Local.newA _) fun _ => Local.pure _)) ?_
      refine Local.bind (Local.info _) fun x => ?_
      exact Local.bind (Local.guard _ _) fun _ => Local.ite (Local.bind (Local.growA _ _ _) fun _ => Local.pure _) (Local.bind (Local.rdB _ _ _) fun _ => Local.bind (Local.guard _ _) fun _ => Local.bind (Local.killA _) fun _ => Local.bind (Local.newA _) fun _ => Local.pure _)
    · exact Local.bad _
  · exact Local.bad _
theorem Local.copyA (P : Program) (ats : List TypeId) (args : List Value) : Local (copyA P ats args) := by
  unfold Sx.copyA
  split
  · refine Local.bind (Local.opt _ _) fun _ => Local.bind (Local.opt _ _) fun _ => Local.bind (Local.opt _ _) fun _ => Local.bind (Local.srcCells _ _ _) fun _ => ?_
    split
    · exact Local.pure _
    · exact Local.bind (Local.wrB _ _ _) fun _ => Local.pure _
    · exact Local.bad _
  · exact Local.bad _
theorem Local.makeSliceA (P : Program) (t : TypeId) (l c : Value) : Local (makeSliceA P t l c) := by
  unfold Sx.makeSliceA
  split
  · refine Local.bind (Local.opt _ _) fun _ => Local.bind (Local.opt _ _) fun _ => Local.bind (Local.opt _ _) fun _ => Local.bind (Local.guard _ _) fun _ => Local.bind (Local.opt _ _) fun _ => Local.bind (Local.guard _ _) fun _ =>
      Local.bind (Local.newRowA _ _) fun _ => ?_
    split
    · exact Local.pure _
    · exact Local.bad _
  · exact Local.bad _
theorem Local.lookupA (P : Program) (t : TypeId) (x k : Value) (ok : Bool) : Local (lookupA P t x k ok) := by
  unfold Sx.lookupA
  refine Local.bind (Local.opt _ _) fun _ => Local.bind (Local.guard _ _) fun _ => Local.bind (Local.opt _ _) fun _ => Local.bind (Local.guard _ _) fun _ => Local.bind ?_ fun es => ?_
  · split
    · exact Local.pure _
    · exact Local.mapGet _
    · exact Local.bad _
  · split
    · exact Local.pure _
    · exact Local.pure _
    · exact Local.bad _
theorem Local.mapUpdateA (P : Program) (t : TypeId) (x k v : Value) : Local (mapUpdateA P t x k v) := by
  unfold Sx.mapUpdateA
  refine Local.bind (Local.opt _ _) fun _ => Local.bind (Local.guard _ _) fun _ => ?_
  split
  · exact Local.bind (Local.mapGet _) fun _ => Local.bind (Local.opt _ _) fun _ => Local.mapSet _ _
  · exact Local.bad _
theorem Local.deleteA (P : Program) (t : TypeId) (x k : Value) : Local (deleteA P t x k) := by
  unfold Sx.deleteA
  refine Local.bind (Local.opt _ _) fun _ => Local.bind (Local.guard _ _) fun _ => ?_
  split
  · exact Local.pure _
  · exact Local.bind (Local.mapGet _) fun _ => Local.bind (Local.opt _ _) fun _ => Local.mapSet _ _
  · exact Local.bad _
theorem Local.lenBuiltin (P : Program) (t : TypeId) (x : Value) : Local (lenBuiltin P t x) := by
  unfold Sx.lenBuiltin
  split
  · split
    · exact Local.pure _
    · exact Local.bad _
  · exact Local.pure _
  · split
    · exact Local.pure _
    · exact Local.bad _
  · split
    · exact Local.pure _
    · exact Local.bind (Local.mapGet _) fun _ => Local.pure _
    · exact Local.bad _
  · exact Local.bad _
theorem Local.binA [Asm] (P : Program) (op : BinOp) (t : TypeId) (a b : Value) : Local (binA P op t a b) := by
  unfold Sx.binA
  refine Local.ite (Local.bind (Local.guard _ _) fun _ => Local.opt _ _) (Local.ite (Local.opt _ _) ?_)
  split
  · exact Local.bind (Local.opt _ _) fun _ => Local.pure _
  · exact Local.bind (Local.opt _ _) fun _ => Local.pure _
  · exact Local.bad _
theorem match_look {o x y : AObj} (hm : matchO o x = true) (hi : infOf y = infOf x) (hc : ∀ k, cellOf y k = cellOf x k) : matchO o y = true := by
  cases o with
  | row T cs ro =>
    cases cs with
    | blk t n => cases x <;> cases hm
    | lst l =>
      cases x <;> simp only [matchO, Bool.false_eq_true] at hm
      rename_i T' cs' ro'
      cases y <;> simp only [infOf, reduceCtorEq, Inf.row.injEq] at hi
      rename_i T2 cs2 ro2
      obtain ⟨h1, h2, h3⟩ := hi
      subst h1 h3
      simp only [matchO, Bool.and_eq_true] at hm ⊢
      refine ⟨hm.1, ?_⟩
      have hg : ∀ k, cs2.get k = cs'.get k := hc
      have key : ∀ (l : List Value) (k : Nat), cellsIs cs' k l = true → cellsIs cs2 k l = true := by
        intro l
        induction l with
        | nil => intro k _; rfl
        | cons v l ih =>
          intro k h
          simp only [cellsIs, Bool.and_eq_true] at h ⊢
          exact ⟨by rw [hg]; exact h.1, ih _ h.2⟩
      exact key l 0 hm.2
  | orow T j ro =>
    cases x <;> simp only [matchO, Bool.false_eq_true] at hm
    cases y <;> simp only [infOf, reduceCtorEq, Inf.orow.injEq] at hi
    obtain ⟨h1, h2, h3⟩ := hi
    subst h1 h2 h3
    exact hm
  | mrow T j ro =>
    cases x <;> simp only [matchO, Bool.false_eq_true] at hm
    cases y <;> simp only [infOf, reduceCtorEq, Inf.mrow.injEq] at hi
    obtain ⟨h1, h2, h3⟩ := hi
    subst h1 h2 h3
    exact hm
  | map es =>
    cases x <;> simp only [matchO, Bool.false_eq_true] at hm
    cases y <;> simp only [infOf, reduceCtorEq, Inf.map.injEq] at hi
    subst hi
    exact hm
  | loop _ _ _ _ _ _ _ => cases x <;> cases hm
  | defd => cases x <;> cases hm
  | dead => cases x <;> cases hm
theorem look_obj {h g : Heap} {i : Nat} {x : AObj} (hx : h.get i = some x) (h1 : look g (.inf i) = look h (.inf i)) (h2 : ∀ k, look g (.cell i k) = look h (.cell i k)) : ∃ y, g.get i = some y ∧ infOf y = infOf x ∧ ∀ k, cellOf y k = cellOf x k := by
  simp only [look, hx, Option.map_some] at h1
  cases hg : g.get i with
  | none => rw [hg] at h1; simp at h1
  | some y =>
    rw [hg] at h1
    simp only [Option.map_some, Option.some.injEq, LV.inf.injEq] at h1
    refine ⟨y, rfl, h1, fun k => ?_⟩
    have := h2 k
    simp only [look, hx, hg, Option.bind_some] at this
    cases hc : cellOf x k with
    | none =>
      rw [hc] at this
      cases hc' : cellOf y k with
      | none => rfl
      | some v' => rw [hc'] at this; simp at this
    | some v =>
      rw [hc] at this
      cases hc' : cellOf y k with
      | none => rw [hc'] at this; simp at this
      | some v' => rw [hc'] at this; simp only [Option.map_some, Option.some.injEq, LV.val.injEq] at this; rw [this]
theorem Local.swapA (a : Nat) (o o' : AObj) : Local (swapA a o o') := by
  intro c h u c' h' L hh
  unfold Sx.swapA at hh
  split at hh
  · rename_i x hx
    cases hm : matchO o x with
    | false => rw [hm] at hh; cases hh
    | true =>
      rw [hm] at hh
      cases hh
      refine ⟨fun y hy => look_set_other hy, fun g hg => ⟨g.set a o', ?_, fun y hy => look_set_same hy, fun y hy => look_set_other hy⟩⟩
      obtain ⟨y, k1, k2, k3⟩ := look_obj hx (hg (.inf a) (touch_one.2 rfl)) (fun k => hg (.cell a k) (touch_one.2 rfl))
      simp [Sx.swapA, k1, match_look hm k2 k3]
  · cases hh
theorem Local.seeA (a : Nat) (o : AObj) : Local (seeA a o) := by
  intro c h u c' h' L hh
  unfold Sx.seeA at hh
  split at hh
  · rename_i x hx
    cases hm : matchO o x with
    | false => rw [hm] at hh; cases hh
    | true =>
      rw [hm] at hh
      cases hh
      refine ⟨fun _ _ => rfl, fun g hg => ⟨g, ?_, fun y hy => ?_, fun _ _ => rfl⟩⟩
      · obtain ⟨y, k1, k2, k3⟩ := look_obj hx (hg (.inf a) (touch_one.2 rfl)) (fun k => hg (.cell a k) (touch_one.2 rfl))
        simp [Sx.seeA, k1, match_look hm k2 k3]
      · have := wrote_one.1 hy
        cases y <;> simp [Ev.writes] at this
  · cases hh
theorem inf_notM {o o' : AObj} (h : infOf o' = infOf o) : notM o' = notM o := by
  cases o <;> cases o' <;> simp [infOf] at h <;> rfl
theorem Local.liveA (a : Nat) : Local (liveA a) := by
  intro c h u c' h' L hh
  unfold Sx.liveA at hh
  split at hh
  · rename_i x hx
    cases hm : notM x with
    | false => rw [hm] at hh; cases hh
    | true =>
    rw [hm] at hh
    cases hh
    refine ⟨fun _ _ => rfl, fun g hg => ⟨g, ?_, fun y hy => ?_, fun _ _ => rfl⟩⟩
    · obtain ⟨y, k1, k2, k3⟩ := look_obj hx (hg (.inf a) (touch_one.2 rfl)) (fun k => hg (.cell a k) (touch_one.2 rfl))
      simp [Sx.liveA, k1, inf_notM k2, hm]
    · have := wrote_one.1 hy
      cases y <;> simp [Ev.writes] at this
  · cases hh
theorem Local.hidsM : ∀ l, Local (hidsM l)
  | [] => Local.pure _
  | _ :: l => Local.bind (Local.liveA _) fun _ => Local.hidsM l
theorem Local.footsM : ∀ fs, Local (footsM fs)
  | [] => Local.pure _
  | f :: fs => by
    refine Local.bind ?_ fun _ => Local.footsM fs
    cases f.ro with
    | true => exact Local.seeA _ _
    | false => exact Local.swapA _ _ _
theorem Local.newsM : ∀ (l : HL) (k : Nat), Local (newsM k l)
  | [], _ => Local.pure _
  | (_, _) :: l, k => Local.bind (Local.newA _) fun _ => Local.bind (Local.guard _ _) fun _ => Local.newsM l (k + 1)
theorem Local.runE (e : Entry) : Local (runE e) := Local.bind (Local.hidsM _) fun _ => Local.bind (Local.footsM _) fun _ => Local.bind (Local.newsM _ _) fun _ => Local.pure _
theorem Local.orc (es : List Entry) (args : List Value) : Local (orc es args) := by
  intro c h a c' h' L hh
  unfold Sx.orc at hh
  cases hf : findE args c es with
  | none => rw [hf] at hh; cases hh
  | some e =>
    rw [hf] at hh
    obtain ⟨h1, h2⟩ := Local.runE e c h a c' h' L hh
    refine ⟨h1, fun g hg => ?_⟩
    obtain ⟨g', k1, k2⟩ := h2 g hg
    exact ⟨g', by unfold Sx.orc; rw [hf]; exact k1, k2⟩
theorem Local.appX [Asm] (ats : List TypeId) (args : List Value) : Local (appX ats args) := by
  intro c h a c' h' L hh
  unfold Sx.appX at hh
  cases hf : findApp ats args c Asm.apps with
  | none => rw [hf] at hh; cases hh
  | some e =>
    rw [hf] at hh
    obtain ⟨h1, h2⟩ := Local.runE e c h a c' h' L hh
    refine ⟨h1, fun g hg => ?_⟩
    obtain ⟨g', k1, k2⟩ := h2 g hg
    exact ⟨g', by unfold Sx.appX; rw [hf]; exact k1, k2⟩
theorem Local.loadX [Asm] (t k : Nat) : Local (loadX t k) := by
  intro c h u c' h' L hh
  unfold Sx.loadX at hh
  cases hf : findLd t k Asm.lds with
  | none =>
    rw [hf] at hh
    obtain ⟨h1, h2⟩ := Local.appX [t, 1000000] [.chan (some k)] c h u c' h' L hh
    refine ⟨h1, fun g hg => ?_⟩
    obtain ⟨g', k1, k2⟩ := h2 g hg
    exact ⟨g', by unfold Sx.loadX; rw [hf]; exact k1, k2⟩
  | some e =>
    rw [hf] at hh
    simp only at hh
    split at hh
    · rename_i T j ro hx
      cases hb : Nat.beq j e.j with
      | false => rw [hb] at hh; cases hh
      | true =>
        rw [hb] at hh
        cases hh
        refine ⟨fun _ _ => rfl, fun g hg => ⟨g, ?_, fun y hy => ?_, fun _ _ => rfl⟩⟩
        · obtain ⟨y, k1, k2, k3⟩ := look_obj hx (hg (.inf e.id) (touch_one.2 rfl)) (fun k => hg (.cell e.id k) (touch_one.2 rfl))
          cases y <;> simp only [infOf, reduceCtorEq, Inf.orow.injEq] at k2
          obtain ⟨e1, e2, e3⟩ := k2
          subst e1 e2 e3
          simp [Sx.loadX, hf, k1, hb]
        · have := wrote_one.1 hy
          cases y <;> simp [Ev.writes] at this
    · rename_i T j ro hx
      cases hb : Nat.beq j e.j with
      | false => rw [hb] at hh; cases hh
      | true =>
        rw [hb] at hh
        cases hh
        refine ⟨fun _ _ => rfl, fun g hg => ⟨g, ?_, fun y hy => ?_, fun _ _ => rfl⟩⟩
        · obtain ⟨y, k1, k2, k3⟩ := look_obj hx (hg (.inf e.id) (touch_one.2 rfl)) (fun k => hg (.cell e.id k) (touch_one.2 rfl))
          cases y <;> simp only [infOf, reduceCtorEq, Inf.mrow.injEq] at k2
          obtain ⟨e1, e2, e3⟩ := k2
          subst e1 e2 e3
          simp [Sx.loadX, hf, k1, hb]
        · have := wrote_one.1 hy
          cases y <;> simp [Ev.writes] at this
    · cases hh
theorem Local.storeX [Asm] (P : Program) (t : TypeId) (a v : Value) : Local (storeX P t a v) := by
  unfold Sx.storeX
  split
  · exact Local.bind (Local.appX _ _) fun _ => Local.pure _
  · exact Local.storeA _ _ _ _
theorem Local.builtinA [Asm] (P : Program) (b : Builtin) (ats : Array TypeId) (args : List Value) : Local (builtinA P b ats args) := by
  unfold Sx.builtinA
  split
  · exact Local.ite (Local.ite (Local.bad _) (Local.appX _ _)) (Local.appendA _ _ _)
  · split
    · split
      · exact Local.ite (Local.opt _ _) (Local.lenBuiltin _ _ _)
      · exact Local.bad _
    · exact Local.bad _
  · split
    · split
      · exact Local.bind (Local.deleteA _ _ _ _) fun _ => Local.pure _
      · exact Local.bad _
    · exact Local.bad _
  · exact Local.ite (Local.appX _ _) (Local.copyA _ _ _)
  · split
    · exact Local.opt _ _
    · exact Local.bad _
  · split
    · exact Local.opt _ _
    · exact Local.bad _
  · exact Local.bad _
structure RecLocal (r : Rec) : Prop where
  exec : ∀ c f, Local (r.exec c f)
  call : ∀ g args, Local (r.call g args)
theorem Local.yieldA {r : Rec} (hr : RecLocal r) (l : Nat) (args : List Value) : Local (yieldA r l args) := by
  unfold Sx.yieldA
  refine Local.bind (Local.lpGet _) fun _ => Local.bind (Local.guard _ _) fun _ => Local.bind (hr.exec _ _) fun x => ?_
  obtain ⟨e, f1⟩ := x
  simp only
  split
  · refine Local.bind (Local.lpGet _) fun _ => ?_
    split
    · refine Local.bind (Local.lpSet _ _ _) fun _ => Local.bind (hr.exec _ _) fun z => ?_
      obtain ⟨e2, f2⟩ := z
      simp only
      split
      · exact Local.bind (Local.lpSet _ _ _) fun _ => Local.pure _
      · exact Local.bind (Local.lpSet _ _ _) fun _ => Local.pure _
      · exact Local.bad _
    · exact Local.bad _
  · exact Local.bad _
theorem Local.callV {r : Rec} (hr : RecLocal r) (v : Value) (args : List Value) : Local (callV r v args) := by
  unfold Sx.callV
  split
  · exact hr.call _ _
  · exact Local.ite (Local.yieldA hr _ _) (Local.bad _)
  · exact Local.bad _
theorem Local.callF {r : Rec} (hr : RecLocal r) (v : Value) (args : List Value) : Local (callF r v args) := by
  unfold Sx.callF
  split
  · exact hr.call _ _
  · exact Local.bad _
theorem Local.enterA (f : Fr) : Local (enterA f) := by
  unfold Sx.enterA
  split
  · exact Local.bind (Local.newA _) fun _ => Local.pure _
  · exact Local.bind (Local.lpGet _) fun _ => Local.pure _
theorem Local.rangeA {r : Rec} (hr : RecLocal r) (g : Value) (ps : List Tmp) (a b : Code) (f : Fr) : Local (rangeA r g ps a b f) := by
  unfold Sx.rangeA
  refine Local.bind (Local.enterA f) fun x => ?_
  obtain ⟨d, mark⟩ := x
  refine Local.bind (Local.newA _) fun _ => Local.bind (Local.callF hr _ _) fun _ => Local.bind (Local.lpGet _) fun _ => ?_
  split
  · exact Local.bad _
  · refine Local.bind (Local.lpSet _ _ _) fun _ => ?_
    split
    · exact Local.pure _
    · exact hr.exec _ _
theorem Local.opA [Asm] {P : Program} {r : Rec} (hr : RecLocal r) (f : Fr) (o : Oper) : Local (opA P r f o) := by
  unfold Sx.opA
  generalize o.op = op
  cases op <;> (try dsimp only [oPick, oAlloc, oBox, oBuild, oBuildSlice, oLoad, oStore, oNilCheck, oBinOp, oUnOp, oConvert, oMakeFunc, oSliceToArrayPointer, oMakeSlice, oSlice, oFieldAddr, oField, oIndexAddr, oIndex, oLookup, oMapUpdate, oInsert, oExtract, oCall])
  case move x => exact Local.eval f x
  case assign x => exact Local.eval f x
  case pick c a b =>
    refine Local.bind (Local.eval f _) fun v => Local.bind (Local.eval f _) fun x => Local.bind (Local.eval f _) fun y => ?_
    cases truth v <;> first | exact Local.bad _ | exact Local.pure _
  case alloc => exact Local.bind (Local.opt _ _) fun _ => Local.bind (Local.guard _ _) fun _ => Local.newRowA _ _
  case box => exact Local.bind (Local.eval f _) fun _ => Local.newRowA _ _
  case build => exact Local.bind (Local.pairsL f _) fun _ => Local.opt _ _
  case buildSlice => exact Local.bind (Local.pairsL f _) fun _ => Local.buildSliceA _ _ _ _
  case load =>
    refine Local.bind (Local.eval f _) fun v => ?_
    split
    · exact Local.loadX _ _
    · exact Local.loadA _ _ _
  case store => exact Local.bind (Local.eval f _) fun _ => Local.bind (Local.eval f _) fun _ => Local.bind (Local.storeX _ _ _ _) fun _ => Local.pure _
  case nilCheck =>
    refine Local.bind (Local.eval f _) fun v => ?_
    split
    · exact Local.pure _
    · exact Local.pure _
    · exact Local.bad _
  case binOp => exact Local.bind (Local.eval f _) fun _ => Local.bind (Local.eval f _) fun _ => Local.binA _ _ _ _ _
  case unOp => exact Local.bind (Local.eval f _) fun _ => Local.ite (Local.opt _ _) (Local.opt _ _)
  case convert => exact Local.bind (Local.eval f _) fun _ => Local.ite (Local.opt _ _) (Local.opt _ _)
  case makeFunc g a b =>
    refine Local.bind (Local.evalL f _) fun _ => Local.bind (Local.evalL f _) fun _ => ?_
    cases g <;> first | exact Local.pure _ | exact Local.bad _
  case makeMap t x =>
    cases x
    · exact Local.bind (Local.newA _) fun _ => Local.pure _
    · exact Local.bad _
  case makeSlice => exact Local.bind (Local.eval f _) fun _ => Local.bind (Local.eval f _) fun _ => Local.ite (Local.appX _ _) (Local.makeSliceA _ _ _ _)
  case sliceToArrayPointer => exact Local.bind (Local.eval f _) fun _ => Local.ite (Local.appX _ _) (Local.opt _ _)
  case slice => exact Local.bind (Local.eval f _) fun _ => Local.bind (Local.evalO f _) fun _ => Local.bind (Local.evalO f _) fun _ => Local.bind (Local.evalO f _) fun _ => Local.opt _ _
  case fieldAddr => exact Local.bind (Local.eval f _) fun _ => Local.opt _ _
  case field => exact Local.bind (Local.eval f _) fun _ => Local.opt _ _
  case indexAddr => exact Local.bind (Local.eval f _) fun _ => Local.bind (Local.eval f _) fun _ => Local.opt _ _
  case index => exact Local.bind (Local.eval f _) fun _ => Local.bind (Local.eval f _) fun _ => Local.opt _ _
  case lookup => exact Local.bind (Local.eval f _) fun _ => Local.bind (Local.eval f _) fun _ => Local.lookupA _ _ _ _ _
  case mapUpdate => exact Local.bind (Local.eval f _) fun _ => Local.bind (Local.eval f _) fun _ => Local.bind (Local.eval f _) fun _ => Local.bind (Local.mapUpdateA _ _ _ _ _) fun _ => Local.pure _
  case insert => exact Local.bind (Local.eval f _) fun _ => Local.bind (Local.eval f _) fun _ => Local.bind (Local.eval f _) fun _ => Local.bind (Local.mapUpdateA _ _ _ _ _) fun _ => Local.pure _
  case extract =>
    refine Local.bind (Local.eval f _) fun v => ?_
    cases v <;> first | exact Local.bad _ | exact Local.opt _ _
  case call c =>
    generalize c.callee = ce
    cases ce <;> (try dsimp only)
    · refine Local.bind (Local.eval f _) fun v => Local.bind (Local.evalL f _) fun args => ?_
      exact Local.callV hr _ _
    · exact Local.bad _
    · exact Local.bind (Local.evalL f _) fun _ => Local.builtinA _ _ _ _
  all_goals exact Local.bad _
theorem Local.stepV [Asm] {P : Program} {r : Rec} (hr : RecLocal r) (ops : Array Oper) (o : Oper) (f : Fr) : Local (stepV P r ops o f) := by
  unfold Sx.stepV
  split
  · exact Local.ite (Local.opA hr f o) (Local.pure _)
  · exact Local.bad _
theorem Local.stepA [Asm] {P : Program} {r : Rec} (hr : RecLocal r) (ops : Array Oper) (o : Oper) (f : Fr) : Local (stepA P r ops o f) := Local.bind (Local.stepV hr ops o f) fun _ => Local.pure _
theorem Local.regionL [Asm] {P : Program} {r : Rec} (hr : RecLocal r) (ops : Array Oper) : ∀ (l : List Oper) (f : Fr), Local (regionL P r ops l f)
  | [], f => Local.pure f
  | o :: l, f => Local.bind (Local.stepA hr ops o f) fun f' => Local.regionL hr ops l f'
theorem Local.regionD [Asm] {P : Program} {r : Rec} (hr : RecLocal r) (ops : Array Oper) : ∀ (l : List Oper) (st : List (List Nat)) (logs : List Lg) (f : Fr), Local (regionD P r ops l st logs f)
  | [], _, _, f => Local.pure f
  | o :: l, _st, _logs, f => Local.bindL (Local.stepV hr ops o f) fun _v _l' => Local.ite (Local.bad _) (Local.regionD hr ops l _ _ _)
theorem Local.regionA [Asm] {P : Program} {r : Rec} (hr : RecLocal r) (ops : Array Oper) (d : Bool) (f : Fr) : Local (regionA P r ops d f) := by
  unfold Sx.regionA
  refine Local.ite ?_ (Local.regionL hr ops _ f)
  split
  · exact Local.bad _
  · exact Local.regionD hr ops _ _ _ _
theorem Local.resA (P : Program) (f : Fr) : ∀ (rs : List ResultVar), Local (resA P f rs)
  | [] => Local.pure _
  | .tmp _ :: rs => Local.bind (Local.opt _ _) fun _ => Local.bind (Local.resA P f rs) fun _ => Local.pure _
  | .cell _ _ :: rs => Local.bind (Local.opt _ _) fun _ => Local.bind (Local.loadA _ _ _) fun _ => Local.bind (Local.resA P f rs) fun _ => Local.pure _
theorem Local.resultsA (P : Program) (fn : Func) (f : Fr) : Local (resultsA P fn f) := by
  refine Local.bind (Local.resA P f _) fun vs => ?_
  split <;> exact Local.pure _
theorem Local.execS [Asm] {P : Program} {r : Rec} (hr : RecLocal r) (c : Code) (f : Fr) : Local (execS P r c f) := by
  cases c <;> simp only [Sx.execS]
  case skip => exact Local.pure _
  case label => exact Local.pure _
  case region => exact Local.bind (Local.regionA hr _ _ _) fun _ => Local.pure _
  case seq a b =>
    refine Local.bind (hr.exec _ _) fun x => ?_
    split
    · exact hr.exec _ _
    · exact Local.pure _
  case cond =>
    refine Local.bind (Local.eval f _) fun v => ?_
    split
    · exact Local.ite (hr.exec _ _) (hr.exec _ _)
    · exact Local.bad _
  case block =>
    refine Local.bind (hr.exec _ _) fun x => ?_
    split <;> exact Local.pure _
  case loop =>
    refine Local.bind (hr.exec _ _) fun x => ?_
    split
    · exact hr.exec _ _
    · exact Local.pure _
  case exit => exact Local.pure _
  case ret => exact Local.pure _
  case scope =>
    refine Local.bind (hr.exec _ _) fun x => ?_
    split
    · exact Local.bad _
    · exact Local.pure _
  case rangeFunc => exact Local.bind (Local.eval f _) fun _ => Local.rangeA hr _ _ _ _ _
  all_goals exact Local.bad _
theorem Local.callS [Asm] {P : Program} {tbl : Tbl} {r : Rec} (hr : RecLocal r) (ht : ∀ g m args, tbl g = some m → Local (m args)) (g : FuncId) (args : List Value) : Local (callS P tbl r g args) := by
  unfold Sx.callS
  split
  · rename_i m hm; exact ht g m args hm
  · split
    · exact Local.bad _
    · refine Local.ite (Local.bad _) ?_
      split
      · exact Local.bad _
      · refine Local.bind (hr.exec _ _) fun x => ?_
        split
        · exact Local.bind (Local.takeL _) fun _ => Local.resultsA _ _ _
        · exact Local.bind (Local.takeL _) fun _ => Local.resultsA _ _ _
        · exact Local.bad _
theorem recLocal [Asm] (P : Program) (tbl : Tbl) (ht : ∀ g m args, tbl g = some m → Local (m args)) : ∀ n, RecLocal (rec P tbl n)
  | 0 => ⟨fun _ _ => Local.bad _, fun _ _ => Local.bad _⟩
  | n + 1 => ⟨fun c f => Local.execS (recLocal P tbl ht n) c f, fun g args => Local.callS (recLocal P tbl ht n) ht g args⟩
end Go.Sx

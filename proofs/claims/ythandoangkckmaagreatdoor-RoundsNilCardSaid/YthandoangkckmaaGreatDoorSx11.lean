import Derived.Test.YthandoangkckmaaGreatDoorSx10
import Derived.OrdersIn
import Derived.RangeFuncLeaves
import Derived.RangeFuncRecord
import Derived.Maps.RangeRun
import Derived.Lib.ConvBytes
import Derived.Laws.BytesString
namespace Go.Sx
section
variable {P : Program} {w0 : World} {F : Nat → Prop} {E : Env} {H : Heap} {w : World} {R : Option Nat}

/-! ## Frames -/
inductive DsR [Den] (E : Env) : List Df → List Deferred → Prop
  | nil : DsR E [] []
  | cons {i : Nat} {e : EI} {is : List Df} {ds : List Deferred} (h : E i = some e) (t : DsR E is ds) : DsR E (.mark i :: is) ({ target := .collected e.blk, args := #[] } :: ds)
  | call {g : FuncId} {args cap : List Value} {args' cap' : Array Value} {is : List Df} {ds : List Deferred} (ha : LR E args args'.toList) (hc : LR E cap cap'.toList) (t : DsR E is ds) : DsR E (.call g args cap :: is) ({ target := .fn (.func g) cap', args := args' } :: ds)
theorem DsR.mono [Den] {E' : Env} (hle : E.le E') {is : List Df} {ds : List Deferred} (h : DsR E is ds) : DsR E' is ds := by
  induction h with
  | nil => exact .nil
  | cons h _ ih => exact .cons (hle _ _ h) ih
  | call ha hc _ ih => exact .call (ha.mono hle) (hc.mono hle) ih
inductive RoR (E : Env) : Option Nat → Option Nat → Prop
  | none : RoR E none none
  | some {l : Nat} {e : EI} (h : E l = some e) : RoR E (some l) (some e.blk)
theorem RoR.mono {E' : Env} (hle : E.le E') {x y : Option Nat} (h : RoR E x y) : RoR E' x y := by
  cases h with
  | none => exact .none
  | some h => exact .some (hle _ _ h)
structure FR [Den] (E : Env) (R : Option Nat) (f : Fr) (a : Act) : Prop where
  defers : DsR E f.ds a.defers
  ro : RoR E f.ro R
  tr : TR E f a.tmps
theorem FR.size [Den] {f : Fr} {a : Act} (h : FR E R f a) : a.tmps.size = f.n := h.tr.size
theorem VR.undef [Den] (E : Env) : VR E undef undef := .tup_of (LR.nil E)
theorem FR.get [Den] {f : Fr} {a : Act} (h : FR E R f a) {k : Nat} {v : Value} (hk : f.get k = some v) : VR E v (a.tmps.getD k Go.undef) := (h.tr.val k v hk).2
theorem FR.mono [Den] {E' : Env} {f : Fr} {a : Act} (h : FR E R f a) (hle : E.le E') : FR E' R f a := ⟨h.defers.mono hle, h.ro.mono hle, h.tr.mono hle⟩
theorem TR.put [Den] {f : Fr} {tmps : Array Value} {v v' : Value} (h : TR E f tmps) (hv : VR E v v') (d : Tmp) : TR E (f.put (some d) v) (tmps.setIfInBounds d v') := by
  obtain ⟨t, n, ro, ds⟩ := f
  obtain ⟨h1, h2⟩ := h
  simp only at h1 h2
  unfold Fr.put
  simp only
  cases hb : Nat.blt d n with
  | false =>
    simp only [cond_false]
    have hd : ¬ d < tmps.size := fun hlt => by rw [h1] at hlt; rw [blt_iff.2 hlt] at hb; cases hb
    have : tmps.setIfInBounds d v' = tmps := by simp [Array.setIfInBounds, hd]
    rw [this]; exact ⟨h1, h2⟩
  | true =>
    simp only [cond_true]
    have hd := blt_iff.1 hb
    refine ⟨by simpa using h1, fun k u hk => ?_⟩
    simp only [Tr.get_set] at hk
    by_cases hkd : k = d
    · subst hkd
      rw [if_pos rfl] at hk
      cases hk
      refine ⟨hd, ?_⟩
      have e2 : (tmps.setIfInBounds k v').getD k Go.undef = v' := by
        rw [Array.getD_eq_getD_getElem?]; simp [h1, hd]
      rw [e2]; exact hv
    · rw [if_neg hkd] at hk
      have e2 : (tmps.setIfInBounds d v').getD k Go.undef = tmps.getD k Go.undef := by
        rw [Array.getD_eq_getD_getElem?, Array.getD_eq_getD_getElem?, Array.getElem?_setIfInBounds_ne (Ne.symm hkd)]
      rw [e2]; exact h2 k u hk
theorem put_ro (f : Fr) (dst : Option Tmp) (v : Value) : (f.put dst v).ro = f.ro ∧ (f.put dst v).ds = f.ds := by
  obtain ⟨t, n, ro, ds⟩ := f
  cases dst with
  | none => exact ⟨rfl, rfl⟩
  | some d =>
    unfold Fr.put
    simp only
    cases Nat.blt d n <;> exact ⟨rfl, rfl⟩
theorem FR.put [Den] {f : Fr} {a : Act} {v v' : Value} (h : FR E R f a) (hv : VR E v v') (dst : Option Tmp) : FR E R (f.put dst v) (a.put dst v') := by
  obtain ⟨p1, p2⟩ := put_ro f dst v
  cases dst with
  | none => exact h
  | some d => exact ⟨by rw [p2]; exact h.defers, by rw [p1]; exact h.ro, h.tr.put hv d⟩
theorem FR.puts [Den] : ∀ {ps : List Tmp} {args args' : List Value} {f : Fr} {tmps : Array Value} {ds : List Deferred}, FR E R f { tmps := tmps, defers := ds } → LR E args args' →
    FR E R (f.puts ps args) { tmps := (ps.zip args').foldl (fun t (p : Tmp × Value) => t.setIfInBounds p.1 p.2) tmps, defers := ds }
  | [], args, args', f, tmps, ds, h, _ => by simpa [Fr.puts] using h
  | p :: ps, [], args', f, tmps, ds, h, hl => by rw [hl.nil_inv]; simpa [Fr.puts] using h
  | p :: ps, v :: vs, args', f, tmps, ds, h, hl => by
    obtain ⟨v', vs', rfl, hv, hl'⟩ := hl.cons_inv
    simp only [Fr.puts, List.zip_cons_cons, List.foldl_cons]
    exact FR.puts (h.put hv (some p)) hl'

theorem eval_sound [Den] {f : Fr} {a : Act} (hf : FR E R f a) {x : Operand} {v : Value} {c : Nat} {h : Heap} {c' : Nat} {h' : Heap} {L : Lg} (hh : f.eval x c h = .ok v c' h' L) : VR E v (a.eval x) := by
  cases x with
  | tmp t => obtain ⟨hv, _⟩ := opt_ok.1 hh; exact hf.get hv
  | const u =>
    simp only [Fr.eval] at hh
    cases hc : cleanB u <;> rw [hc] at hh <;> simp only [cond_true, cond_false] at hh
    · exact (bad_ok.1 hh).elim
    · obtain ⟨rfl, _⟩ := pure_ok.1 hh; exact VR.clean hc
  | global g => simp only [Fr.eval] at hh; exact (bad_ok.1 hh).elim
  | func g =>
    obtain ⟨rfl, _⟩ := pure_ok.1 hh
    exact VR.cleanS rfl
theorem evalL_sound [Den] {f : Fr} {a : Act} (hf : FR E R f a) : ∀ {xs : List Operand} {vs : List Value} {c : Nat} {h : Heap} {c' : Nat} {h' : Heap} {L : Lg}, evalL f xs c h = .ok vs c' h' L → c' = c ∧ h' = h ∧ LR E vs (xs.map a.eval)
  | [], vs, c, h, c', h', L, hh => by
    obtain ⟨rfl, rfl, rfl, _⟩ := pure_ok.1 hh
    exact ⟨rfl, rfl, LR.nil E⟩
  | x :: xs, vs, c, h, c', h', L, hh => by
    replace hh := beval hh
    obtain ⟨v, _, hv, hh⟩ := hh
    replace hh := bind_ok.1 hh
    obtain ⟨us, c1, h1, _, _, hu, hh, _⟩ := hh
    obtain ⟨q1, q2, q3⟩ := evalL_sound hf hu
    obtain ⟨q4, q5, q6, _⟩ := pure_ok.1 hh
    subst q4 q5 q6 q1 q2
    exact ⟨rfl, rfl, LR.cons (eval_sound hf hv) q3⟩
theorem pairsL_sound [Den] {f : Fr} {a : Act} (hf : FR E R f a) : ∀ {xs : List (Nat × Operand)} {vs : List (Nat × Value)} {c : Nat} {h : Heap} {c' : Nat} {h' : Heap} {L : Lg}, pairsL f xs c h = .ok vs c' h' L →
    c' = c ∧ h' = h ∧ vs.map (·.1) = (xs.map fun (p : Nat × Operand) => (p.1, a.eval p.2)).map (·.1) ∧ LR E (vs.map (·.2)) ((xs.map fun (p : Nat × Operand) => (p.1, a.eval p.2)).map (·.2))
  | [], vs, c, h, c', h', L, hh => by
    obtain ⟨rfl, rfl, rfl, _⟩ := pure_ok.1 hh
    exact ⟨rfl, rfl, rfl, LR.nil E⟩
  | (i, x) :: xs, vs, c, h, c', h', L, hh => by
    replace hh := beval hh
    obtain ⟨v, _, hv, hh⟩ := hh
    replace hh := bind_ok.1 hh
    obtain ⟨us, c1, h1, _, _, hu, hh, _⟩ := hh
    obtain ⟨q1, q2, q3, q7⟩ := pairsL_sound hf hu
    obtain ⟨q4, q5, q6, _⟩ := pure_ok.1 hh
    subst q4 q5 q6 q1 q2
    exact ⟨rfl, rfl, by simpa using q3, LR.cons (eval_sound hf hv) q7⟩
theorem evalO_sound [Den] {f : Fr} {a : Act} (hf : FR E R f a) {x : Option Operand} {v : Option Value} {c : Nat} {h : Heap} {c' : Nat} {h' : Heap} {L : Lg} (hh : evalO f x c h = .ok v c' h' L) : c' = c ∧ h' = h ∧ OR E v (x.map a.eval) := by
  cases x with
  | none => obtain ⟨rfl, rfl, rfl, _⟩ := pure_ok.1 hh; exact ⟨rfl, rfl, .none⟩
  | some x =>
    simp only [evalO] at hh
    replace hh := beval hh
    obtain ⟨u, _, hu, hh⟩ := hh
    obtain ⟨rfl, rfl, rfl, _⟩ := pure_ok.1 hh
    exact ⟨rfl, rfl, .some (eval_sound hf hu)⟩

/-! ## Calls -/
def Wd (Fe : Fence) : Prop := (∀ f, Fe.fn f) ∧ Fe.depth = none
def Callable (P : Program) (g : FuncId) : Prop := ∃ fn c, P.funcs[g]? = some fn ∧ (fn.name == "runtime.NumGoroutine") = false ∧ fn.body = some c
def CallSnd [Den] (P : Program) (w0 : World) (F : Nat → Prop) (r : Rec) : Prop := ∀ g args c H v c' H' L, r.call g args c H = .ok v c' H' L → Callable P g ∧
  ∀ E w args', HR P w0 F E H w → LR E args args' → ∀ Fe n, Wd Fe → CallsIn Fe n P g args'.toArray w (fun e w' => ∃ v' E', e = .returned v' ∧ E.le E' ∧ HR P w0 F E' H' w' ∧ VR E' v v')

/-- A loop, from the head of its body on. -/
def loopWp (Fe : Fence) (n : Nat) (P : Program) (c : Code) (Q : Exit → Act → World → Prop) (a : Act) (w : World) : Prop :=
  ∀ (b : Frame) (k : List Item) (cs : List Frame), b.roundOf = Fe.round → Fe.fn b.fn → Fe.room (cs.length + 1 + n) →
    ∃ e a' w', Q e a' w' ∧ ArrivesIn (Machine.fenced P Fe) P (lone (b.atR a (.code c :: .inLoop c :: k)) cs w) b k cs e a' w'
def ExecSnd [Den] (P : Program) (w0 : World) (F : Nat → Prop) (r : Rec) : Prop := ∀ (code : Code) (Fe : Fence) (n : Nat) (Q : Exit → Act → World → Prop) (E : Env) (H : Heap) (w : World) (f f' : Fr) (x : Exit) (a : Act) (c c' : Nat) (H' : Heap) (L : Lg),
  Wd Fe → r.exec code f c H = .ok (x, f') c' H' L → FR E Fe.round f a → HR P w0 F E H w →
  (∀ E' a' w', E.le E' → HR P w0 F E' H' w' → FR E' Fe.round f' a' → Q x a' w') → code.wpIn Fe n P Q a w ∧ ∀ b, code = .loop b → loopWp Fe n P b Q a w

theorem wp_val {Fe : Fence} {n : Nat} {o : Oper} {a : Act} {next : Act → World → Prop} {Q : Exit → Act → World → Prop} {v' : Value} {w' : World} (hW : Wd Fe) (hd : ∀ c, o.op ≠ .defer c)
    (h : (execOp a.eval o).run P w = .ok (.value v') w') (hk : next (a.put o.dst v') w') : o.wpIn Fe n P a w next Q := by
  refine ⟨fun f _ => hW.1 f, ?_⟩
  rw [Oper.semAt_eq _ _ _ hd, h]; exact hk
theorem wp_skip' {Fe : Fence} {n : Nat} {o : Oper} {a : Act} {next : Act → World → Prop} {Q : Exit → Act → World → Prop} {w' : World} (hW : Wd Fe) (hd : ∀ c, o.op ≠ .defer c)
    (h : (execOp a.eval o).run P w = .ok .skip w') (hk : next (a.put o.dst undef) w') : o.wpIn Fe n P a w next Q := by
  refine ⟨fun f _ => hW.1 f, ?_⟩
  rw [Oper.semAt_eq _ _ _ hd, h]; exact hk

theorem map_pairs (ps : Array (Nat × Operand)) (ρ : Operand → Value) : (ps.map fun (p : Nat × Operand) => (p.1, ρ p.2)).toList = ps.toList.map fun (p : Nat × Operand) => (p.1, ρ p.2) := by simp

/-! ## Loops over functions -/
theorem lpGet_inv {i c c' : Nat} {x : LpA} {H' : Heap} {L : Lg} (h : lpGet i c H = .ok x c' H' L) : c' = c ∧ H' = H ∧ H.get i = some (.loop x.st x.pend x.f x.ps x.assign x.body x.dfr) := by
  unfold lpGet at h
  split at h
  · rename_i hi; cases h; exact ⟨rfl, rfl, hi⟩
  · cases h
theorem lpSet_sound [Den] {i c c' : Nat} {st : LoopState} {pe : Option Code} {u : Unit} {H' : Heap} {L : Lg} (h : lpSet i st pe c H = .ok u c' H' L) (hr : HR P w0 F E H w) {e : EI} (he : E i = some e) :
    ∃ l, w.heap[e.blk]? = some (.loop l) ∧ HR P w0 F E H' (w.putObj e.blk (.loop { l with state := st, pending := pe })) := by
  unfold lpSet at h
  split at h
  · rename_i s0 p0 f ps a b d hi
    cases h
    obtain ⟨e', l, h1, h2, h3, h4, h5, h6, h7, h8, h9⟩ := hr.obj i _ hi
    rw [he] at h1; cases h1
    have hlt : e.blk < w.heap.size := hr.blk_lt hi rfl he
    refine ⟨l, h2, hr.turn hi rfl rfl he rfl rfl rfl World.putObj_size (fun b hb => World.putObj_heap_other hb) ⟨e, _, he, World.putObj_heap_same hlt, rfl, rfl, h5, h6, h7, h8, h9⟩⟩
  · cases h

theorem jump_inv {e : Exit} {j : Option Code} (h : jumpOf e = some j) : (e = .normal ∧ j = none) ∨ (e = .ret ∧ j = some .ret) ∨ (∃ id, e = .exit id ∧ j = some (.exit id)) ∨ (∃ l, e = .goto l ∧ j = some (.goto l)) := by
  cases e <;> simp only [jumpOf, Option.some.injEq, reduceCtorEq] at h <;> subst h
  · exact .inl ⟨rfl, rfl⟩
  · exact .inr (.inr (.inl ⟨_, rfl, rfl⟩))
  · exact .inr (.inr (.inr ⟨_, rfl, rfl⟩))
  · exact .inr (.inl ⟨rfl, rfl⟩)

theorem yield_sound [Den] {Fe : Fence} {n : Nat} {r : Rec} (hW : Wd Fe) (he : ExecSnd P w0 F r) {l : Nat} {e : EI} {args args' : List Value} {v : Value} {c c' : Nat} {H' : Heap} {L : Lg} (h : yieldA r l args c H = .ok v c' H' L)
    (hr : HR P w0 F E H w) (hE : E l = some e) (hargs : LR E args args') :
    ∃ lr : Loop, w.heap[e.blk]? = some (.loop lr) ∧ args'.toArray.size = lr.params.size ∧
      ∀ Rr : Ending → World → Prop, (∀ E' v' w', E.le E' → HR P w0 F E' H' w' → VR E' v v' → Rr (.returned v') w') →
        RoundIn Fe n P e.blk lr.fn ((lr.params.zip args'.toArray).foldl (fun tmps (t, a) => tmps.setIfInBounds t a) lr.tmps) lr.assign lr.body w Rr := by
  unfold yieldA at h
  replace h := bind_ok.1 h
  obtain ⟨x, c1, h1, _, _, hx, h, _⟩ := h
  obtain ⟨q1, q2, hi⟩ := lpGet_inv hx
  subst q1 q2
  replace h := bguard h
  obtain ⟨_, hg, h⟩ := h
  have hsz := Nat.eq_of_beq_eq_true hg
  obtain ⟨e', lr, k1, k2, k3, k4, k5, k6, k7, k8, ed, k9, k10⟩ := hr.obj l _ hi
  rw [hE] at k1; cases k1
  refine ⟨lr, k2, ?_, fun Rr hk => ?_⟩
  · have := hargs.len
    simp only [List.size_toArray]
    rw [← this, hsz, ← k5, Array.length_toList]
  replace h := bind_ok.1 h
  obtain ⟨⟨ex, f1⟩, c2, h2, _, _, hasg, h, _⟩ := h
  have hW2 : Wd (Fe.inRound e.blk) := hW
  refine roundIn_of_wpIn (hW.1 _) ?_
  have hf0 : FR E (Fe.inRound e.blk).round ⟨x.f.t, x.f.n, some l, []⟩ { tmps := lr.tmps, defers := [] } :=
    ⟨.nil, .some hE, ⟨k8.size, k8.val⟩⟩
  have hf1 := FR.puts (ps := x.ps) hf0 hargs
  have hfold : (x.ps.zip args').foldl (fun t (p : Tmp × Value) => t.setIfInBounds p.1 p.2) lr.tmps = (lr.params.zip args'.toArray).foldl (fun tmps (t, a) => tmps.setIfInBounds t a) lr.tmps := by
    rw [← Array.foldl_toList, Array.toList_zip, k5]
  rw [hfold] at hf1
  rw [k6, k7]
  refine (he x.assign (Fe.inRound e.blk) n _ E _ w _ f1 ex _ _ _ _ _ hW2 hasg hf1 hr fun E1 a1 w1 hle hr1 hff1 => ?_).1
  cases ex <;> simp only at h <;> first | (exact (bad_ok.1 h).elim) | skip
  replace h := bind_ok.1 h
  obtain ⟨y, c3, h3, _, _, hy, h, _⟩ := h
  obtain ⟨q1, q2, hi1⟩ := lpGet_inv hy
  subst q1 q2
  have hE1 := hle _ _ hE
  cases hst : y.st <;> rw [hst] at h <;> simp only at h <;> first | (exact (bad_ok.1 h).elim) | skip
  replace h := bind_ok.1 h
  obtain ⟨u, c4, h4, _, _, hset, h, _⟩ := h
  replace h := bind_ok.1 h
  obtain ⟨⟨e2, f2⟩, c5, h5, _, _, hbody, h, _⟩ := h
  obtain ⟨l1, m1, m2⟩ := lpSet_sound hset hr1 hE1
  have hst1 : l1.state = .ready := by
    obtain ⟨e'', l', g1, g2, g3, _⟩ := hr1.obj l _ hi1
    rw [hE1] at g1; cases g1
    rw [m1] at g2; cases g2
    rw [g3, hst]
  have hpe1 : l1.pending = y.pend := by
    obtain ⟨e'', l', g1, g2, g3, g4, _⟩ := hr1.obj l _ hi1
    rw [hE1] at g1; cases g1
    rw [m1] at g2; cases g2
    rw [g4]
  rw [← hpe1] at m2
  refine ⟨_, run_beginRound m1 hst1, ?_⟩
  refine (he x.body (Fe.inRound e.blk) n _ E1 _ _ _ f2 e2 _ _ _ _ _ hW2 hbody hff1 m2 fun E2 a2 w2 hle2 hr2 hff2 => ?_).1
  have hE2 := hle2 _ _ hE1
  have hle3 := Env.le_trans hle hle2
  simp only at h
  cases hj : jumpOf e2 with
  | none => rw [hj] at h; exact (bad_ok.1 h).elim
  | some j =>
    rw [hj] at h
    have fin : ∀ {st : LoopState} {b : Bool} {c6 : Nat} {H6 : Heap} {L6 : Lg}, M.bind (lpSet l st j) (fun _ => M.pure (.bool b)) c5 h5 = .ok v c6 H6 L6 → H6 = H' → st = (if j.isNone then .ready else .done) → b = j.isNone →
        ∃ v' w', (Instr.endRound e.blk j).run P w2 = .ok v' w' ∧ Rr (.returned v') w' := by
      intro st b c6 H6 L6 h hH hs hb
      replace h := bind_ok.1 h
      obtain ⟨u, c7, h7, _, _, hset2, h, _⟩ := h
      obtain ⟨p1, p2, p3, _⟩ := pure_ok.1 h
      subst p1 p2 p3 hH
      obtain ⟨l2, m3, m4⟩ := lpSet_sound hset2 hr2 hE2
      refine ⟨_, _, run_endRound j m3, ?_⟩
      rw [← hs, ← hb]
      exact hk E2 _ _ hle3 m4 (.bool _)
    rcases jump_inv hj with ⟨rfl, rfl⟩ | ⟨rfl, rfl⟩ | ⟨id, rfl, rfl⟩ | ⟨t, rfl, rfl⟩
    · exact fin h rfl rfl rfl
    · exact fin h rfl rfl rfl
    · exact fin h rfl rfl rfl
    · exact fin h rfl rfl rfl

theorem callV_sound [Den] {Fe : Fence} {n : Nat} {r : Rec} {o : Oper} {a : Act} {next : Act → World → Prop} {Q : Exit → Act → World → Prop} (hW : Wd Fe) (hcs : CallSnd P w0 F r) (he : ExecSnd P w0 F r) {cl : Call} {g : Operand} (ho : o.op = .call cl) (hcl : cl.callee = .value g)
    {fv v : Value} {args : List Value} {c c' : Nat} {H' : Heap} {L : Lg} (h : callV r fv args c H = .ok v c' H' L) (hr : HR P w0 F E H w) (hfv : VR E fv (a.eval g)) (hargs : LR E args (cl.args.toList.map a.eval))
    (hk : ∀ E' v' w', E.le E' → HR P w0 F E' H' w' → VR E' v v' → next (a.put o.dst v') w') : o.wpIn Fe n P a w next Q := by
  unfold callV at h
  split at h
  · rename_i gid first captured
    generalize hga : a.eval g = gv at hfv
    cases hfv with
    | fn hf1 h1 hc1 h2 =>
      rename_i f' c'
      obtain ⟨⟨fn, body, hfn, hname, hbody⟩, hcalls⟩ := hcs _ _ _ _ _ _ _ _ h
      have hrun : (execOp a.eval o).run P w = .ok (.enter gid (f' ++ (cl.args.map a.eval) ++ c')) w := by
        simp only [execOp, ho, resolve, hcl, hga, Deferred.ofValue, Sem.run_bind, Sem.run_pure, Result.andThen_ok, invoke, callFunc, run_program, hfn, hname, hbody]
        simp
      refine ⟨fun f _ => hW.1 f, ?_⟩
      rw [Oper.semAt_eq _ _ _ (fun c e => by rw [ho] at e; cases e), hrun]
      refine ⟨(fun hd => by rw [hW.2] at hd; cases hd), ?_⟩
      have hlr : LR E (first.toList ++ args ++ captured.toList) (f' ++ (cl.args.map a.eval) ++ c').toList := by
        rw [Array.toList_append, Array.toList_append, Array.toList_map]
        exact LR.append (LR.append ⟨hf1, h1⟩ hargs) ⟨hc1, h2⟩
      have hc := hcalls E w _ hr hlr Fe (n - 1) hW
      simp only [Array.toArray_toList] at hc
      refine hc.mono fun e w' ⟨v', E', he, hle, hr', hv'⟩ => ?_
      subst he
      exact hk E' v' w' hle hr' hv'
  · rename_i l first captured
    cases hb : (Nat.beq first.size 0 && Nat.beq captured.size 0) with
    | false => rw [hb] at h; simp only [cond_false] at h; exact (bad_ok.1 h).elim
    | true =>
      rw [hb] at h
      simp only [cond_true] at h
      generalize hga : a.eval g = gv at hfv
      cases hfv with
      | yl hl =>
        rename_i e
        obtain ⟨lr, k1, k2, k3⟩ := yield_sound (n := n - 1) hW he h hr hl hargs
        have hargs' : (cl.args.map a.eval) = (cl.args.toList.map a.eval).toArray := by apply Array.toList_inj.1; simp
        have hrun : (execOp a.eval o).run P w = .ok (.round e.blk lr.fn ((lr.params.zip (cl.args.map a.eval)).foldl (fun tmps (t, a) => tmps.setIfInBounds t a) lr.tmps) lr.assign lr.body) w := by
          simp only [execOp, ho, resolve, hcl, hga, Deferred.ofValue, Sem.run_bind, Sem.run_pure, Result.andThen_ok, invoke]
          rw [show (#[] ++ cl.args.map a.eval : Array Value) = cl.args.map a.eval from by simp]
          rw [run_yield k1 (by rw [hargs']; exact k2)]
        refine ⟨fun f _ => hW.1 f, ?_⟩
        rw [Oper.semAt_eq _ _ _ (fun c e => by rw [ho] at e; cases e), hrun]
        rw [Oper.uponIn_round]
        refine ⟨(fun hd => by rw [hW.2] at hd; cases hd), ?_⟩
        rw [hargs']
        exact k3 _ fun E' v' w' hle hr' hv => hk E' v' w' hle hr' hv
  · exact (bad_ok.1 h).elim

/-! ## Loops over maps -/
theorem range_it_sound [Den] {t kt et : TypeId} (hu : P.underlying t = some (.map kt et)) {x x' v : Value} {c c' : Nat} {H' : Heap} {L : Lg} (h : rangeM x c H = .ok v c' H' L) (hr : HR P w0 F E H w) (hx : VR E x x') :
    ∃ v' w' E', (Instr.range t x').run P w = .ok v' w' ∧ E.le E' ∧ HR P w0 F E' H' w' ∧ VR E' v v' := by
  unfold rangeM at h
  split at h
  · cases hx
    replace h := bind_ok.1 h
    obtain ⟨j, c1, h1, _, _, hn, h, _⟩ := h
    obtain ⟨q1, q2, q3, _⟩ := pure_ok.1 h
    subst q1 q2 q3
    obtain ⟨j1, j2, hj, j3, _⟩ := newA_inv hn
    subst j1 j2 j3
    obtain ⟨k1, k2⟩ := hr.fresh (o := .iter none 0 [] 0) (b := .mapIter none 0 #[] 0) (cap := 0) hj (fun w' hw' => ⟨⟨w.heap.size, 0, 0⟩, by simp [Env.upd], rfl, .inl ⟨rfl, by rw [hw']; simp⟩⟩)
    refine ⟨_, _, _, run_range_nilMap w t kt et hu, k1, k2, ?_⟩
    have hE : Env.upd E j ⟨w.heap.size, 0, 0⟩ j = some ⟨w.heap.size, 0, 0⟩ := by simp [Env.upd]
    exact .ptr hE
  · cases hx with
    | map he =>
      rename_i e
      replace h := bind_ok.1 h
      obtain ⟨mp, c1, h1, _, _, hm, h, _⟩ := h
      obtain ⟨p1, p2, hi⟩ := mapGet_inv hm
      subst p1 p2
      replace h := bind_ok.1 h
      obtain ⟨j, c2, h2, _, _, hn, h, _⟩ := h
      obtain ⟨q1, q2, q3, _⟩ := pure_ok.1 h
      subst q1 q2 q3
      obtain ⟨j1, j2, hj, j3, _⟩ := newA_inv hn
      subst j1 j2 j3
      obtain ⟨e2, ents, clock, m1, m2, m3, m4, m5⟩ := hr.obj _ _ hi
      rw [he] at m1; cases m1
      subst m5
      have hne : E j = none := by
        cases hx : E j with
        | none => rfl
        | some x => exact absurd hj (hr.dom _ _ hx)
      obtain ⟨k1, k2⟩ := hr.fresh (o := .iter (some _) mp.clk [] mp.clk) (b := .mapIter (some e.blk) mp.clk #[] mp.clk) (cap := 0) hj (fun w' hw' => ⟨⟨w.heap.size, 0, 0⟩, by simp [Env.upd], rfl, .inr ⟨_, e, rfl, Env.le_upd hne _ _ he, by rw [hw']; simp⟩⟩)
      refine ⟨_, _, _, run_range_map w t kt et e.blk ents mp.clk hu m2, k1, k2, ?_⟩
      have hE : Env.upd E j ⟨w.heap.size, 0, 0⟩ j = some ⟨w.heap.size, 0, 0⟩ := by simp [Env.upd]
      exact .ptr hE
  · exact (bad_ok.1 h).elim
theorem iterGet_inv {i c c' : Nat} {it : ItA} {H' : Heap} {L : Lg} (h : iterGet i c H = .ok it c' H' L) : c' = c ∧ H' = H ∧ H.get i = some (.iter it.m it.since it.seen it.last) := by
  unfold iterGet at h
  split at h
  · rename_i hi; cases h; exact ⟨rfl, rfl, hi⟩
  · cases h
theorem left_sound [Den] {seen : List Nat} : ∀ {es : List (Value × Value)} {ents : List MapEntry}, PR E es ents →
    PR E ((leftA seen es (ents.map (·.born))).map fun p => (p.1, p.2.1)) (ents.filter fun e => !seen.contains e.born) ∧ (ents.filter fun e => !seen.contains e.born).map (·.born) = (leftA seen es (ents.map (·.born))).map (·.2.2)
  | _, _, .nil => ⟨.nil, rfl⟩
  | _, _, .cons (k := k) (v := v) (e := e) (xs := xs) (ys := ys) hk hv hp => by
    obtain ⟨h1, h2⟩ := left_sound (seen := seen) hp
    have hc : seen.any (Nat.beq e.born) = seen.contains e.born := by
      rw [Bool.eq_iff_iff]
      simp only [List.any_eq_true, List.contains_iff_mem]
      exact ⟨fun ⟨x, hx, hb⟩ => by have := Nat.eq_of_beq_eq_true hb; rw [this]; exact hx, fun hx => ⟨_, hx, Nat.beq_refl _⟩⟩
    simp only [List.map_cons, leftA, hc]
    cases hs : seen.contains e.born with
    | true => simp only [cond_true, List.filter_cons, hs, Bool.not_true, Bool.false_eq_true, if_false]; exact ⟨h1, h2⟩
    | false =>
      simp only [cond_false, List.map_cons, List.filter_cons, hs, Bool.not_false, if_true, h2]
      exact ⟨.cons hk hv h1, trivial⟩
theorem next_it_sound [Den] {r c c' : Nat} {v : Value} {H' : Heap} {L : Lg} {e : EI} {ty : TypeId} (h : nextA r c H = .ok v c' H' L) (hr : HR P w0 F E H w) (he : E r = some e) :
    ∃ v' w', (Instr.next (.pointer (some ⟨e.blk, 0, none⟩)) false ty).run P w = .ok v' w' ∧ HR P w0 F E H' w' ∧ VR E v v' := by
  unfold nextA at h
  replace h := bind_ok.1 h
  obtain ⟨it, c1, h1, _, _, hit, h, _⟩ := h
  obtain ⟨q1, q2, hi⟩ := iterGet_inv hit
  subst q1 q2
  obtain ⟨e2, m1, m2, m3⟩ := hr.obj _ _ hi
  rw [he] at m1; cases m1
  cases hm : it.m with
  | none =>
    rw [hm] at h
    obtain ⟨q1, q2, q3, _⟩ := pure_ok.1 h
    subst q1 q2 q3
    rcases m3 with ⟨_, m3⟩ | ⟨k, x, m3, _⟩
    · refine ⟨.tuple #[.bool false], w, ?_, hr, .tup_of (LR.cons (.bool _) (LR.nil E))⟩
      simp only [Instr.next, getObj, Sem.run_bind, Sem.run, m3, Result.andThen]
      rfl
    · rw [hm] at m3; cases m3
  | some m =>
    rw [hm] at h
    simp only at h
    rcases m3 with ⟨m3, _⟩ | ⟨k, x, m3, m4, m5⟩
    · rw [hm] at m3; cases m3
    · rw [hm] at m3; cases m3
      replace h := bind_ok.1 h
      obtain ⟨mp, c2, h2, _, _, hmp, h, _⟩ := h
      obtain ⟨q1, q2, hk⟩ := mapGet_inv hmp
      subst q1 q2
      replace h := bguard h
      obtain ⟨_, hg, h⟩ := h
      simp only [Bool.and_eq_true, List.all_eq_true] at hg
      obtain ⟨hg1, hg2⟩ := hg
      obtain ⟨e3, ents, clock, n1, n2, n3, n4, n5⟩ := hr.obj _ _ hk
      rw [m4] at n1; cases n1
      subst n5
      have hold : ∀ y ∈ ents.toList, y.born < it.since := fun y hy => blt_iff.1 (hg2 y.born (by rw [← n4]; exact List.mem_map.2 ⟨y, hy, rfl⟩))
      have hsc : it.since ≤ it.last := Nat.le_of_ble_eq_true hg1
      obtain ⟨l1, l2⟩ := left_sound (seen := it.seen) n3
      rw [n4] at l1 l2
      have hleft : (leftOf ents it.seen.toArray).toList = ents.toList.filter fun e => !it.seen.contains e.born := by
        unfold leftOf
        rw [Array.toList_filter]
        congr 1
        funext y
        simp
      rcases run_next_at (P := P) w ty e.blk x.blk it.since it.last it.seen.toArray ents mp.clk m5 n2 hold hsc with ⟨r1, r2⟩ | ⟨y, r1, w1, r2, r3⟩
      · have hnil : leftA it.seen mp.es mp.bs = [] := by
          have hz : (leftOf ents it.seen.toArray).toList = [] := by
            apply List.eq_nil_of_length_eq_zero
            simpa using r1
          rw [hleft] at hz
          rw [hz] at l1
          cases hl : leftA it.seen mp.es mp.bs with
          | nil => rfl
          | cons p ps => rw [hl] at l1; cases l1
        rw [hnil] at h
        obtain ⟨q1, q2, q3, _⟩ := pure_ok.1 h
        subst q1 q2 q3
        exact ⟨_, w, r2, hr, .tup_of (LR.cons (.bool _) (LR.nil E))⟩
      · rw [hleft] at r1
        cases hl : leftA it.seen mp.es mp.bs with
        | nil =>
          have hz := l1.length
          rw [hl] at hz
          have := List.length_pos_of_mem r1
          simp only [List.map_nil, List.length_nil] at hz
          omega
        | cons p ps =>
          obtain ⟨k0, v0, b0⟩ := p
          cases ps with
          | cons p2 ps => rw [hl] at h; exact (bad_ok.1 h).elim
          | nil =>
            rw [hl] at h l1 l2
            simp only at h
            simp only [List.map_cons, List.map_nil] at l1 l2
            generalize hfl : (ents.toList.filter fun e => !it.seen.contains e.born) = fl at l1 l2 r1
            cases l1 with
            | cons hkk hvv hnn =>
              cases hnn
              rename_i e4
              obtain rfl : y = e4 := by simpa using r1
              replace h := bind_ok.1 h
              obtain ⟨u, c3, h3, _, _, hst, h, _⟩ := h
              obtain ⟨q1, q2, q3, _⟩ := pure_ok.1 h
              subst q1 q2 q3
              unfold iterSet at hst
              rw [hi] at hst
              cases hst
              simp only [List.map_cons, List.map_nil, List.cons.injEq, and_true] at l2
              have hr1 : HR P w0 F E h2 w1 := by
                rcases r2 with rfl | rfl
                · exact hr
                · exact hr.drew _
              have hw1 : w1.heap = w.heap := by rcases r2 with rfl | rfl <;> rfl
              refine ⟨_, _, r3, ?_, .tup_of (LR.cons (.bool _) (LR.cons hkk (LR.cons hvv (LR.nil E))))⟩
              have hlt : e.blk < w1.heap.size := by rw [hw1]; exact hr.blk_lt hi rfl he
              refine hr1.turn hi rfl rfl he rfl rfl rfl (by simp [ChangeMaps.setBlock]) (fun b hb => ?_) ⟨e, he, m2, .inr ⟨_, x, rfl, m4, ?_⟩⟩
              · simp only [ChangeMaps.setBlock]
                rw [Array.getElem?_setIfInBounds_ne (Ne.symm hb)]
              · simp only [ChangeMaps.setBlock]
                rw [Array.getElem?_setIfInBounds_self_of_lt hlt, appL_eq]
                rw [← l2]
                simp
theorem lastOf_eq : ∀ (l : List Nat), lastOf l = l.getLast?
  | [] => rfl
  | [_] => rfl
  | _ :: b :: l => by rw [lastOf, lastOf_eq (b :: l)]; simp
theorem stamp_sound [Den] {b : Nat} : ∀ {es : List (Value × Value)} {ents : List MapEntry} {k v : Value}, PR E es ents → atStamp b es (ents.map (·.born)) = some (k, v) → ∃ e, ents.find? (·.born == b) = some e ∧ VR E k e.key ∧ VR E v e.val
  | _, _, _, _, .nil, h => by cases h
  | _, _, k, v, .cons (e := e) hk hv hp, h => by
    simp only [List.map_cons, atStamp] at h
    cases hb : Nat.beq e.born b with
    | true =>
      rw [hb] at h
      simp only [cond_true, Option.some.injEq, Prod.mk.injEq] at h
      obtain ⟨h1, h2⟩ := h
      subst h1 h2
      refine ⟨e, ?_, hk, hv⟩
      rw [List.find?_cons]
      have : (e.born == b) = true := by simpa using Nat.eq_of_beq_eq_true hb
      rw [this]
    | false =>
      rw [hb] at h
      obtain ⟨e2, q1, q2⟩ := stamp_sound hp h
      refine ⟨e2, ?_, q2⟩
      rw [List.find?_cons]
      have : (e.born == b) = false := by
        cases hx : (e.born == b) with
        | false => rfl
        | true => have := eq_of_beq hx; rw [this, Nat.beq_refl] at hb; cases hb
      rw [this]; exact q1
theorem entry_it_sound [Den] {r c c' : Nat} {v : Value} {H' : Heap} {L : Lg} {e : EI} (h : entryA r c H = .ok v c' H' L) (hr : HR P w0 F E H w) (he : E r = some e) :
    c' = c ∧ H' = H ∧ ∃ v', (Instr.entry (.pointer (some ⟨e.blk, 0, none⟩))).run P w = .ok v' w ∧ VR E v v' := by
  unfold entryA at h
  replace h := bind_ok.1 h
  obtain ⟨it, c1, h1, _, _, hit, h, _⟩ := h
  obtain ⟨q1, q2, hi⟩ := iterGet_inv hit
  subst q1 q2
  obtain ⟨e2, m1, m2, m3⟩ := hr.obj _ _ hi
  rw [he] at m1; cases m1
  cases hm : it.m with
  | none => rw [hm] at h; exact (bad_ok.1 h).elim
  | some m =>
    cases hl : lastOf it.seen with
    | none => rw [hm, hl] at h; exact (bad_ok.1 h).elim
    | some b =>
      rw [hm, hl] at h
      simp only at h
      rcases m3 with ⟨m3, _⟩ | ⟨k, x, m3, m4, m5⟩
      · rw [hm] at m3; cases m3
      · rw [hm] at m3; cases m3
        replace h := bind_ok.1 h
        obtain ⟨mp, c2, h2, _, _, hmp, h, _⟩ := h
        obtain ⟨q1, q2, hk⟩ := mapGet_inv hmp
        subst q1 q2
        replace h := bguard h
        obtain ⟨_, hg, h⟩ := h
        have hg := Nat.eq_of_beq_eq_true hg
        obtain ⟨e3, ents, clock, n1, n2, n3, n4, n5⟩ := hr.obj _ _ hk
        rw [m4] at n1; cases n1
        subst n5
        cases ha : atStamp b mp.es mp.bs with
        | none => rw [ha] at h; exact (bad_ok.1 h).elim
        | some p =>
          obtain ⟨k0, v0⟩ := p
          rw [ha] at h
          obtain ⟨q1, q2, q3, _⟩ := pure_ok.1 h
          subst q1 q2 q3
          rw [← n4] at ha
          obtain ⟨e4, f1, f2, f3⟩ := stamp_sound n3 ha
          refine ⟨rfl, rfl, .tuple #[e4.key, e4.val], ?_, .tup_of (LR.cons f2 (LR.cons f3 (LR.nil E)))⟩
          have hback : it.seen.toArray.back? = some b := by rw [← hl, lastOf_eq]; simp
          have hfind : ents.find? (·.born == b) = some e4 := by rw [← Array.find?_toList]; exact f1
          simp only [Instr.entry, getObj, Sem.run_bind, Sem.run, m5, n2, Result.andThen, hback, hg, bne_self_eq_false, Bool.false_eq_true, if_false, hfind]
          rfl
theorem nilNil_sound {op : BinOp} {t : TypeId} {x y : Operand} {v : Value} (h : nilNil P op t (isConstO x || isConstO y) = some v) (w : World) :
    (do eqGuard op t x y .nilIface .nilIface; binOp op t .nilIface .nilIface : Sem Value).run P w = .ok v w ∧ ∃ b, v = .bool b := by
  cases hk : (isConstO x || isConstO y) with
  | false => rw [hk] at h; cases h
  | true =>
    rw [hk] at h
    unfold nilNil at h
    cases hu : P.underlying t with
    | none => rw [hu] at h; cases h
    | some d =>
      rw [hu] at h
      cases d <;> (try (cases op <;> cases h; done))
      have hq : (Op.equal t .nilIface .nilIface).run P w = .ok true w := by
        show (Op.equalIn (9999 + 1) t _ _).run P w = _
        unfold Op.equalIn
        rw [Sem.run_bind, run_underlying hu, Result.andThen_ok]; rfl
      cases op <;> (try (cases h; done))
      · cases h
        have hg : (eqGuard .eql t x y .nilIface .nilIface).run P w = .ok () w := by
          unfold eqGuard
          cases x <;> cases y <;> first | (simp [isConstO] at hk; done) | simp
        refine ⟨?_, _, rfl⟩
        rw [Sem.run_bind, hg, Result.andThen_ok]
        show (do let r ← Op.equal t .nilIface .nilIface; pure (.bool r) : Sem Value).run P w = _
        rw [Sem.run_bind, hq]; rfl
      · cases h
        have hg : (eqGuard .neq t x y .nilIface .nilIface).run P w = .ok () w := by
          unfold eqGuard
          cases x <;> cases y <;> first | (simp [isConstO] at hk; done) | simp
        refine ⟨?_, _, rfl⟩
        rw [Sem.run_bind, hg, Result.andThen_ok]
        show (do let r ← Op.equal t .nilIface .nilIface; pure (.bool (!r)) : Sem Value).run P w = _
        rw [Sem.run_bind, hq]; rfl
theorem clear_sound [Den] {ats : Array TypeId} {t ty : TypeId} (hat : ats[0]? = some t) {x x' v : Value} {c c' : Nat} {H' : Heap} {L : Lg} (h : clearA P t x c H = .ok v c' H' L) (hr : HR P w0 F E H w) (hx : VR E x x') :
    ∃ v' w', (Builtin.clear_ ats ty #[x']).run P w = .ok v' w' ∧ HR P w0 F E H' w' ∧ VR E v v' := by
  unfold clearA at h
  split at h
  · cases hx
    replace h := bopt h
    obtain ⟨d, _, hu, h⟩ := h
    obtain ⟨q1, q2, q3, _⟩ := pure_ok.1 h
    subst q1 q2 q3
    exact ⟨_, w, by simp [Builtin.clear_, hat, run_underlying hu], hr, .tup_of (LR.nil E)⟩
  · cases hx with
    | map he =>
      rename_i e
      replace h := bopt h
      obtain ⟨⟨kt, et⟩, _, hm, h⟩ := h
      have hu := map_types hm
      replace h := bind_ok.1 h
      obtain ⟨mp, c1, h1, _, _, hmp, h, _⟩ := h
      obtain ⟨p1, p2, hi⟩ := mapGet_inv hmp
      subst p1 p2
      replace h := bind_ok.1 h
      obtain ⟨u, c2, h2, _, _, hst, h, _⟩ := h
      obtain ⟨q1, q2⟩ := mapSet_inv hst
      subst q1 q2
      obtain ⟨q1, q2, q3, _⟩ := pure_ok.1 h
      subst q1 q2 q3
      obtain ⟨e2, ents, clock, m1, m2, m3, m4, m5⟩ := hr.obj _ _ hi
      rw [he] at m1; cases m1
      subst m5
      refine ⟨.tuple #[], _, ?_, map_turn hr hi he (ents2 := #[]) (clk2 := mp.clk) .nil rfl, .tup_of (LR.nil E)⟩
      simp [Builtin.clear_, hat, run_underlying hu, run_getMap m2, run_setMap (P := P) (o' := .map #[] mp.clk) m2 (fun _ _ _ h => by cases h)]
  · rename_i i o n cp
    replace h := bopt h
    obtain ⟨el, _, hse, h⟩ := h
    replace h := bopt h
    obtain ⟨z, _, hz, h⟩ := h
    replace h := bguard h
    obtain ⟨_, hg, h⟩ := h
    simp only [Bool.and_eq_true] at hg
    obtain ⟨⟨hg1, hg2⟩, hg3⟩ := hg
    have hn := blt_iff.1 hg1
    have hz0 := blt_iff.1 hg2
    have hu : P.underlying t = some (.slice el) := by
      unfold sliceElem at hse
      split at hse
      · rename_i hu; cases hse; exact hu
      · cases hse
    replace h := bind_ok.1 h
    obtain ⟨u, c2, h2, _, _, hst, h, _⟩ := h
    obtain ⟨q1, q2, q3, _⟩ := pure_ok.1 h
    subst q1 q2 q3
    cases hx with
    | sl he hnc ha =>
      rename_i e a'
      have ha' : a' = ⟨e.blk, e.off + o, none⟩ := ha.resolve_right (by omega)
      subst ha'
      rw [wrB_eq] at hst
      have hlz : LR E (repL z.cells.toList n) (repL z.cells.toList n) := repLR (VR.clean (E := E) hg3).cells n
      obtain ⟨_, w', k1, k2, _⟩ := wrN_sound (k := 0) (by simpa using hst) hr hlz he
      refine ⟨.tuple #[], w', ?_, k2, .tup_of (LR.nil E)⟩
      have hzc : (Builtin.zeroCells z.cells n).toList = repL z.cells.toList n := by
        unfold Builtin.zeroCells
        rw [Array.toList_map, Array.toList_range]
        exact rep_eq z.cells hz0 n
      have hn0 : n ≠ 0 := by omega
      obtain ⟨n', rfl⟩ : ∃ n', n = n' + 1 := ⟨n - 1, by omega⟩
      simp [Builtin.clear_, hat, run_underlying hu, run_zero hz, hzc, k1]
  · exact (bad_ok.1 h).elim
/-! ## Strings and slices of bytes -/
theorem HR.ext [Den] {H2 : Heap} (hr : HR P w0 F E H w) (h : ∀ i, H2.get i = H.get i) : HR P w0 F E H2 w :=
  ⟨hr.keeps, fun i e he => by rw [h]; exact hr.dom i e he, fun i o ho => hr.obj i o (by rw [← h]; exact ho),
    fun i j o p e e' hne ho hp => hr.inj i j o p e e' hne (by rw [← h]; exact ho) (by rw [← h]; exact hp), fun i o e ho => hr.own i o e (by rw [← h]; exact ho)⟩
theorem u8Slice_of {t e : TypeId} (h : u8Slice P t = some e) : P.underlying t = some (.slice e) ∧ P.underlying e = some (.int .u8) := by
  unfold u8Slice at h
  split at h
  · rename_i e1 hu
    split at h
    · rename_i he; cases h; exact ⟨hu, he⟩
    · cases h
  · cases h
theorem isStrT_of {t : TypeId} (h : isStrT P t = true) : P.underlying t = some .string := by
  unfold isStrT at h
  split at h
  · assumption
  · cases h
theorem bytesU_of : ∀ {vs : List Value} {l : List UInt8}, bytesU vs = some l → ∃ ns : List Int, vs = ns.map (Value.int .u8) ∧ l = ns.map fun n => UInt8.ofNat n.toNat
  | [], l, h => by cases h; exact ⟨[], rfl, rfl⟩
  | v :: vs, l, h => by
    unfold bytesU at h
    split at h
    · rename_i hq; cases hq
    · rename_i n us hq
      cases hq
      split at h
      · rename_i l2 hl
        cases h
        obtain ⟨ns, h1, h2⟩ := bytesU_of hl
        exact ⟨n :: ns, by rw [h1]; rfl, by rw [h2]; rfl⟩
      · cases h
    · cases h
theorem push_bytes : ∀ (ns : List Int) (r : ByteArray), ns.foldl (fun r n => r.push (UInt8.ofNat n.toNat)) r = ⟨r.data ++ (ns.map fun n => UInt8.ofNat n.toNat).toArray⟩
  | [], r => by simp
  | n :: ns, r => by
    simp only [List.map_cons, List.foldl_cons]
    rw [push_bytes ns]
    simp [ByteArray.push]
theorem LR.ints [Den] {vs' : List Value} : ∀ {ns : List Int}, LR E (ns.map (Value.int .u8)) vs' → vs' = ns.map (Value.int .u8)
  | [], h => h.nil_inv
  | n :: ns, h => by
    obtain ⟨v', r, rfl, hv, hl⟩ := LR.cons_inv (xs := ns.map (Value.int .u8)) (x := .int .u8 n) h
    cases hv
    rw [LR.ints hl]; rfl
theorem uBytes_get (b : ByteArray) (k : Nat) : (uBytes b)[k]? = (b.data.map fun x => Value.int .u8 x.toNat)[k]? := by
  unfold uBytes
  simp [Array.getElem?_toList]
theorem conv_sound [Den] {s d : TypeId} {x x' v : Value} {c c' : Nat} {H' : Heap} {L : Lg} (h : convM P s d x c H = .ok v c' H' L) (hr : HR P w0 F E H w) (hx : VR E x x') :
    ∃ v' w' E', (convert s d x').run P w = .ok v' w' ∧ E.le E' ∧ HR P w0 F E' H' w' ∧ VR E' v v' := by
  unfold convM at h
  simp only [rdB_eq] at h
  split at h
  · rename_i b
    cases hx
    replace h := bopt h
    obtain ⟨e, _, he, h⟩ := h
    obtain ⟨hd, he⟩ := u8Slice_of he
    replace h := bguard h
    obtain ⟨_, hg, h⟩ := h
    simp only [Bool.and_eq_true] at hg
    obtain ⟨hg1, hg2⟩ := hg
    obtain ⟨us, hs⟩ := Option.isSome_iff_exists.1 hg1
    have hsz : sizeB P e = some 1 := by
      split at hg2
      · rename_i n hn; rw [hn, Nat.eq_of_beq_eq_true hg2]
      · cases hg2
    replace h := bind_ok.1 h
    obtain ⟨j, c1, h1, _, _, hj0, h, _⟩ := h
    obtain ⟨q0, q1, q2, _⟩ := pure_ok.1 h
    obtain ⟨hj1, hj2, hj, hj3, _⟩ := newA_inv hj0
    subst q0 q1 q2 hj1 hj2 hj3
    have hheap : (Lib.bytesWorld w e b).heap = w.heap.push (.cells (Lib.bytesCells w e b) e ((Lib.bytesCells w e b).size, (Lib.bytesCells w e b).size + 1)) := by
      apply Array.ext_getElem?
      intro k
      rcases Nat.lt_trichotomy k w.heap.size with hk | hk | hk
      · rw [Lib.bytesWorld_at_old w e b k hk, Array.getElem?_push, if_neg (by omega)]
      · subst hk; rw [Lib.bytesWorld_at_new, Array.getElem?_push, if_pos rfl]
      · rw [Array.getElem?_eq_none (by rw [Lib.bytesWorld_size]; omega), Array.getElem?_eq_none (by simp; omega)]
    have hge : b.size ≤ grownCap w b.size 0 e := by unfold grownCap; simp only [Question.cut]; omega
    have hbsz : (b.data.map fun x => Value.int .u8 x.toNat).size = b.size := by simp
    have hcs : (Lib.bytesCells w e b).size = grownCap w b.size 0 e := by
      unfold Lib.bytesCells
      rw [Array.size_append, hbsz, Array.size_replicate]; omega
    have hfr := hr.fresh (o := .row e (mkCells (uBytes b)) false) (b := .cells (Lib.bytesCells w e b) e ((Lib.bytesCells w e b).size, (Lib.bytesCells w e b).size + 1)) (cap := grownCap w b.size 0 e) hj
      (fun w' hw' => ⟨_, Lib.bytesCells w e b, by simp [Env.upd]; rfl, ⟨_, by rw [hw']; simp; rfl, .inr (Nat.le_refl _)⟩, fun n hn => by
        rw [hsz] at hn; cases hn
        rw [hcs, mkCells_len]
        refine ⟨by simp, ?_⟩
        rw [Nat.div_one]
        show (b.data.toList.map _).length ≤ _
        rw [List.length_map]
        exact hge, fun k v hk => by
        rw [mkCells_get, uBytes_get] at hk
        have hlt := (Array.getElem?_eq_some_iff.1 hk).1
        refine ⟨v, ?_, ?_, ?_⟩
        · show (Lib.bytesCells w e b)[0 + k]? = some v
          rw [Nat.zero_add]
          unfold Lib.bytesCells
          rw [Array.getElem?_append_left hlt]; exact hk
        · rw [Array.getElem?_map] at hk
          cases hq : b.data[k]? with
          | none => rw [hq] at hk; cases hk
          | some y => rw [hq] at hk; cases hk; exact .int _ _
        · rw [Array.getElem?_map] at hk
          cases hq : b.data[k]? with
          | none => rw [hq] at hk; cases hk
          | some y => rw [hq] at hk; cases hk; rfl⟩)
    obtain ⟨k1, k2⟩ := hfr
    have hE : Env.upd E j ⟨w.heap.size, 0, grownCap w b.size 0 e⟩ j = some ⟨w.heap.size, 0, grownCap w b.size 0 e⟩ := by simp [Env.upd]
    have hv := VR.sl (o := 0) (n := b.size) (c := INF) (a' := ⟨w.heap.size, 0, none⟩) hE (by rw [capINF]; exact hge) (.inl rfl)
    rw [capINF] at hv
    exact ⟨_, _, _, Lib.run_convert_string_bytes w s d e b hs hd he, k1, k2.heap hheap rfl rfl rfl, hv⟩
  · rename_i i o n cp
    cases hx with
    | sl hE hnc ha =>
      rename_i ei a'
      cases hst : isStrT P d with
      | true =>
        rw [hst] at h
        simp only [cond_true] at h
        have hd := isStrT_of hst
        replace h := bopt h
        obtain ⟨e, _, he, h⟩ := h
        obtain ⟨hs, he⟩ := u8Slice_of he
        replace h := bind_ok.1 h
        obtain ⟨vs, c1, h1, _, _, hrd, h, _⟩ := h
        replace h := bopt h
        obtain ⟨l, _, hl, h⟩ := h
        obtain ⟨q0, q1, q2, _⟩ := pure_ok.1 h
        obtain ⟨q3, q4, hlen⟩ := rdN_inv hrd
        subst q0 q1 q2 q3 q4
        obtain ⟨ns, rfl, rfl⟩ := bytesU_of hl
        obtain ⟨vs', m1, _, m3⟩ := rdN_sound hrd hr hE
        have := LR.ints m1
        subst this
        have hns : (ns.map (Value.int .u8)).length = n := hlen
        have hload := run_loadCells_list (P := P) (w := w) a' (ns.map (Value.int .u8)) (fun j v hj => by
          have hlt := (List.getElem?_eq_some_iff.1 hj).1
          have ha' : a' = ⟨ei.blk, ei.off + o, none⟩ := ha.resolve_right (by omega)
          subst ha'
          rw [add_eq]
          exact m3 j v hj)
        rw [hns] at hload
        refine ⟨_, w, E, ?_, E.le_refl, hr, .str _⟩
        rw [run_convert_bytes_string w s d e (some a') n _ hs he hd, run_bytesToString w a' n _ ns hload, push_bytes]
        simp
      | false =>
        rw [hst] at h
        simp only [cond_false] at h
        replace h := bopt h
        obtain ⟨e, _, he, h⟩ := h
        obtain ⟨hs, he⟩ := u8Slice_of he
        replace h := bguard h
        obtain ⟨_, hg, h⟩ := h
        simp only [Bool.and_eq_true] at hg
        have hsd := Nat.eq_of_beq_eq_true hg.1
        have hn := blt_iff.1 hg.2
        subst hsd
        replace h := bind_ok.1 h
        obtain ⟨u, c1, h1, _, _, hmk, h, _⟩ := h
        obtain ⟨q0, q1, q2, _⟩ := pure_ok.1 h
        subst q0 q1 q2
        unfold markA at hmk
        replace hmk := bind_ok.1 hmk
        obtain ⟨inf, c2, h2, _, _, hin, hgd, _⟩ := hmk
        obtain ⟨q1, q2, T, cs, ro, hi, rfl⟩ := info_inv hin
        subst q1 q2
        obtain ⟨hro, q1, q2, _⟩ := guard_ok.1 hgd
        subst q1 q2
        have hro : ro = false := by simpa using hro
        subst hro
        have ha' : a' = ⟨ei.blk, ei.off + o, none⟩ := ha.resolve_right (by omega)
        subst ha'
        obtain ⟨e2, cells, m1, ⟨fz, m2, m3⟩, m4, m5⟩ := hr.obj _ _ hi
        rw [hE] at m1; cases m1
        have hsh : w.shape? ei.blk = some (T, cells.size) := by unfold World.shape?; rw [m2]
        have hnew : (w.freeze ⟨ei.blk, cells.size, none⟩ 1).heap[ei.blk]? = some (.cells cells T (if fz.1 == fz.2 then (cells.size, cells.size + 1) else (min fz.1 cells.size, max fz.2 (cells.size + 1)))) := by
          unfold World.freeze
          rw [if_neg (by decide)]
          obtain ⟨f1, f2⟩ := fz
          simp [Array.getElem?_modify, m2]
        refine ⟨_, w.freeze ⟨ei.blk, cells.size, none⟩ 1, E, ?_, E.le_refl, ?_, .sl hE hnc (.inl rfl)⟩
        · simp [convert, run_underlying hs, run_underlying he, markStringish, hsh]
        · refine HR.ext (hr.turn (o' := .row T cs false) (w' := w.freeze ⟨ei.blk, cells.size, none⟩ 1) hi rfl rfl hE rfl rfl rfl ?_ ?_ ⟨ei, cells, hE, ⟨_, hnew, ?_⟩, m4, m5⟩) fun k => ?_
          · unfold World.freeze; rw [if_neg (by decide)]; simp
          · intro b hb
            unfold World.freeze; rw [if_neg (by decide)]
            simp [Array.getElem?_modify, Ne.symm hb]
          · right
            split
            · exact Nat.le_refl _
            · rename_i hne
              have hne : fz.1 ≠ fz.2 := by simpa using hne
              have := m3.resolve_left hne
              show cells.size ≤ min fz.1 cells.size
              omega
          · rw [Tr.get_set]
            split
            · rename_i hk; rw [hk]; exact hi
            · rfl
  · rename_i n cp
    cases hx
    replace h := bguard h
    obtain ⟨_, hst, h⟩ := h
    have hd := isStrT_of hst
    replace h := bopt h
    obtain ⟨e, _, he, h⟩ := h
    obtain ⟨hs, he⟩ := u8Slice_of he
    obtain ⟨q0, q1, q2, _⟩ := pure_ok.1 h
    subst q0 q1 q2
    refine ⟨_, w, E, ?_, E.le_refl, hr, .str _⟩
    rw [run_convert_bytes_string w s d e none 0 0 hs he hd]
    rfl
  · exact (bad_ok.1 h).elim
end
end Go.Sx

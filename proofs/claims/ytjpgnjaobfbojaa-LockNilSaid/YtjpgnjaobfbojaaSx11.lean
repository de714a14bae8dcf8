import Derived.Test.YtjpgnjaobfbojaaSx10
import Derived.OrdersIn
namespace Go.Sx
section
variable {P : Program} {w0 : World} {F : Nat → Prop} {E : Env} {H : Heap} {w : World} {D : List Deferred}

/-! ## Frames -/
structure FR (E : Env) (D : List Deferred) (f : Fr) (a : Act) : Prop where
  defers : a.defers = D
  size : a.tmps.size = f.n
  val : ∀ k, k < f.n → VR E (f.get k) (a.tmps.getD k undef)
  out : ∀ k, f.n ≤ k → f.t.get k = none
theorem VR.undef (E : Env) : VR E undef undef := .tup_of (LR.nil E)
theorem FR.get {f : Fr} {a : Act} (h : FR E D f a) (k : Nat) : VR E (f.get k) (a.tmps.getD k Go.undef) := by
  rcases Nat.lt_or_ge k f.n with hk | hk
  · exact h.val k hk
  · have h1 : f.get k = Go.undef := by unfold Fr.get; rw [h.out k hk]
    have h2 : a.tmps.getD k Go.undef = Go.undef := by
      rw [Array.getD_eq_getD_getElem?, Array.getElem?_eq_none (by rw [h.size]; exact hk)]; rfl
    rw [h1, h2]; exact VR.undef E
theorem FR.mono {E' : Env} {f : Fr} {a : Act} (h : FR E D f a) (hle : E.le E') : FR E' D f a := ⟨h.defers, h.size, fun k hk => (h.val k hk).mono hle, h.out⟩
theorem FR.put {f : Fr} {a : Act} {v v' : Value} (h : FR E D f a) (hv : VR E v v') (dst : Option Tmp) : FR E D (f.put dst v) (a.put dst v') := by
  cases dst with
  | none => exact h
  | some d =>
    unfold Fr.put Act.put
    simp only
    cases hb : Nat.blt d f.n with
    | false =>
      simp only [cond_false]
      have hd : ¬ d < a.tmps.size := fun hlt => by rw [h.size] at hlt; rw [blt_iff.2 hlt] at hb; cases hb
      have : a.tmps.setIfInBounds d v' = a.tmps := by simp [Array.setIfInBounds, hd]
      rw [this]; exact h
    | true =>
      simp only [cond_true]
      have hd := blt_iff.1 hb
      refine ⟨h.defers, by simpa using h.size, fun k hk => ?_, fun k hk => ?_⟩
      · by_cases hkd : k = d
        · subst hkd
          have h1 : (⟨f.t.set k v, f.n⟩ : Fr).get k = v := by unfold Fr.get; rw [Tr.get_set_self]
          rw [h1]
          have h2 : (a.tmps.setIfInBounds k v').getD k Go.undef = v' := by
            rw [Array.getD_eq_getD_getElem?]; simp [h.size, hd]
          rw [h2]; exact hv
        · have h1 : (⟨f.t.set d v, f.n⟩ : Fr).get k = f.get k := by unfold Fr.get; rw [Tr.get_set_ne _ _ hkd]
          rw [h1]
          have h2 : (a.tmps.setIfInBounds d v').getD k Go.undef = a.tmps.getD k Go.undef := by
            rw [Array.getD_eq_getD_getElem?, Array.getD_eq_getD_getElem?, Array.getElem?_setIfInBounds_ne (Ne.symm hkd)]
          rw [h2]; exact h.val k hk
      · rw [Tr.get_set_ne _ _ (by show k ≠ d; have : f.n ≤ k := hk; omega)]; exact h.out k hk

theorem eval_sound {f : Fr} {a : Act} (hf : FR E D f a) {x : Operand} {v : Value} {c : Nat} {h : Heap} {c' : Nat} {h' : Heap} {L : Lg} (hh : f.eval x c h = .ok v c' h' L) : VR E v (a.eval x) := by
  cases x with
  | tmp t => obtain ⟨rfl, _⟩ := pure_ok.1 hh; exact hf.get t
  | const u =>
    simp only [Fr.eval] at hh
    cases hc : cleanB u <;> rw [hc] at hh <;> simp only [cond_true, cond_false] at hh
    · exact (bad_ok.1 hh).elim
    · obtain ⟨rfl, _⟩ := pure_ok.1 hh; exact VR.clean hc
  | global g => simp only [Fr.eval] at hh; exact (bad_ok.1 hh).elim
  | func g =>
    obtain ⟨rfl, _⟩ := pure_ok.1 hh
    exact VR.cleanS rfl
theorem evalL_sound {f : Fr} {a : Act} (hf : FR E D f a) : ∀ {xs : List Operand} {vs : List Value} {c : Nat} {h : Heap} {c' : Nat} {h' : Heap} {L : Lg}, evalL f xs c h = .ok vs c' h' L → c' = c ∧ h' = h ∧ LR E vs (xs.map a.eval)
  | [], vs, c, h, c', h', L, hh => by
    obtain ⟨rfl, rfl, rfl, _⟩ := pure_ok.1 hh
    exact ⟨rfl, rfl, LR.nil E⟩
  | x :: xs, vs, c, h, c', h', L, hh => by
    replace hh := beval hh
    obtain ⟨v, _, hv, hh⟩ := hh
    replace hh := bind_ok.1 hh
    obtain ⟨us, c1, h1, _, _, hu, hh, _⟩ := hh
    obtain ⟨q1, q2, q3⟩ := evalL_sound hf hu
    obtain ⟨q4, q5, q6, _⟩ := pure_ok.1 hh
    subst q4 q5 q6 q1 q2
    exact ⟨rfl, rfl, LR.cons (eval_sound hf hv) q3⟩
theorem pairsL_sound {f : Fr} {a : Act} (hf : FR E D f a) : ∀ {xs : List (Nat × Operand)} {vs : List (Nat × Value)} {c : Nat} {h : Heap} {c' : Nat} {h' : Heap} {L : Lg}, pairsL f xs c h = .ok vs c' h' L →
    c' = c ∧ h' = h ∧ vs.map (·.1) = (xs.map fun (p : Nat × Operand) => (p.1, a.eval p.2)).map (·.1) ∧ LR E (vs.map (·.2)) ((xs.map fun (p : Nat × Operand) => (p.1, a.eval p.2)).map (·.2))
  | [], vs, c, h, c', h', L, hh => by
    obtain ⟨rfl, rfl, rfl, _⟩ := pure_ok.1 hh
    exact ⟨rfl, rfl, rfl, LR.nil E⟩
  | (i, x) :: xs, vs, c, h, c', h', L, hh => by
    replace hh := beval hh
    obtain ⟨v, _, hv, hh⟩ := hh
    replace hh := bind_ok.1 hh
    obtain ⟨us, c1, h1, _, _, hu, hh, _⟩ := hh
    obtain ⟨q1, q2, q3, q7⟩ := pairsL_sound hf hu
    obtain ⟨q4, q5, q6, _⟩ := pure_ok.1 hh
    subst q4 q5 q6 q1 q2
    exact ⟨rfl, rfl, by simpa using q3, LR.cons (eval_sound hf hv) q7⟩
theorem evalO_sound {f : Fr} {a : Act} (hf : FR E D f a) {x : Option Operand} {v : Option Value} {c : Nat} {h : Heap} {c' : Nat} {h' : Heap} {L : Lg} (hh : evalO f x c h = .ok v c' h' L) : c' = c ∧ h' = h ∧ OR E v (x.map a.eval) := by
  cases x with
  | none => obtain ⟨rfl, rfl, rfl, _⟩ := pure_ok.1 hh; exact ⟨rfl, rfl, .none⟩
  | some x =>
    simp only [evalO] at hh
    replace hh := beval hh
    obtain ⟨u, _, hu, hh⟩ := hh
    obtain ⟨rfl, rfl, rfl, _⟩ := pure_ok.1 hh
    exact ⟨rfl, rfl, .some (eval_sound hf hu)⟩

/-! ## Calls -/
def Wd (Fe : Fence) : Prop := (∀ f, Fe.fn f) ∧ Fe.depth = none
def Callable (P : Program) (g : FuncId) : Prop := ∃ fn c, P.funcs[g]? = some fn ∧ (fn.name == "runtime.NumGoroutine") = false ∧ fn.body = some c
def CallSnd (P : Program) (w0 : World) (F : Nat → Prop) (r : Rec) : Prop := ∀ g args c H v c' H' L, r.call g args c H = .ok v c' H' L → Callable P g ∧
  ∀ E w args', HR P w0 F E H w → LR E args args' → ∀ Fe n, Wd Fe → CallsIn Fe n P g args'.toArray w (fun e w' => ∃ v' E', e = .returned v' ∧ E.le E' ∧ HR P w0 F E' H' w' ∧ VR E' v v')

theorem wp_val {Fe : Fence} {n : Nat} {o : Oper} {a : Act} {next : Act → World → Prop} {Q : Exit → Act → World → Prop} {v' : Value} {w' : World} (hW : Wd Fe) (hd : ∀ c, o.op ≠ .defer c)
    (h : (execOp a.eval o).run P w = .ok (.value v') w') (hk : next (a.put o.dst v') w') : o.wpIn Fe n P a w next Q := by
  refine ⟨fun f _ => hW.1 f, ?_⟩
  rw [Oper.semAt_eq _ _ _ hd, h]; exact hk
theorem wp_skip' {Fe : Fence} {n : Nat} {o : Oper} {a : Act} {next : Act → World → Prop} {Q : Exit → Act → World → Prop} {w' : World} (hW : Wd Fe) (hd : ∀ c, o.op ≠ .defer c)
    (h : (execOp a.eval o).run P w = .ok .skip w') (hk : next (a.put o.dst undef) w') : o.wpIn Fe n P a w next Q := by
  refine ⟨fun f _ => hW.1 f, ?_⟩
  rw [Oper.semAt_eq _ _ _ hd, h]; exact hk

theorem map_pairs (ps : Array (Nat × Operand)) (ρ : Operand → Value) : (ps.map fun (p : Nat × Operand) => (p.1, ρ p.2)).toList = ps.toList.map fun (p : Nat × Operand) => (p.1, ρ p.2) := by simp

theorem callV_sound {Fe : Fence} {n : Nat} {r : Rec} {o : Oper} {a : Act} {next : Act → World → Prop} {Q : Exit → Act → World → Prop} (hW : Wd Fe) (hcs : CallSnd P w0 F r) {cl : Call} {g : Operand} (ho : o.op = .call cl) (hcl : cl.callee = .value g)
    {fv v : Value} {args : List Value} {c c' : Nat} {H' : Heap} {L : Lg} (h : callV r fv args c H = .ok v c' H' L) (hr : HR P w0 F E H w) (hfv : VR E fv (a.eval g)) (hargs : LR E args (cl.args.toList.map a.eval))
    (hk : ∀ E' v' w', E.le E' → HR P w0 F E' H' w' → VR E' v v' → next (a.put o.dst v') w') : o.wpIn Fe n P a w next Q := by
  unfold callV at h
  split at h
  · rename_i gid first captured
    generalize hga : a.eval g = gv at hfv
    cases hfv with
    | fn hf1 h1 hc1 h2 =>
      rename_i f' c'
      obtain ⟨⟨fn, body, hfn, hname, hbody⟩, hcalls⟩ := hcs _ _ _ _ _ _ _ _ h
      have hrun : (execOp a.eval o).run P w = .ok (.enter gid (f' ++ (cl.args.map a.eval) ++ c')) w := by
        simp only [execOp, ho, resolve, hcl, hga, Deferred.ofValue, Sem.run_bind, Sem.run_pure, Result.andThen_ok, invoke, callFunc, run_program, hfn, hname, hbody]
        simp
      refine ⟨fun f _ => hW.1 f, ?_⟩
      rw [Oper.semAt_eq _ _ _ (fun c e => by rw [ho] at e; cases e), hrun]
      refine ⟨(fun hd => by rw [hW.2] at hd; cases hd), ?_⟩
      have hlr : LR E (first.toList ++ args ++ captured.toList) (f' ++ (cl.args.map a.eval) ++ c').toList := by
        rw [Array.toList_append, Array.toList_append, Array.toList_map]
        exact LR.append (LR.append ⟨hf1, h1⟩ hargs) ⟨hc1, h2⟩
      have hc := hcalls E w _ hr hlr Fe (n - 1) hW
      simp only [Array.toArray_toList] at hc
      refine hc.mono fun e w' ⟨v', E', he, hle, hr', hv'⟩ => ?_
      subst he
      exact hk E' v' w' hle hr' hv'
  · exact (bad_ok.1 h).elim
end
end Go.Sx

import Derived.Test.YthandoangkckmaaGreatDoorSx15
namespace Go.Sx

/-! ## Operations that touch nothing -/
def NoLog {α : Type} (m : M α) : Prop := ∀ c h a c' h' L, m c h = .ok a c' h' L → ∀ e, ¬ L.mem e
theorem NoLog.pure {α : Type} (a : α) : NoLog (M.pure a) := fun c h b c' h' L hh e he => by
  obtain ⟨_, _, _, rfl⟩ := pure_ok.1 hh; exact he
theorem NoLog.bad {α : Type} (n : Nat) : NoLog (M.bad n : M α) := fun _c _h _b _c' _h' _L hh => (bad_ok.1 hh).elim
theorem NoLog.opt {α : Type} (n : Nat) (o : Option α) : NoLog (optM n o) := by
  cases o with
  | none => exact NoLog.bad n
  | some a => exact NoLog.pure a
theorem NoLog.guard (n : Nat) (b : Bool) : NoLog (guardM n b) := by
  cases b with
  | false => exact NoLog.bad n
  | true => exact NoLog.pure ()
theorem NoLog.bind {α β : Type} {m : M α} {f : α → M β} (hm : NoLog m) (hf : ∀ a, NoLog (f a)) : NoLog (M.bind m f) := by
  intro c h b c' h' L hh e he
  obtain ⟨a, c1, h1, l1, l2, h2, h3, rfl⟩ := bind_ok.1 hh
  rcases he with he | he
  · exact hm _ _ _ _ _ _ h2 e he
  · exact hf a _ _ _ _ _ _ h3 e he
theorem NoLog.ite {α : Type} {b : Bool} {x y : M α} (hx : NoLog x) (hy : NoLog y) : NoLog (bif b then x else y) := by cases b; exact hy; exact hx
theorem NoLog.eval (f : Fr) (x : Operand) : NoLog (f.eval x) := fun c h v c' h' L hh e he => by
  obtain ⟨_, _, rfl⟩ := eval_ok hh; exact he
theorem NoLog.evalL (f : Fr) : ∀ (xs : List Operand), NoLog (evalL f xs)
  | [] => NoLog.pure _
  | x :: xs => NoLog.bind (NoLog.eval f x) fun _ => NoLog.bind (NoLog.evalL f xs) fun _ => NoLog.pure _
theorem NoLog.pairsL (f : Fr) : ∀ (xs : List (Nat × Operand)), NoLog (pairsL f xs)
  | [] => NoLog.pure _
  | (_, x) :: xs => NoLog.bind (NoLog.eval f x) fun _ => NoLog.bind (NoLog.pairsL f xs) fun _ => NoLog.pure _
theorem NoLog.evalO (f : Fr) : ∀ (x : Option Operand), NoLog (evalO f x)
  | none => NoLog.pure _
  | some x => NoLog.bind (NoLog.eval f x) fun _ => NoLog.pure _
theorem NoLog.binA [Asm] (P : Program) (op : BinOp) (t : TypeId) (a b : Value) : NoLog (binA P op t a b) := by
  unfold Sx.binA
  refine NoLog.ite (NoLog.bind (NoLog.guard _ _) fun _ => NoLog.opt _ _) (NoLog.ite (NoLog.opt _ _) ?_)
  split
  · exact NoLog.bind (NoLog.opt _ _) fun _ => NoLog.pure _
  · exact NoLog.bind (NoLog.opt _ _) fun _ => NoLog.pure _
  · exact NoLog.bad _
theorem pure_log [Asm] {P : Program} {r : Rec} {f : Fr} {o : Oper} (hp : pureOp o = true) : NoLog (opA P r f o) := by
  unfold pureOp at hp
  unfold opA
  generalize o.op = op at hp
  cases op <;> simp only [reduceCtorEq] at hp <;> (try dsimp only)
  case move x => exact NoLog.eval f x
  case assign x => exact NoLog.eval f x
  case pick c a b =>
    refine NoLog.bind (NoLog.eval f _) fun v => NoLog.bind (NoLog.eval f _) fun x => NoLog.bind (NoLog.eval f _) fun y => ?_
    cases truth v <;> first | exact NoLog.bad _ | exact NoLog.pure _
  case build => exact NoLog.bind (NoLog.pairsL f _) fun _ => NoLog.opt _ _
  case nilCheck =>
    refine NoLog.bind (NoLog.eval f _) fun v => ?_
    split
    · exact NoLog.pure _
    · exact NoLog.pure _
    · exact NoLog.bad _
  case binOp => exact NoLog.bind (NoLog.eval f _) fun _ => NoLog.bind (NoLog.eval f _) fun _ => NoLog.ite (NoLog.opt _ _) (NoLog.binA _ _ _ _ _)
  case unOp => exact NoLog.bind (NoLog.eval f _) fun _ => NoLog.ite (NoLog.opt _ _) (NoLog.opt _ _)
  case makeFunc g a b =>
    refine NoLog.bind (NoLog.evalL f _) fun _ => NoLog.bind (NoLog.evalL f _) fun _ => ?_
    cases g <;> first | exact NoLog.pure _ | exact NoLog.bad _
  case fieldAddr => exact NoLog.bind (NoLog.eval f _) fun _ => NoLog.opt _ _
  case field => exact NoLog.bind (NoLog.eval f _) fun _ => NoLog.opt _ _
  case indexAddr => exact NoLog.bind (NoLog.eval f _) fun _ => NoLog.bind (NoLog.eval f _) fun _ => NoLog.opt _ _
  case index => exact NoLog.bind (NoLog.eval f _) fun _ => NoLog.bind (NoLog.eval f _) fun _ => NoLog.opt _ _
  case extract =>
    refine NoLog.bind (NoLog.eval f _) fun v => ?_
    cases v <;> first | exact NoLog.bad _ | exact NoLog.opt _ _
theorem pure_logV [Asm] {P : Program} {r : Rec} {f : Fr} {o : Oper} {ops : Array Oper} (hp : pureOp o = true) : NoLog (stepV P r ops o f) := by
  unfold stepV
  split
  · exact NoLog.ite (pure_log hp) (NoLog.pure _)
  · exact NoLog.bad _

/-! ## What comes ahead by the edges -/
inductive Anc (ops : Array Oper) : Nat → Nat → Prop
  | direct {j : Nat} {o : Oper} {e : Edge} (ho : ops[j]? = some o) (he : e ∈ o.after) (hb : Region.binds .any e = true) : Anc ops e.on j
  | trans {p j : Nat} {o : Oper} {e : Edge} (ho : ops[j]? = some o) (he : e ∈ o.after) (hb : Region.binds .any e = true) (h : Anc ops p e.on) : Anc ops p j
def Down (ops : Array Oper) (listed : Array Bool) : Prop := ∀ (j : Nat) (o : Oper), listed.getD j false = true → ops[j]? = some o → ∀ e ∈ o.after, Region.binds .any e = true → listed.getD e.on false = true
theorem anc_listed {ops : Array Oper} {listed : Array Bool} (hd : Down ops listed) {p j : Nat} (h : Anc ops p j) : (∀ o, ops[j]? = some o → ∀ e ∈ o.after, Region.binds .any e = true → listed.getD e.on false = true) → listed.getD p false = true := by
  induction h with
  | direct ho he hb => exact fun hj => hj _ ho _ he hb
  | trans ho he hb _ ih => exact fun hj => ih fun o ho' e' he' hb' => hd _ o (hj _ ho _ he hb) ho' e' he' hb'

theorem fold_mask (acc : List Nat) : ∀ (es : List Edge) (s p : Nat), (es.foldl (fun s e => if Region.binds .any e then Nat.lor s (Nat.lor (2 ^ e.on) (acc.getD e.on 0)) else s) s).testBit p = true →
    s.testBit p = true ∨ ∃ e ∈ es, Region.binds .any e = true ∧ (p = e.on ∨ (acc.getD e.on 0).testBit p = true)
  | [], s, p, h => .inl h
  | e :: es, s, p, h => by
    simp only [List.foldl_cons] at h
    rcases fold_mask acc es _ p h with h1 | ⟨e', he', hb', hp'⟩
    · by_cases hb : Region.binds .any e = true
      · rw [if_pos hb] at h1
        have h2 : (s ||| (2 ^ e.on ||| acc.getD e.on 0)).testBit p = true := h1
        rw [Nat.testBit_or, Nat.testBit_or, Bool.or_eq_true, Bool.or_eq_true] at h2
        rcases h2 with h2 | h2 | h2
        · exact .inl h2
        · rw [Nat.testBit_two_pow] at h2
          exact .inr ⟨e, by simp, hb, .inl (of_decide_eq_true h2).symm⟩
        · exact .inr ⟨e, by simp, hb, .inr h2⟩
      · rw [if_neg hb] at h1; exact .inl h1
    · exact .inr ⟨e', by simp [he'], hb', hp'⟩
theorem masks_anc {ops : Array Oper} : ∀ (l : List Oper) (acc : List Nat), (∀ j, l[j]? = ops[acc.length + j]?) → (∀ j p, (acc.getD j 0).testBit p = true → Anc ops p j) → ∀ j p, ((masks l acc).getD j 0).testBit p = true → Anc ops p j
  | [], acc, _, ha => ha
  | o :: l, acc, hl, ha => by
    have h0 : ops[acc.length]? = some o := by simpa using (hl 0).symm
    refine masks_anc l _ (fun j => ?_) fun j p hp => ?_
    · have := hl (j + 1)
      simp only [List.getElem?_cons_succ] at this
      rw [this, List.length_append, List.length_singleton]
      congr 1; omega
    · rcases Nat.lt_trichotomy j acc.length with hj | hj | hj
      · rw [List.getD_eq_getElem?_getD, List.getElem?_append_left hj, ← List.getD_eq_getElem?_getD] at hp
        exact ha j p hp
      · subst hj
        rw [List.getD_eq_getElem?_getD, List.getElem?_append_right (Nat.le_refl _)] at hp
        simp only [Nat.sub_self, List.getElem?_cons_zero, Option.getD_some] at hp
        rcases fold_mask acc _ _ _ hp with h1 | ⟨e, he, hb, h1 | h1⟩
        · simp at h1
        · rw [h1]; exact .direct h0 (by simpa using he) hb
        · exact .trans h0 (by simpa using he) hb (ha _ _ h1)
      · rw [List.getD_eq_getElem?_getD, List.getElem?_append_right (by omega)] at hp
        have : [o.after.toList.foldl (fun s e => if Region.binds .any e then Nat.lor s (Nat.lor (2 ^ e.on) (acc.getD e.on 0)) else s) 0][j - acc.length]? = none := List.getElem?_eq_none (by simp; omega)
        rw [this] at hp
        simp at hp

/-! ## The static look -/
theorem apart_from {ops : Array Oper} {oj : Oper} {m : Nat} : ∀ (l : List Oper) (k : Nat), apartFrom ops oj m k l = true → ∀ i o, l[i]? = some o → m.testBit (k + i) = true ∨ o.apart ops oj = true
  | [], _, _, i, o, h => by simp at h
  | p :: l, k, h, i, o, hi => by
    simp only [apartFrom, Bool.and_eq_true, Bool.or_eq_true] at h
    cases i with
    | zero => simp only [List.getElem?_cons_zero, Option.some.injEq] at hi; subst hi; exact h.1
    | succ i =>
      have := apart_from l (k + 1) h.2 i o (by simpa using hi)
      rw [show k + (i + 1) = k + 1 + i from by omega]; exact this
theorem may_touch {oj : Oper} {m : Nat} : ∀ (l : List Oper) (k : Nat) i o, l[i]? = some o → m.testBit (k + i) = true ∨ pureOp o = true ∨ pureOp oj = true ∨ k + i ∈ mayTouch oj m k l
  | [], _, i, o, h => by simp at h
  | p :: l, k, i, o, hi => by
    cases i with
    | zero =>
      simp only [List.getElem?_cons_zero, Option.some.injEq] at hi
      subst hi
      simp only [mayTouch, Nat.add_zero]
      cases h1 : Nat.testBit m k
      · cases h2 : pureOp p
        · cases h3 : pureOp oj
          · simp
          · simp
        · simp
      · simp
    | succ i =>
      have := may_touch (oj := oj) (m := m) l (k + 1) i o (by simpa using hi)
      rw [show k + 1 + i = k + (i + 1) from by omega] at this
      rcases this with h | h | h | h
      · exact .inl h
      · exact .inr (.inl h)
      · exact .inr (.inr (.inl h))
      · refine .inr (.inr (.inr ?_))
        simp only [mayTouch]
        cases (Nat.testBit m k || pureOp p || pureOp oj)
        · exact List.mem_cons_of_mem _ h
        · exact h

structure Stat (ops : Array Oper) (ms : List Nat) (j : Nat) (o : Oper) (st : List Nat) : Prop where
  edges : ∀ e ∈ o.after, Region.binds .any e = true → e.on < j
  apart : ∀ i p, i < j → ops[i]? = some p → (ms.getD j 0).testBit i = true ∨ (p.apart ops o = true ∧ (pureOp p = true ∨ pureOp o = true ∨ i ∈ st))
theorem statics_spec {ops : Array Oper} {ms : List Nat} : ∀ (l : List Oper) (k : Nat) (st : List (List Nat)), (∀ j, l[j]? = ops[k + j]?) → statics ops ms k l = some st → ∀ j o, l[j]? = some o → Stat ops ms (k + j) o (st.getD j [])
  | [], _, _, _, _, j, o, h => by simp at h
  | p :: l, k, st, hl, h, j, o, hj => by
    simp only [statics] at h
    cases hc : (noSel p && (p.after.toList.all fun e => !(Region.binds .any e) || Nat.blt e.on k) && apartFrom ops p (ms.getD k 0) 0 (ops.toList.take k)) with
    | false => rw [hc] at h; cases h
    | true =>
      rw [hc] at h
      simp only [cond_true] at h
      cases hs : statics ops ms (k + 1) l with
      | none => rw [hs] at h; cases h
      | some rest =>
        rw [hs] at h
        simp only [Option.some.injEq] at h
        subst h
        cases j with
        | zero =>
          simp only [List.getElem?_cons_zero, Option.some.injEq] at hj
          subst hj
          simp only [Bool.and_eq_true] at hc
          obtain ⟨⟨_, c2⟩, c3⟩ := hc
          refine ⟨fun e he hb => ?_, fun i q hi hq => ?_⟩
          · have := List.all_eq_true.1 c2 e (by simpa using he)
            rw [hb] at this
            exact blt_iff.1 (by simpa using this)
          · have hq' : (ops.toList.take k)[i]? = some q := by
              rw [List.getElem?_take, if_pos (by simpa using hi)]; simpa using hq
            have a1 := apart_from _ 0 c3 i q hq'
            have a2 := may_touch (oj := p) (m := ms.getD k 0) _ 0 i q hq'
            simp only [Nat.zero_add, Nat.add_zero, List.getD_cons_zero] at a1 a2 ⊢
            rcases a2 with a2 | a2 | a2 | a2
            · exact .inl a2
            · exact a1.imp id fun h => ⟨h, .inl a2⟩
            · exact a1.imp id fun h => ⟨h, .inr (.inl a2)⟩
            · exact a1.imp id fun h => ⟨h, .inr (.inr a2)⟩
        | succ j =>
          have := statics_spec l (k + 1) rest (fun i => by have := hl (i + 1); simpa [Nat.add_assoc, Nat.add_comm 1 i] using this) hs j o (by simpa using hj)
          rw [show k + (j + 1) = k + 1 + j from by omega]
          simpa using this
theorem clashF_sem {a b : Lg} (h : a.clashF b = false) : ∀ e1 e2, a.mem e1 → b.mem e2 → e1.clash e2 = false := by
  have one : ∀ (e : Ev) (b : Lg), b.clash1 e = false → ∀ e2, b.mem e2 → e.clash e2 = false := by
    intro e b
    induction b with
    | nil => intro _ e2 h2; exact h2.elim
    | one f => intro h e2 h2; simp only [Lg.mem] at h2; subst h2; exact h
    | app x y ihx ihy =>
      intro h e2 h2
      simp only [Lg.clash1, Bool.or_eq_false_iff] at h
      rcases h2 with h2 | h2
      · exact ihx h.1 e2 h2
      · exact ihy h.2 e2 h2
  induction a with
  | nil => intro e1 e2 h1; exact h1.elim
  | one e => intro e1 e2 h1 h2; simp only [Lg.mem] at h1; subst h1; exact one _ _ h e2 h2
  | app x y ihx ihy =>
    intro e1 e2 h1 h2
    simp only [Lg.clashF, Bool.or_eq_false_iff] at h
    rcases h1 with h1 | h1
    · exact ihx h.1 e1 e2 h1 h2
    · exact ihy h.2 e1 e2 h1 h2

/-! ## The lexical run, as a list of steps -/
theorem mem_ws {e : Ev} (hw : e.isW = true) : ∀ {a : Lg}, a.mem e → a.ws.mem e
  | .nil, h => h
  | .one f, h => by
    have : e = f := h
    subst this
    simp only [Lg.ws, hw, cond_true]
    rfl
  | .app a b, h => by
    have ha := mem_ws hw (a := a)
    have hb := mem_ws hw (a := b)
    simp only [Lg.ws]
    rcases h with h | h
    · have := ha h
      generalize a.ws = x at this ⊢
      generalize b.ws = y
      cases x <;> cases y <;> first | exact this.elim | exact .inl this | exact this
    · have := hb h
      generalize a.ws = x
      generalize b.ws = y at this ⊢
      cases x <;> cases y <;> first | exact this.elim | exact .inr this | exact this
theorem clash_sem {a b : Lg} (h : a.clash b = false) : ∀ e1 e2, a.mem e1 → b.mem e2 → e1.clash e2 = false := by
  intro e1 e2 h1 h2
  simp only [Lg.clash, Bool.or_eq_false_iff] at h
  cases hw1 : e1.isW with
  | true => exact clashF_sem h.1 e1 e2 (mem_ws hw1 h1) h2
  | false =>
    cases hw2 : e2.isW with
    | true => exact clashF_sem h.2 e1 e2 h1 (mem_ws hw2 h2)
    | false =>
      cases e1 <;> cases e2 <;> simp_all [Ev.isW, Ev.clash]
theorem clashAny_spec {l : Lg} {logs : List Lg} : ∀ {is : List Nat}, clashAny l logs is = false → ∀ i ∈ is, (logs.getD i .nil).clash l = false
  | [], _, i, hi => by cases hi
  | j :: is, h, i, hi => by
    simp only [clashAny, Bool.or_eq_false_iff] at h
    rcases List.mem_cons.1 hi with rfl | hi
    · exact h.1
    · exact clashAny_spec h.2 i hi
theorem runs_of_regionD [Asm] {P : Program} {r : Rec} {ops : Array Oper} : ∀ (l : List Oper) (k : Nat) (st : List (List Nat)) (logs : List Lg) (f : Fr) (c : Nat) (h : Heap) (f' : Fr) (c' : Nat) (h' : Heap) (L : Lg),
    (∀ j, l[j]? = ops[k + j]?) → logs.length = k → regionD P r ops l st logs f c h = .ok f' c' h' L →
    ∃ its : List It, its.length = l.length ∧ Runs P r ops its f h f' h' ∧ (∀ (j : Nat) x, its[j]? = some x → x.i = k + j ∧ l[j]? = some x.o) ∧
      (∀ (j : Nat) x, its[j]? = some x → ∀ i ∈ st.getD j [], ((logs ++ its.map (·.L)).getD i .nil).clash x.L = false ∨ k + j ≤ i) ∧
      (∀ (j : Nat) x, its[j]? = some x → pureOp x.o = true → ∀ e, ¬ x.L.mem e)
  | [], k, st, logs, f, c, h, f', c', h', L, _, _, hh => by
    obtain ⟨rfl, rfl, rfl, _⟩ := pure_ok.1 hh
    exact ⟨[], rfl, ⟨Feq.refl _, Heq.refl _⟩, fun j x hx => by simp at hx, fun j x hx => by simp at hx, fun j x hx => by simp at hx⟩
  | o :: l, k, st, logs, f, c, h, f', c', h', L, hl, hk, hh => by
    simp only [regionD] at hh
    obtain ⟨v, c1, h1, l1, l2, hst, hh, _⟩ := bindL_ok.1 hh
    cases hcl : clashAny l1 logs (st.headD []) with
    | true => rw [hcl] at hh; simp only [cond_true] at hh; exact (bad_ok.1 hh).elim
    | false =>
      rw [hcl] at hh
      simp only [cond_false] at hh
      obtain ⟨its, q1, q2, q3, q4, q5⟩ := runs_of_regionD l (k + 1) st.tail (logs ++ [l1]) _ _ _ _ _ _ _ (fun j => by have := hl (j + 1); simpa [Nat.add_assoc, Nat.add_comm 1 j] using this) (by simp [hk]) hh
      refine ⟨⟨k, o, c, c1, l1⟩ :: its, by simp [q1], ⟨v, h1, hst, q2⟩, fun j x hx => ?_, fun j x hx i hi => ?_, fun j x hx hp => ?_⟩
      · cases j with
        | zero => simp only [List.getElem?_cons_zero, Option.some.injEq] at hx; subst hx; exact ⟨rfl, rfl⟩
        | succ j =>
          obtain ⟨e1, e2⟩ := q3 j x (by simpa using hx)
          exact ⟨by rw [e1]; omega, by simpa using e2⟩
      · cases j with
        | zero =>
          simp only [List.getElem?_cons_zero, Option.some.injEq] at hx
          subst hx
          rcases Nat.lt_or_ge i k with hik | hik
          · left
            have hi' : i ∈ st.headD [] := by
              cases st with
              | nil => simp at hi
              | cons s ss => simpa using hi
            have := clashAny_spec hcl i hi'
            rw [List.getD_eq_getElem?_getD, List.getElem?_append_left (by omega), ← List.getD_eq_getElem?_getD]
            exact this
          · right; simpa using hik
        | succ j =>
          have hi' : i ∈ st.tail.getD j [] := by
            cases st with
            | nil => simp at hi
            | cons s ss => simpa using hi
          have := q4 j x (by simpa using hx) i hi'
          rcases this with h | h
          · left; simpa using h
          · right; omega
      · cases j with
        | zero => simp only [List.getElem?_cons_zero, Option.some.injEq] at hx; subst hx; exact pure_logV hp _ _ _ _ _ _ hst
        | succ j => exact q5 j x (by simpa using hx) hp

/-! ## Whatever order -/
section
variable {P : Program} {w0 : World} {F : Nat → Prop} {R : Option Nat}
structure Left (ops : Array Oper) (listed : Array Bool) (its : List It) : Prop where
  here : ∀ x ∈ its, ops[x.i]? = some x.o ∧ listed.getD x.i true = false
  all : ∀ j, listed.getD j true = false → ∃ x ∈ its, x.i = j
  order : its.Pairwise fun a b => a.i < b.i ∧ (Indep ops a b ∨ Anc ops a.i b.i)
  down : Down ops listed
  edges : ∀ x ∈ its, ∀ e ∈ x.o.after, Region.binds .any e = true → listed.getD e.on false = true ∨ (e.on < x.i ∧ ∃ y ∈ its, y.i = e.on)
theorem first_ready {ops : Array Oper} {listed : Array Bool} {x : It} {its : List It} (h : Left ops listed (x :: its)) : x.i ∈ Region.ready .any ops listed := by
  refine mem_ready.2 ⟨(h.here x (by simp)).2, x.o, (h.here x (by simp)).1, fun e he hb => ?_⟩
  rcases h.edges x (by simp) e he hb with h1 | ⟨h1, y, hy, hyi⟩
  · exact h1
  · exfalso
    rcases List.mem_cons.1 hy with rfl | hy
    · omega
    · have := (List.pairwise_cons.1 h.order).1 y hy
      omega
theorem not_listed {listed : Array Bool} {j : Nat} (h : listed.getD j true = false) : listed.getD j false = false ∧ j < listed.size := by
  rcases Nat.lt_or_ge j listed.size with hj | hj
  · simp [hj] at h ⊢; exact h
  · simp [Array.getElem?_eq_none hj] at h
theorem any_sound [Den] [Asm] [AsmOK P] {Fe : Fence} {n : Nat} {r : Rec} {ops : Array Oper} {Q : Exit → Act → World → Prop} (hW : Wd Fe) (hcs : CallSnd P w0 F r) (he : ExecSnd P w0 F r) (hl : RecLocal r) {f' : Fr} {H' : Heap} :
    ∀ (fuel : Nat) (its : List It) (listed : Array Bool) (E : Env) (f : Fr) (H : Heap) (a : Act) (w : World), its.length = fuel → Left ops listed its → Runs P r ops its f H f' H' → FR E Fe.round f a → HR P w0 F E H w →
    (∀ E' a' w', E.le E' → HR P w0 F E' H' w' → FR E' Fe.round f' a' → Q .normal a' w') → wpAnyIn Fe n P .any ops Q fuel listed a w
  | 0, its, listed, E, f, H, a, w, hlen, hleft, hrun, hf, hr, hk => by
    have : its = [] := List.eq_nil_of_length_eq_zero hlen
    subst this
    refine ⟨?_, hk E a w E.le_refl (hr.heq hrun.2) (hf.feq hrun.1)⟩
    cases hrd : Region.ready .any ops listed with
    | nil => rfl
    | cons i is =>
      have hi : i ∈ Region.ready .any ops listed := by rw [hrd]; simp
      obtain ⟨x, hx, _⟩ := hleft.all i (mem_ready.1 hi).1
      cases hx
  | fuel + 1, its, listed, E, f, H, a, w, hlen, hleft, hrun, hf, hr, hk => by
    refine ⟨fun hrd => ?_, fun i hi => ?_⟩
    · cases its with
      | nil => simp at hlen
      | cons x its => have := first_ready hleft; rw [hrd] at this; cases this
    · obtain ⟨hun, oi, hoi, hpre⟩ := mem_ready.1 hi
      obtain ⟨x, hx, hxi⟩ := hleft.all i hun
      obtain ⟨pre, post, rfl⟩ := List.append_of_mem hx
      have hxo : x.o = oi := by
        have := (hleft.here x hx).1
        rw [hxi, hoi] at this; cases this; rfl
      have hord := List.pairwise_append.1 hleft.order
      have hind : ∀ p ∈ pre, Indep ops p x := by
        intro p hp
        rcases (hord.2.2 p hp x (by simp)).2 with h | h
        · exact h
        · exfalso
          have h1 := anc_listed hleft.down h (fun o ho e he hb => by
            rw [hxi, hoi] at ho; cases ho
            exact hpre e he hb)
          have h2 := (not_listed (hleft.here p (by simp [hp])).2).1
          rw [h1] at h2; cases h2
      obtain ⟨v, H1, hst, hrest⟩ := Runs.bubble hl hrun hind
      have hi_lt : i < listed.size := (not_listed hun).2
      have hne : ∀ y ∈ pre ++ post, y.i ≠ i := by
        intro y hy e
        rcases List.mem_append.1 hy with hy | hy
        · have := (hord.2.2 y hy x (by simp)).1; omega
        · have := ((List.pairwise_cons.1 hord.2.1).1 y hy).1; omega
      have hleft' : Left ops (listed.setIfInBounds i true) (pre ++ post) := by
        refine ⟨fun y hy => ?_, fun j hj => ?_, ?_, fun j o hj ho e he hb => ?_, fun y hy e he hb => ?_⟩
        · have hy' : y ∈ pre ++ x :: post := by
            rcases List.mem_append.1 hy with h | h
            · simp [h]
            · simp [h]
          exact ⟨(hleft.here y hy').1, by rw [getD_set_ne true (Ne.symm (hne y hy))]; exact (hleft.here y hy').2⟩
        · have hji : i ≠ j := fun e => by subst e; simp [hi_lt] at hj
          rw [getD_set_ne true hji] at hj
          obtain ⟨y, hy, hyj⟩ := hleft.all j hj
          refine ⟨y, ?_, hyj⟩
          rcases List.mem_append.1 hy with h | h
          · exact List.mem_append_left _ h
          · rcases List.mem_cons.1 h with rfl | h
            · exact absurd (hxi.symm.trans hyj) hji
            · exact List.mem_append_right _ h
        · exact hleft.order.sublist (List.Sublist.append (List.Sublist.refl _) (List.sublist_cons_self _ _))
        · by_cases hji : i = j
          · subst hji
            rw [hoi] at ho; cases ho
            exact getD_set_true (hpre e he hb)
          · rw [getD_set_ne false hji] at hj
            exact getD_set_true (hleft.down j o hj ho e he hb)
        · have hy' : y ∈ pre ++ x :: post := by
            rcases List.mem_append.1 hy with h | h
            · simp [h]
            · simp [h]
          rcases hleft.edges y hy' e he hb with h | ⟨h, z, hz, hze⟩
          · exact .inl (getD_set_true h)
          · by_cases hei : e.on = i
            · left; rw [hei]; simp [hi_lt]
            · right
              refine ⟨h, z, ?_, hze⟩
              rcases List.mem_append.1 hz with h | h
              · exact List.mem_append_left _ h
              · rcases List.mem_cons.1 h with rfl | h
                · exact absurd (hze.symm.trans hxi) hei
                · exact List.mem_append_right _ h
      have hstA : stepN P r ops oi f x.c H = .ok (f.put x.o.dst v) x.c' H1 (.app x.L .nil) := by
        unfold stepN
        rw [← hxo]
        exact bind_ok.2 ⟨v, x.c', H1, x.L, .nil, hst, by rfl, rfl⟩
      refine stepN_sound hW hcs he hoi hstA hf hr fun E1 a1 w1 hle hr1 hf1 => ?_
      exact any_sound hW hcs he hl fuel (pre ++ post) _ E1 _ _ a1 w1 (by simp at hlen ⊢; omega) hleft' hrest hf1 hr1 fun E' a' w' hle' hr' hf' => hk E' a' w' (Env.le_trans hle hle') hr' hf'

theorem draw_sound [Den] [Asm] [AsmOK P] {r : Rec} (hm : P.follows .mixedOrders = true) (hcs : CallSnd P w0 F r) (he : ExecSnd P w0 F r) (hl : RecLocal r) : DrawSnd P w0 F r := by
  intro Fe n id ops Q E H w f f' a c c' H' L hW h hf hr hk
  unfold regionA at h
  simp only [cond_true] at h
  cases hst : statics ops (masks ops.toList []) 0 ops.toList with
  | none => rw [hst] at h; exact (bad_ok.1 h).elim
  | some st =>
    rw [hst] at h
    simp only at h
    obtain ⟨its, q1, q2, q3, q4, q5⟩ := runs_of_regionD ops.toList 0 st [] _ _ _ _ _ _ _ (by simp) rfl h
    have hsp := statics_spec ops.toList 0 st (by simp) hst
    have hma := masks_anc (ops := ops) ops.toList [] (by simp) (fun j p hp => by simp at hp)
    refine wpIn_region_any hm ?_
    refine any_sound hW hcs he hl ops.size its _ E f H a _ (by simpa using q1) ?_ q2 hf (hr.drew _) hk
    have hget : ∀ (j : Nat) x, its[j]? = some x → x.i = j ∧ ops[j]? = some x.o := fun j x hx => by
      obtain ⟨e1, e2⟩ := q3 j x hx
      exact ⟨by omega, by simpa using e2⟩
    refine ⟨fun x hx => ?_, fun j hj => ?_, ?_, fun j o hj => ?_, fun x hx e he hb => ?_⟩
    · obtain ⟨j, hj⟩ := List.mem_iff_getElem?.1 hx
      obtain ⟨e1, e2⟩ := hget j x hj
      rw [e1]
      have : j < ops.size := (Array.getElem?_eq_some_iff.1 e2).1
      exact ⟨e2, by simp [this]⟩
    · have hlt : j < ops.size := by simpa using (not_listed hj).2
      have hlt' : j < its.length := by rw [q1]; simpa using hlt
      exact ⟨its[j], List.getElem_mem hlt', (hget j _ (by simp [hlt'])).1⟩
    · rw [List.pairwise_iff_getElem]
      intro i j hi hj hij
      obtain ⟨e1, e2⟩ := hget i its[i] (by simp [hi])
      obtain ⟨e3, e4⟩ := hget j its[j] (by simp [hj])
      refine ⟨by omega, ?_⟩
      have hs := hsp j its[j].o (by simpa using e4)
      rw [Nat.zero_add] at hs
      rcases hs.apart i its[i].o hij e2 with h1 | ⟨h1, h2⟩
      · right; rw [e1, e3]; exact hma j i h1
      · left
        refine ⟨h1, fun x y hx hy => ?_⟩
        rcases h2 with h2 | h2 | h2
        · exact (q5 i its[i] (by simp [hi]) h2 x hx).elim
        · exact (q5 j its[j] (by simp [hj]) h2 y hy).elim
        · have := q4 j its[j] (by simp [hj]) i h2
          rcases this with h3 | h3
          · refine clash_sem ?_ x y hx hy
            simpa [hi] using h3
          · omega
    · exfalso
      rcases Nat.lt_or_ge j ops.size with h | h
      · simp [h] at hj
      · rw [Array.getD_eq_getD_getElem?, Array.getElem?_eq_none (by simpa using h)] at hj; simp at hj
    · right
      obtain ⟨j, hj⟩ := List.mem_iff_getElem?.1 hx
      obtain ⟨e1, e2⟩ := hget j x hj
      have hs := hsp j x.o (by simpa using e2)
      rw [Nat.zero_add] at hs
      have hlt := hs.edges e he hb
      refine ⟨by omega, ?_⟩
      have hjl : j < ops.size := (Array.getElem?_eq_some_iff.1 e2).1
      have hlt' : e.on < its.length := by rw [q1]; simp; omega
      exact ⟨its[e.on], List.getElem_mem hlt', (hget e.on _ (by simp [hlt'])).1⟩
end
end Go.Sx

import Derived.Test.YthandoangkckmaaGreatDoorSx40
namespace Go.Sx

/-! ## More fuel does no harm -/
def Le {α : Type} (m m' : M α) : Prop := ∀ c h a c' h' L, m c h = .ok a c' h' L → m' c h = .ok a c' h' L
theorem Le.refl {α : Type} (m : M α) : Le m m := fun _ _ _ _ _ _ h => h
theorem Le.trans {α : Type} {a b d : M α} (h1 : Le a b) (h2 : Le b d) : Le a d := fun _ _ _ _ _ _ h => h2 _ _ _ _ _ _ (h1 _ _ _ _ _ _ h)
theorem Le.bad {α : Type} (n : Nat) (m : M α) : Le (M.bad n) m := fun _ _ _ _ _ _ h => (bad_ok.1 h).elim
theorem Le.bindL {α β : Type} {m m' : M α} {f f' : α → Lg → M β} (hm : Le m m') (hf : ∀ a l, Le (f a l) (f' a l)) : Le (Sx.bindL m f) (Sx.bindL m' f') := by
  intro c h b c' h' L hh
  obtain ⟨a, c1, h1, l1, l2, h2, h3, rfl⟩ := bindL_ok.1 hh
  exact bindL_ok.2 ⟨a, c1, h1, l1, l2, hm _ _ _ _ _ _ h2, hf _ _ _ _ _ _ _ _ h3, rfl⟩
theorem Le.bind {α β : Type} {m m' : M α} {f f' : α → M β} (hm : Le m m') (hf : ∀ a, Le (f a) (f' a)) : Le (M.bind m f) (M.bind m' f') :=
  Le.bindL (f := fun a _ => f a) (f' := fun a _ => f' a) hm (fun a _ => hf a)
theorem Le.ite {α : Type} {b : Bool} {x x' y y' : M α} (hx : Le x x') (hy : Le y y') : Le (bif b then x else y) (bif b then x' else y') := by cases b; exact hy; exact hx
structure RecLe (r r' : Rec) : Prop where
  exec : ∀ c f, Le (r.exec c f) (r'.exec c f)
  call : ∀ g a, Le (r.call g a) (r'.call g a)
theorem Le.yieldA {r r' : Rec} (hr : RecLe r r') (l : Nat) (args : List Value) : Le (yieldA r l args) (yieldA r' l args) := by
  unfold Sx.yieldA
  refine Le.bind (Le.refl _) fun _ => Le.bind (Le.refl _) fun _ => Le.bind (hr.exec _ _) fun x => ?_
  obtain ⟨e, f1⟩ := x
  cases e <;> simp only <;> first | exact Le.refl _ | skip
  refine Le.bind (Le.refl _) fun y => ?_
  cases y.st <;> simp only <;> first | exact Le.refl _ | skip
  refine Le.bind (Le.refl _) fun _ => Le.bind (hr.exec _ _) fun z => ?_
  exact Le.refl _
theorem Le.callV {r r' : Rec} (hr : RecLe r r') (v : Value) (args : List Value) : Le (callV r v args) (callV r' v args) := by
  unfold Sx.callV
  split
  · exact hr.call _ _
  · exact Le.ite (Le.yieldA hr _ _) (Le.refl _)
  · exact Le.refl _
theorem Le.callF {r r' : Rec} (hr : RecLe r r') (v : Value) (args : List Value) : Le (callF r v args) (callF r' v args) := by
  unfold Sx.callF
  split
  · exact hr.call _ _
  · exact Le.refl _
theorem Le.rangeA {r r' : Rec} (hr : RecLe r r') (g : Value) (ps : List Tmp) (a b : Code) (f : Fr) : Le (rangeA r g ps a b f) (rangeA r' g ps a b f) := by
  unfold Sx.rangeA
  refine Le.bind (Le.refl _) fun x => ?_
  obtain ⟨d, mark⟩ := x
  refine Le.bind (Le.refl _) fun _ => Le.bind (Le.callF hr _ _) fun _ => Le.bind (Le.refl _) fun x => ?_
  cases x.st <;> simp only <;> first | exact Le.refl _ | skip
  all_goals
    refine Le.bind (Le.refl _) fun _ => ?_
    cases x.pend <;> simp only <;> first | exact Le.refl _ | exact hr.exec _ _
theorem Le.opA [Asm] {P : Program} {r r' : Rec} (hr : RecLe r r') (f : Fr) (o : Oper) : Le (opA P r f o) (opA P r' f o) := by
  unfold Sx.opA
  generalize o.op = op
  cases op <;> first | exact Le.refl _ | skip
  case makeMap t x => cases x <;> exact Le.refl _
  case call c =>
    simp only [oCall]
    cases c.callee <;> simp only <;> first | exact Le.refl _ | skip
    exact Le.bind (Le.refl _) fun _ => Le.bind (Le.refl _) fun _ => Le.callV hr _ _
theorem Le.stepV [Asm] {P : Program} {r r' : Rec} (hr : RecLe r r') (ops : Array Oper) (o : Oper) (f : Fr) : Le (stepV P r ops o f) (stepV P r' ops o f) := by
  unfold Sx.stepV
  split
  · exact Le.ite (Le.opA hr f o) (Le.refl _)
  · exact Le.refl _
theorem Le.stepA [Asm] {P : Program} {r r' : Rec} (hr : RecLe r r') (ops : Array Oper) (o : Oper) (f : Fr) : Le (stepA P r ops o f) (stepA P r' ops o f) := by
  unfold Sx.stepA
  cases isDefer o with
  | some c => exact Le.refl _
  | none => exact Le.bind (Le.stepV hr ops o f) fun _ => Le.refl _
theorem Le.regionL [Asm] {P : Program} {r r' : Rec} (hr : RecLe r r') (ops : Array Oper) : ∀ (l : List Oper) (f : Fr), Le (regionL P r ops l f) (regionL P r' ops l f)
  | [], _ => Le.refl _
  | o :: l, f => Le.bind (Le.stepA hr ops o f) fun f' => Le.regionL hr ops l f'
theorem Le.regionD [Asm] {P : Program} {r r' : Rec} (hr : RecLe r r') (ops : Array Oper) : ∀ (l : List Oper) (st : List (List Nat)) (logs : List Lg) (f : Fr), Le (regionD P r ops l st logs f) (regionD P r' ops l st logs f)
  | [], _, _, _ => Le.refl _
  | o :: l, _st, _logs, f => Le.bindL (Le.stepV hr ops o f) fun _v _l' => Le.ite (Le.refl _) (Le.regionD hr ops l _ _ _)
theorem Le.regionA [Asm] {P : Program} {r r' : Rec} (hr : RecLe r r') (ops : Array Oper) (d : Bool) (f : Fr) : Le (regionA P r ops d f) (regionA P r' ops d f) := by
  unfold Sx.regionA
  refine Le.ite ?_ (Le.regionL hr ops _ f)
  split
  · exact Le.refl _
  · exact Le.regionD hr ops _ _ _ _
theorem Le.execS [Asm] {P : Program} {r r' : Rec} (hr : RecLe r r') (c : Code) (f : Fr) : Le (execS P r c f) (execS P r' c f) := by
  cases c <;> simp only [Sx.execS] <;> first | exact Le.refl _ | skip
  case region => exact Le.bind (Le.regionA hr _ _ _) fun _ => Le.refl _
  case seq a b =>
    refine Le.bind (hr.exec _ _) fun x => ?_
    obtain ⟨e, f1⟩ := x
    cases e <;> simp only <;> first | exact Le.refl _ | exact hr.exec _ _
  case cond =>
    refine Le.bind (Le.refl _) fun v => ?_
    split
    · exact Le.ite (hr.exec _ _) (hr.exec _ _)
    · exact Le.refl _
  case block => exact Le.bind (hr.exec _ _) fun x => Le.refl _
  case loop =>
    refine Le.bind (hr.exec _ _) fun x => ?_
    obtain ⟨e, f1⟩ := x
    cases e <;> simp only <;> first | exact Le.refl _ | exact hr.exec _ _
  case scope => exact Le.bind (hr.exec _ _) fun x => Le.refl _
  case rangeFunc => exact Le.bind (Le.refl _) fun _ => Le.rangeA hr _ _ _ _ _
theorem Le.execR [Asm] {P : Program} {r r' : Rec} (hr : RecLe r r') : ∀ (c : Code) (f : Fr), Le (execR P r c f) (execR P r' c f)
  | .seq a b, f => by
    refine Le.bind (Le.execR hr a f) fun x => ?_
    obtain ⟨e, f1⟩ := x
    cases e <;> first | exact Le.refl _ | exact hr.exec _ _
  | .region id ops draw, f => by
    simp only [Sx.execR]
    cases recIn draw ops.toList with
    | some p => exact Le.bind (Le.regionL hr _ _ _) fun _ => Le.refl _
    | none => exact hr.exec _ _
  | .skip, _ => hr.exec _ _
  | .cond _ _ _, _ => hr.exec _ _
  | .block _ _, _ => hr.exec _ _
  | .loop _, _ => hr.exec _ _
  | .rangeFunc _ _ _ _, _ => hr.exec _ _
  | .exit _, _ => hr.exec _ _
  | .scope _, _ => hr.exec _ _
  | .label _, _ => hr.exec _ _
  | .goto _, _ => hr.exec _ _
  | .ret, _ => hr.exec _ _
  | .refuse _, _ => hr.exec _ _
theorem Le.callD [Asm] {P : Program} {r r' : Rec} (hr : RecLe r r') (g : FuncId) (args : List Value) : Le (callD P r g args) (callD P r' g args) := by
  unfold Sx.callD
  split
  · exact Le.refl _
  · refine Le.ite (Le.refl _) ?_
    split
    · exact Le.refl _
    · exact Le.bind (Le.execR hr _ _) fun x => Le.refl _
theorem Le.leave [Asm] {P : Program} {r r' : Rec} (hr : RecLe r r') : ∀ (ds : List Df), Le (leave P r ds) (leave P r' ds)
  | [] => Le.refl _
  | .mark _ :: ds => Le.bind (Le.refl _) fun _ => Le.leave hr ds
  | .call _ _ _ :: ds => Le.bind (Le.callD hr _ _) fun _ => Le.leave hr ds
theorem Le.callS [Asm] {P : Program} {tbl : Tbl} {r r' : Rec} (hr : RecLe r r') (g : FuncId) (args : List Value) : Le (callS P tbl r g args) (callS P tbl r' g args) := by
  unfold Sx.callS
  split
  · exact Le.refl _
  · split
    · exact Le.refl _
    · refine Le.ite (Le.refl _) ?_
      split
      · exact Le.refl _
      · refine Le.bind (hr.exec _ _) fun x => ?_
        obtain ⟨e, f1⟩ := x
        cases e <;> first | exact Le.refl _ | exact Le.bind (Le.leave hr _) fun _ => Le.refl _
theorem bad_le (r : Rec) : RecLe badRec r := ⟨fun _ _ => Le.bad _ _, fun _ _ => Le.bad _ _⟩
theorem RecLe.refl (r : Rec) : RecLe r r := ⟨fun _ _ => Le.refl _, fun _ _ => Le.refl _⟩
theorem RecLe.trans {a b d : Rec} (h1 : RecLe a b) (h2 : RecLe b d) : RecLe a d := ⟨fun c f => (h1.exec c f).trans (h2.exec c f), fun g x => (h1.call g x).trans (h2.call g x)⟩
theorem rec_succ [Asm] (P : Program) (tbl : Tbl) : ∀ n, RecLe (rec P tbl n) (rec P tbl (n + 1))
  | 0 => bad_le _
  | n + 1 => ⟨fun c f => Le.execS (rec_succ P tbl n) c f, fun g a => Le.callS (rec_succ P tbl n) g a⟩
theorem rec_le [Asm] (P : Program) (tbl : Tbl) {n m : Nat} (h : n ≤ m) : RecLe (rec P tbl n) (rec P tbl m) := by
  induction h with
  | refl => exact RecLe.refl _
  | step _ ih => exact ih.trans (rec_succ P tbl _)

/-! ## The machine -/
inductive MI where
  | seq (b : Code)
  | blk (id : Nat)
  | lp (b : Code)
  | scp
  | ops (all : Array Oper) (rest : List Oper) (dst : Option Tmp) (f : Fr)
  | opsd (all : Array Oper) (rest : List Oper) (st : List (List Nat)) (logs : List Lg) (dst : Option Tmp) (f : Fr)
  | fn (g : Func)
  | yl1 (l : Nat) (body : Code)
  | yl2 (l : Nat)
  | rng (l : Nat) (f : Fr)
inductive MM where
  | code (c : Code) (f : Fr)
  | reg (all : Array Oper) (rest : List Oper) (f : Fr)
  | regd (all : Array Oper) (rest : List Oper) (st : List (List Nat)) (logs : List Lg) (f : Fr)
  | done (x : Exit) (f : Fr)
  | val (v : Value)

noncomputable section
def yEnd (l : Nat) (e : Exit) : M Value := match jumpOf e with
  | some none => M.bind (lpSet l .ready none) fun _ => M.pure (.bool true)
  | some j => M.bind (lpSet l .done j) fun _ => M.pure (.bool false)
  | none => M.bad 377
/-- What is yet to be done behind a mode, and then the stack. -/
def fin [Asm] (P : Program) (r : Rec) : List MI → MM → M Value
  | [], .val v => M.pure v
  | .seq b :: k, .done x f => (match x with
    | .normal => M.bind (r.exec b f) fun y => fin P r k (.done y.1 y.2)
    | x => fin P r k (.done x f))
  | .blk id :: k, .done x f => (match x with
    | .exit id' => fin P r k (.done (bif Nat.beq id' id then .normal else .exit id') f)
    | x => fin P r k (.done x f))
  | .lp b :: k, .done x f => (match x with
    | .normal => M.bind (r.exec (.loop b) f) fun y => fin P r k (.done y.1 y.2)
    | x => fin P r k (.done x f))
  | .scp :: k, .done x f => (match x with
    | .goto _ => M.bad 602
    | x => fin P r k (.done x f))
  | .fn g :: k, .done x f => (match x with
    | .normal => M.bind (leave P r f.ds) fun _ => M.bind (resultsA P g f) fun v => fin P r k (.val v)
    | .ret => M.bind (leave P r f.ds) fun _ => M.bind (resultsA P g f) fun v => fin P r k (.val v)
    | _ => M.bad 613)
  | .yl1 l body :: k, .done x f => (match x with
    | .normal => M.bind (lpGet l) fun y => (match y.st with
      | .ready => M.bind (lpSet l .busy y.pend) fun _ => M.bind (r.exec body f) fun z => M.bind (yEnd l z.1) fun v => fin P r k (.val v)
      | _ => M.bad 378)
    | _ => M.bad 379)
  | .yl2 l :: k, .done x _ => M.bind (yEnd l x) fun v => fin P r k (.val v)
  | .ops all rest dst f :: k, .val v => M.bind (regionL P r all rest (f.put dst v)) fun f' => fin P r k (.done .normal f')
  | .opsd all rest st logs dst f :: k, .val v => M.bind (regionD P r all rest st logs (f.put dst v)) fun f' => fin P r k (.done .normal f')
  | .rng l f :: k, .val _ => M.bind (lpGet l) fun x => (match x.st with
    | .busy => M.bad 604
    | _ => M.bind (lpSet l .exhausted x.pend) fun _ => (match x.pend with
      | none => fin P r k (.done .normal f)
      | some c => M.bind (r.exec c f) fun y => fin P r k (.done y.1 y.2)))
  | _, _ => M.bad 900
def den [Asm] (P : Program) (r : Rec) (k : List MI) : MM → M Value
  | .code c f => M.bind (r.exec c f) fun y => fin P r k (.done y.1 y.2)
  | .reg all rest f => M.bind (regionL P r all rest f) fun f' => fin P r k (.done .normal f')
  | .regd all rest st logs f => M.bind (regionD P r all rest st logs f) fun f' => fin P r k (.done .normal f')
  | m => fin P r k m

def enter (P : Program) (tbl : Tbl) (g : FuncId) (args : List Value) (k : List MI) : M (MM × List MI) := match tbl g with
  | some m => M.bind (m args) fun v => M.pure (.val v, k)
  | none => match nthL P.funcs.toList g with
    | none => M.bad 610
    | some fn => bif fn.name == "runtime.NumGoroutine" then M.bad 611 else match fn.body with
      | none => M.bad 612
      | some c => M.pure (.code c (Fr.init args (args.length + (fn.ntmps - args.length))), .fn fn :: k)
def callK (P : Program) (tbl : Tbl) (v : Value) (args : List Value) (k : List MI) : M (MM × List MI) := match v with
  | .func (.func g) first captured => enter P tbl g (first.toList ++ args ++ captured.toList) k
  | .func (.yield l) first captured => bif Nat.beq first.size 0 && Nat.beq captured.size 0 then
      M.bind (lpGet l) fun x => M.bind (guardM 376 (Nat.beq args.length x.ps.length)) fun _ => M.pure (.code x.assign (Fr.puts ⟨x.f.t, x.f.n, some l, []⟩ x.ps args), .yl1 l x.body :: k) else M.bad 369
  | _ => M.bad 370
def regK [Asm] (P : Program) (tbl : Tbl) (all : Array Oper) (o : Oper) (rest : List Oper) (f : Fr) (k : List MI) : M (MM × List MI) := match o.op with
  | .call c => (match c.callee with
    | .value g => M.bind (f.eval g) fun v => M.bind (evalL f c.args.toList) fun args => callK P tbl v args (.ops all rest o.dst f :: k)
    | _ => M.bind (opA P badRec f o) fun v => M.pure (.reg all rest (f.put o.dst v), k))
  | _ => M.bind (opA P badRec f o) fun v => M.pure (.reg all rest (f.put o.dst v), k)
/-- Is the operation number i held against a later one? -/
def needB (i : Nat) (st : List (List Nat)) : Bool := st.any fun s => s.any (Nat.beq i)
/-- A call that nothing is held against, and that is held against nothing. -/
def freeC [Asm] (all : Array Oper) (o : Oper) (st : List (List Nat)) (i : Nat) (f : Fr) : Option (Operand × List Operand) := match o.op with
  | .call c => (match c.callee with
    | .value g => bif (st.headD []).isEmpty && !(needB i st.tail) then (match wantedA all f o with
      | some true => some (g, c.args.toList)
      | _ => none) else none
    | _ => none)
  | _ => none
def keepL (b : Bool) (l : Lg) : Lg := bif b then l else .nil
def regdK [Asm] (P : Program) (tbl : Tbl) (N : Nat) (all : Array Oper) (o : Oper) (rest : List Oper) (st : List (List Nat)) (logs : List Lg) (f : Fr) (k : List MI) : M (MM × List MI) := match freeC all o st (lenL logs) f with
  | some (g, xs) => M.bind (f.eval g) fun v => M.bind (evalL f xs) fun args => callK P tbl v args (.opsd all rest st.tail (logs ++ [.nil]) o.dst f :: k)
  | none => bindL (stepV P (rec P tbl N) all o f) fun v l => bif clashAny l logs (st.headD []) then M.bad 501 else M.pure (.regd all rest st.tail (logs ++ [keepL (needB (lenL logs) st.tail) l]) (f.put o.dst v), k)
def mstep [Asm] (P : Program) (tbl : Tbl) (N : Nat) : MM → List MI → M (MM × List MI)
  | .code c f, k => (match c with
    | .skip => M.pure (.done .normal f, k)
    | .label _ => M.pure (.done .normal f, k)
    | .region _ ops draw => bif draw then (match statics ops (masks ops.toList []) 0 ops.toList with
        | none => M.bad 502
        | some st => bif st.all List.isEmpty && ops.toList.all (fun o => (isDefer o).isNone) then M.pure (.reg ops ops.toList f, k) else M.pure (.regd ops ops.toList st [] f, k))
      else M.pure (.reg ops ops.toList f, k)
    | .seq a b => M.pure (.code a f, .seq b :: k)
    | .cond c a b => M.bind (f.eval c) fun v => (match truth v with
      | some t => bif t then M.pure (.code a f, k) else M.pure (.code b f, k)
      | none => M.bad 601)
    | .block id b => M.pure (.code b f, .blk id :: k)
    | .loop b => M.pure (.code b f, .lp b :: k)
    | .exit id => M.pure (.done (.exit id) f, k)
    | .ret => M.pure (.done .ret f, k)
    | .scope b => M.pure (.code b f, .scp :: k)
    | .rangeFunc g ps assign body => M.bind (f.eval g) fun v => M.bind (enterA f) fun p => M.bind (newA (.loop .ready none f ps.toList assign body p.1)) fun l => (match v with
      | .func (.func g) first captured => enter P tbl g (first.toList ++ [.func (.yield l) #[] #[]] ++ captured.toList) (.rng l ⟨f.t, f.n, f.ro, p.2 ++ f.ds⟩ :: k)
      | _ => M.bad 605)
    | _ => M.bad 603)
  | .reg all l f, k => (match l with
    | [] => M.pure (.done .normal f, k)
    | o :: rest => (match isDefer o with
      | some c => M.bind (stepD o c f) fun f' => M.pure (.reg all rest f', k)
      | none => (match wantedA all f o with
        | some b => bif b then regK P tbl all o rest f k else M.pure (.reg all rest (f.put o.dst undef), k)
        | none => M.bad 204)))
  | .regd all l st logs f, k => (match l with
    | [] => M.pure (.done .normal f, k)
    | o :: rest => regdK P tbl N all o rest st logs f k)
  | .done x f, k => (match k with
    | .seq b :: k => (match x with
      | .normal => M.pure (.code b f, k)
      | x => M.pure (.done x f, k))
    | .blk id :: k => (match x with
      | .exit id' => M.pure (.done (bif Nat.beq id' id then .normal else .exit id') f, k)
      | x => M.pure (.done x f, k))
    | .lp b :: k => (match x with
      | .normal => M.pure (.code (.loop b) f, k)
      | x => M.pure (.done x f, k))
    | .scp :: k => (match x with
      | .goto _ => M.bad 602
      | x => M.pure (.done x f, k))
    | .fn g :: k => (match x with
      | .normal => M.bind (leave P (rec P tbl N) f.ds) fun _ => M.bind (resultsA P g f) fun v => M.pure (.val v, k)
      | .ret => M.bind (leave P (rec P tbl N) f.ds) fun _ => M.bind (resultsA P g f) fun v => M.pure (.val v, k)
      | _ => M.bad 613)
    | .yl1 l body :: k => (match x with
      | .normal => M.bind (lpGet l) fun y => (match y.st with
        | .ready => M.bind (lpSet l .busy y.pend) fun _ => M.pure (.code body f, .yl2 l :: k)
        | _ => M.bad 378)
      | _ => M.bad 379)
    | .yl2 l :: k => M.bind (yEnd l x) fun v => M.pure (.val v, k)
    | _ => M.bad 901)
  | .val v, k => (match k with
    | .ops all rest dst f :: k => M.pure (.reg all rest (f.put dst v), k)
    | .opsd all rest st logs dst f :: k => M.pure (.regd all rest st logs (f.put dst v), k)
    | .rng l f :: k => M.bind (lpGet l) fun x => (match x.st with
      | .busy => M.bad 604
      | _ => M.bind (lpSet l .exhausted x.pend) fun _ => (match x.pend with
        | none => M.pure (.done .normal f, k)
        | some c => M.pure (.code c f, k)))
    | _ => M.bad 902)
end
end Go.Sx

import Derived.Test.YthandoangkckmaaGreatDoorSx42
namespace Go.Sx
section
variable [Asm] {P : Program} {tbl : Tbl}
theorem ok_call {n : Nat} {gid : FuncId} {args : List Value} {v : Value} {c c' : Nat} {h h' : Heap} (hh : OK (callS P tbl (rec P tbl n) gid args) c h v c' h') : OK ((rec P tbl (n + 1)).call gid args) c h v c' h' := hh
/-- A call that is entered: what is behind it sees the value. -/
theorem enter_sound2 {gid : FuncId} {args : List Value} {k k1 : List MI} {m1 : MM} {c c1 c' n : Nat} {h h1 h' : Heap} {v : Value} (hs : OK (enter P tbl gid args k) c h (m1, k1) c1 h1) (hd : OK (den P (rec P tbl n) k1 m1) c1 h1 v c' h') :
    ∃ v2 c2 h2, OK ((rec P tbl (n + 1)).call gid args) c h v2 c2 h2 ∧ OK (fin P (rec P tbl n) k (.val v2)) c2 h2 v c' h' := by
  unfold enter at hs
  cases ht : tbl gid with
  | some m =>
    rw [ht] at hs
    obtain ⟨v2, c5, h5, q1, q2⟩ := OK_bind.1 hs
    obtain ⟨e1, rfl, rfl⟩ := OK_pure.1 q2
    cases e1
    refine ⟨v2, _, _, ok_call ?_, hd⟩
    unfold callS
    rw [ht]; exact q1
  | none =>
    rw [ht] at hs
    simp only at hs
    cases hfn : nthL P.funcs.toList gid with
    | none => rw [hfn] at hs; exact (OK_bad.1 hs).elim
    | some fn =>
      rw [hfn] at hs
      simp only at hs
      cases hnm : (fn.name == "runtime.NumGoroutine") with
      | true => rw [hnm] at hs; simp only [cond_true] at hs; exact (OK_bad.1 hs).elim
      | false =>
        rw [hnm] at hs
        simp only [cond_false] at hs
        cases hb : fn.body with
        | none => rw [hb] at hs; exact (OK_bad.1 hs).elim
        | some cd =>
          rw [hb] at hs
          obtain ⟨e1, rfl, rfl⟩ := OK_pure.1 hs
          cases e1
          obtain ⟨⟨x, f1⟩, c5, h5, q1, q2⟩ := OK_bind.1 hd
          have fin2 : OK (M.bind (leave P (rec P tbl n) f1.ds) fun _ => M.bind (resultsA P fn f1) fun v => fin P (rec P tbl n) k (.val v)) c5 h5 v c' h' → (x = .normal ∨ x = .ret) →
              ∃ v2 c2 h2, OK ((rec P tbl (n + 1)).call gid args) c1 h1 v2 c2 h2 ∧ OK (fin P (rec P tbl n) k (.val v2)) c2 h2 v c' h' := by
            intro q2 hx
            obtain ⟨w, c6, h6, q3, q4⟩ := OK_bind.1 q2
            obtain ⟨v2, c7, h7, q5, q6⟩ := OK_bind.1 q4
            refine ⟨v2, _, _, ok_call ?_, q6⟩
            unfold callS
            rw [ht]
            simp only [hfn, hnm, cond_false, hb]
            refine OK_bind.2 ⟨_, _, _, q1, ?_⟩
            rcases hx with rfl | rfl <;> exact OK_bind.2 ⟨w, _, _, q3, q5⟩
          cases x <;> first
            | exact (OK_bad.1 q2).elim
            | exact fin2 q2 (.inl rfl)
            | exact fin2 q2 (.inr rfl)
theorem callK_sound {g : Value} {args : List Value} {k k1 : List MI} {m1 : MM} {c c1 c' n : Nat} {h h1 h' : Heap} {v : Value} (hs : OK (callK P tbl g args k) c h (m1, k1) c1 h1) (hd : OK (den P (rec P tbl n) k1 m1) c1 h1 v c' h') :
    ∃ v2 c2 h2, OK (callV (rec P tbl (n + 1)) g args) c h v2 c2 h2 ∧ OK (fin P (rec P tbl n) k (.val v2)) c2 h2 v c' h' := by
  unfold callK at hs
  split at hs
  · exact enter_sound2 hs hd
  · rename_i l first captured
    cases hg : (Nat.beq first.size 0 && Nat.beq captured.size 0) with
    | false => rw [hg] at hs; simp only [cond_false] at hs; exact (OK_bad.1 hs).elim
    | true =>
      rw [hg] at hs
      simp only [cond_true] at hs
      obtain ⟨x, c2, h2, q1, q2⟩ := OK_bind.1 hs
      obtain ⟨w, c3, h3, q3, q4⟩ := OK_bind.1 q2
      obtain ⟨e1, rfl, rfl⟩ := OK_pure.1 q4
      cases e1
      obtain ⟨⟨e, f1⟩, c4, h4, q5, q6⟩ := OK_bind.1 hd
      cases e <;> (try exact (OK_bad.1 q6).elim)
      obtain ⟨y, c5, h5, q7, q8⟩ := OK_bind.1 q6
      cases hst : y.st <;> rw [hst] at q8 <;> (try exact (OK_bad.1 q8).elim)
      obtain ⟨w2, c6, h6, q9, q10⟩ := OK_bind.1 q8
      obtain ⟨⟨e2, f2⟩, c7, h7, q11, q12⟩ := OK_bind.1 q10
      obtain ⟨v2, c8, h8, q13, q14⟩ := OK_bind.1 q12
      refine ⟨v2, _, _, ?_, q14⟩
      unfold callV
      simp only [hg, cond_true]
      unfold yieldA
      refine OK_bind.2 ⟨x, _, _, q1, OK_bind.2 ⟨w, _, _, q3, OK_bind.2 ⟨(.normal, f1), _, _, ok_exec (Nat.le_succ n) q5, ?_⟩⟩⟩
      refine OK_bind.2 ⟨y, _, _, q7, ?_⟩
      rw [hst]
      exact OK_bind.2 ⟨w2, _, _, q9, OK_bind.2 ⟨(e2, f2), _, _, ok_exec (Nat.le_succ n) q11, q13⟩⟩
  · exact (OK_bad.1 hs).elim
theorem reg_step {n : Nat} {all : Array Oper} {o : Oper} {rest : List Oper} {f : Fr} {k : List MI} {v u : Value} {c c1 c' : Nat} {h h1 h' : Heap} (hdf : isDefer o = none) (hw : wantedA all f o = some true) (ho : OK (opA P (rec P tbl n) f o) c h u c1 h1)
    (hd : OK (den P (rec P tbl n) k (.reg all rest (f.put o.dst u))) c1 h1 v c' h') : OK (den P (rec P tbl n) k (.reg all (o :: rest) f)) c h v c' h' := by
  obtain ⟨f1, c2, h2, q1, q2⟩ := OK_bind.1 hd
  refine OK_bind.2 ⟨f1, _, _, OK_bind.2 ⟨f.put o.dst u, _, _, ?_, q1⟩, q2⟩
  unfold stepA
  rw [hdf]
  refine OK_bind.2 ⟨u, _, _, ?_, OK_pure.2 ⟨rfl, rfl, rfl⟩⟩
  unfold stepV
  rw [hw]
  exact ho
theorem mstep_sound {N : Nat} {m m1 : MM} {k k1 : List MI} {c c1 c' n : Nat} {h h1 h' : Heap} {v : Value} (hs : OK (mstep P tbl N m k) c h (m1, k1) c1 h1) (hd : OK (den P (rec P tbl n) k1 m1) c1 h1 v c' h') :
    ∃ n', OK (den P (rec P tbl n') k m) c h v c' h' := by
  cases m with
  | code cd f => exact exec_sound hs hd
  | reg all l f =>
    cases l with
    | nil =>
      obtain ⟨e1, rfl, rfl⟩ := OK_pure.1 hs
      cases e1
      exact ⟨n, OK_bind.2 ⟨_, _, _, OK_pure.2 ⟨rfl, rfl, rfl⟩, hd⟩⟩
    | cons o rest =>
      simp only [mstep] at hs
      cases hdf : isDefer o with
      | some cl =>
        rw [hdf] at hs
        obtain ⟨f2, c2, h2, q1, q2⟩ := OK_bind.1 hs
        obtain ⟨e1, rfl, rfl⟩ := OK_pure.1 q2
        cases e1
        obtain ⟨f1, c3, h3, q3, q4⟩ := OK_bind.1 hd
        refine ⟨n, OK_bind.2 ⟨f1, _, _, OK_bind.2 ⟨f2, _, _, ?_, q3⟩, q4⟩⟩
        unfold stepA
        rw [hdf]; exact q1
      | none =>
      rw [hdf] at hs
      simp only at hs
      cases hw : wantedA all f o with
      | none => rw [hw] at hs; exact (OK_bad.1 hs).elim
      | some b =>
        rw [hw] at hs
        cases b with
        | false =>
          simp only [cond_false] at hs
          obtain ⟨e1, rfl, rfl⟩ := OK_pure.1 hs
          cases e1
          obtain ⟨f1, c2, h2, q1, q2⟩ := OK_bind.1 hd
          refine ⟨n, OK_bind.2 ⟨f1, _, _, OK_bind.2 ⟨f.put o.dst undef, _, _, ?_, q1⟩, q2⟩⟩
          unfold stepA
          rw [hdf]
          refine OK_bind.2 ⟨undef, _, _, ?_, OK_pure.2 ⟨rfl, rfl, rfl⟩⟩
          unfold stepV
          rw [hw]
          exact OK_pure.2 ⟨rfl, rfl, rfl⟩
        | true =>
          simp only [cond_true] at hs
          have plain : OK (M.bind (opA P badRec f o) fun v => M.pure (MM.reg all rest (f.put o.dst v), k)) c h (m1, k1) c1 h1 → ∃ n', OK (den P (rec P tbl n') k (.reg all (o :: rest) f)) c h v c' h' := by
            intro hs
            obtain ⟨u, c2, h2, q1, q2⟩ := OK_bind.1 hs
            obtain ⟨e1, rfl, rfl⟩ := OK_pure.1 q2
            cases e1
            exact ⟨n, reg_step hdf hw (OK.le (Le.opA (bad_le _) f o) q1) hd⟩
          unfold regK at hs
          split at hs
          · rename_i cl ho
            split at hs
            · rename_i g hcl
              obtain ⟨u, c2, h2, q1, q2⟩ := OK_bind.1 hs
              obtain ⟨args, c3, h3, q3, q4⟩ := OK_bind.1 q2
              obtain ⟨v2, c4, h4, q5, q6⟩ := callK_sound q4 hd
              refine ⟨n + 1, reg_step (u := v2) hdf hw ?_ (ok_den (Nat.le_succ n) q6)⟩
              unfold opA
              rw [ho]
              simp only [oCall, hcl]
              exact OK_bind.2 ⟨u, _, _, q1, OK_bind.2 ⟨args, _, _, q3, q5⟩⟩
            · exact plain hs
          · exact plain hs
  | regd all l st logs f =>
    cases l with
    | nil =>
      obtain ⟨e1, rfl, rfl⟩ := OK_pure.1 hs
      cases e1
      exact ⟨n, OK_bind.2 ⟨_, _, _, OK_pure.2 ⟨rfl, rfl, rfl⟩, hd⟩⟩
    | cons o rest =>
      simp only [mstep] at hs
      unfold regdK at hs
      split at hs
      · rename_i g xs hfc
        unfold freeC at hfc
        split at hfc
        · rename_i cl ho
          split at hfc
          · rename_i g2 hcl
            cases hb : ((st.headD []).isEmpty && !(needB (lenL logs) st.tail)) with
            | false => rw [hb] at hfc; cases hfc
            | true =>
              rw [hb] at hfc
              simp only [cond_true] at hfc
              simp only [Bool.and_eq_true, List.isEmpty_iff, Bool.not_eq_true'] at hb
              split at hfc
              · rename_i hw
                cases hfc
                obtain ⟨u, c2, h2, q1, q2⟩ := OK_bind.1 hs
                obtain ⟨args, c3, h3, q3, q4⟩ := OK_bind.1 q2
                obtain ⟨v2, c4, h4, q5, q6⟩ := callK_sound q4 hd
                obtain ⟨f1, c5, h5, q7, q8⟩ := OK_bind.1 q6
                have hop : OK (stepV P (rec P tbl (n + 1)) all o f) c h v2 c4 h4 := by
                  unfold stepV
                  rw [hw]
                  unfold opA
                  rw [ho]
                  simp only [cond_true, oCall, hcl]
                  exact OK_bind.2 ⟨u, _, _, q1, OK_bind.2 ⟨args, _, _, q3, q5⟩⟩
                obtain ⟨L, hop⟩ := hop
                obtain ⟨L2, q9⟩ := OK.le (Le.regionD (rec_le P tbl (Nat.le_succ n)) all rest st.tail (logs ++ [L]) (f.put o.dst v2)) (regionD_last (b := L) (.inl hb.2) q7)
                refine ⟨n + 1, OK_bind.2 ⟨f1, _, _, ⟨_, bindL_ok.2 ⟨v2, _, _, L, L2, hop, ?_, rfl⟩⟩, ok_fin (Nat.le_succ n) q8⟩⟩
                rw [hb.1]
                exact q9
              · cases hfc
          · cases hfc
        · cases hfc
      · obtain ⟨L0, hs⟩ := hs
        obtain ⟨v2, c2, h2, l1, l2, k1, k2, _⟩ := bindL_ok.1 hs
        cases hc : clashAny l1 logs (st.headD []) with
        | true => rw [hc] at k2; simp only [cond_true] at k2; exact (bad_ok.1 k2).elim
        | false =>
          rw [hc] at k2
          obtain ⟨e1, rfl, rfl, _⟩ := pure_ok.1 k2
          cases e1
          obtain ⟨f1, c5, h5, q7, q8⟩ := OK_bind.1 hd
          have hkeep : needB (lenL logs) st.tail = false ∨ keepL (needB (lenL logs) st.tail) l1 = l1 := by
            cases needB (lenL logs) st.tail
            · exact .inl rfl
            · exact .inr rfl
          obtain ⟨L2, q9⟩ := OK.le (Le.regionD (rec_le P tbl (Nat.le_max_left n N)) all rest st.tail (logs ++ [l1]) (f.put o.dst v2)) (regionD_last (b := l1) hkeep q7)
          have k1' := Le.stepV (rec_le P tbl (Nat.le_max_right n N)) all o f _ _ _ _ _ _ k1
          refine ⟨max n N, OK_bind.2 ⟨f1, _, _, ⟨_, bindL_ok.2 ⟨v2, _, _, l1, L2, k1', ?_, rfl⟩⟩, ok_fin (Nat.le_max_left n N) q8⟩⟩
          rw [hc]
          exact q9
  | done x f =>
    cases k with
    | nil => exact (OK_bad.1 hs).elim
    | cons i k =>
      cases i <;> simp only [mstep] at hs <;> (try exact (OK_bad.1 hs).elim)
      case seq b =>
        cases x <;> simp only at hs <;> (obtain ⟨e1, rfl, rfl⟩ := OK_pure.1 hs; cases e1; exact ⟨n, hd⟩)
      case blk id =>
        cases x <;> simp only at hs <;> (obtain ⟨e1, rfl, rfl⟩ := OK_pure.1 hs; cases e1; exact ⟨n, hd⟩)
      case lp b =>
        cases x <;> simp only at hs <;> (obtain ⟨e1, rfl, rfl⟩ := OK_pure.1 hs; cases e1; exact ⟨n, hd⟩)
      case scp =>
        cases x <;> simp only at hs <;> first
          | exact (OK_bad.1 hs).elim
          | (obtain ⟨e1, rfl, rfl⟩ := OK_pure.1 hs; cases e1; exact ⟨n, hd⟩)
      case fn g =>
        cases x <;> simp only at hs <;> first
          | exact (OK_bad.1 hs).elim
          | skip
        all_goals
          obtain ⟨u, c2, h2, q1, q2⟩ := OK_bind.1 hs
          obtain ⟨w, c3, h3, q3, q4⟩ := OK_bind.1 q2
          obtain ⟨e1, rfl, rfl⟩ := OK_pure.1 q4
          cases e1
          exact ⟨max n N, OK_bind.2 ⟨u, _, _, OK.le (Le.leave (rec_le P tbl (Nat.le_max_right n N)) _) q1, OK_bind.2 ⟨w, _, _, q3, ok_fin (Nat.le_max_left n N) hd⟩⟩⟩
      case yl1 l body =>
        cases x <;> simp only at hs <;> (try exact (OK_bad.1 hs).elim)
        obtain ⟨y, c2, h2, q1, q2⟩ := OK_bind.1 hs
        cases hst : y.st <;> rw [hst] at q2 <;> (try exact (OK_bad.1 q2).elim)
        obtain ⟨w, c3, h3, q3, q4⟩ := OK_bind.1 q2
        obtain ⟨e1, rfl, rfl⟩ := OK_pure.1 q4
        cases e1
        refine ⟨n, OK_bind.2 ⟨y, _, _, q1, ?_⟩⟩
        rw [hst]
        exact OK_bind.2 ⟨w, _, _, q3, hd⟩
      case yl2 l =>
        obtain ⟨u, c2, h2, q1, q2⟩ := OK_bind.1 hs
        obtain ⟨e1, rfl, rfl⟩ := OK_pure.1 q2
        cases e1
        exact ⟨n, OK_bind.2 ⟨u, _, _, q1, hd⟩⟩
  | val w =>
    cases k with
    | nil => exact (OK_bad.1 hs).elim
    | cons i k =>
      cases i <;> simp only [mstep] at hs <;> (try exact (OK_bad.1 hs).elim)
      case ops all rest dst f =>
        obtain ⟨e1, rfl, rfl⟩ := OK_pure.1 hs
        cases e1
        exact ⟨n, hd⟩
      case opsd all rest st logs dst f =>
        obtain ⟨e1, rfl, rfl⟩ := OK_pure.1 hs
        cases e1
        exact ⟨n, hd⟩
      case rng l f =>
        obtain ⟨x, c2, h2, q1, q2⟩ := OK_bind.1 hs
        refine ⟨n, OK_bind.2 ⟨x, _, _, q1, ?_⟩⟩
        cases hst : x.st <;> rw [hst] at q2 <;> (try exact (OK_bad.1 q2).elim)
        all_goals
          obtain ⟨w2, c3, h3, q3, q4⟩ := OK_bind.1 q2
          refine OK_bind.2 ⟨w2, _, _, q3, ?_⟩
          cases hp : x.pend <;> rw [hp] at q4 <;> (obtain ⟨e1, rfl, rfl⟩ := OK_pure.1 q4; cases e1; exact hd)

/-! ## Segments -/
structure MC where
  m : MM
  k : List MI
  c : Nat
  h : Heap
/-- A stop on the way: what is behind it is taken up anew. -/
def hop (g : MM → List MI → Nat → Heap → Option MC) (m : MM) (k : List MI) (c : Nat) (h : Heap) : Option MC := g m k c h
/-- So many steps. -/
noncomputable def mrun (P : Program) (tbl : Tbl) (N : Nat) (n : Nat) : MM → List MI → Nat → Heap → Option MC :=
  Nat.rec (motive := fun _ => MM → List MI → Nat → Heap → Option MC) (fun m k c h => some ⟨m, k, c, h⟩)
    (fun _ ih m k c h => R.rec (motive := fun _ => Option MC) (fun _ => none) (fun p c1 h1 _ => hop ih p.1 p.2 c1 h1) (mstep P tbl N m k c h)) n
def Abv (c : Nat) (h : Heap) : Prop := ∀ i, c ≤ i → h.get i = none
/-- From here on the run ends, and says true. -/
def Gd (P : Program) (tbl : Tbl) (x : MC) : Prop := Abv x.c x.h → ∃ n c' h', OK (den P (rec P tbl n) x.k x.m) x.c x.h (.bool true) c' h'
omit [Asm] in
theorem abv_of {α : Type} {m : M α} (hm : Touch m) {c c' : Nat} {h h' : Heap} {a : α} (hh : OK m c h a c' h') (ha : Abv c h) : Abv c' h' := by
  obtain ⟨L, hh⟩ := hh
  have ht := hm _ _ _ _ _ _ hh
  intro i hi
  cases hx : h'.get i with
  | none => rfl
  | some o =>
    rcases ht.made i (by rw [hx]; simp) with h1 | h1
    · exact absurd (ha i (Nat.le_trans ht.le hi)) h1
    · omega
omit [Asm] in
theorem Touch.enter (ht : ∀ g m args, tbl g = some m → Touch (m args)) (g : FuncId) (args : List Value) (k : List MI) : Touch (enter P tbl g args k) := by
  unfold Sx.enter
  split
  · rename_i m hm; exact Touch.bind (ht g m args hm) fun _ => Touch.pure _
  · split
    · exact Touch.bad _
    · refine Touch.ite (Touch.bad _) ?_
      split
      · exact Touch.bad _
      · exact Touch.pure _
omit [Asm] in
theorem Touch.callK (ht : ∀ g m args, tbl g = some m → Touch (m args)) (v : Value) (args : List Value) (k : List MI) : Touch (callK P tbl v args k) := by
  unfold Sx.callK
  split
  · exact Touch.enter ht _ _ _
  · exact Touch.ite (Touch.bind (Touch.lpGet _) fun _ => Touch.bind (Touch.guard _ _) fun _ => Touch.pure _) (Touch.bad _)
  · exact Touch.bad _
omit [Asm] in
theorem badTouch : RecTouch badRec := ⟨fun _ _ => Touch.bad _, fun _ _ => Touch.bad _⟩
theorem Touch.mstep (ht : ∀ g m args, tbl g = some m → Touch (m args)) (N : Nat) (m : MM) (k : List MI) : Touch (mstep P tbl N m k) := by
  cases m with
  | code cd f =>
    cases cd <;> simp only [Sx.mstep] <;> (try first | exact Touch.bad _ | exact Touch.pure _)
    case region id ops draw =>
      refine Touch.ite ?_ (Touch.pure _)
      split
      · exact Touch.bad _
      · exact Touch.ite (Touch.pure _) (Touch.pure _)
    case cond =>
      refine Touch.bind (Touch.eval f _) fun v => ?_
      split
      · exact Touch.ite (Touch.pure _) (Touch.pure _)
      · exact Touch.bad _
    case rangeFunc =>
      refine Touch.bind (Touch.eval f _) fun v => Touch.bind (Touch.enterA f) fun _ => Touch.bind (Touch.newA _) fun _ => ?_
      split
      · exact Touch.enter ht _ _ _
      · exact Touch.bad _
  | reg all l f =>
    cases l with
    | nil => exact Touch.pure _
    | cons o rest =>
      simp only [Sx.mstep]
      split
      · exact Touch.bind (Touch.stepD _ _ _) fun _ => Touch.pure _
      split
      · refine Touch.ite ?_ (Touch.pure _)
        have plain : Touch (M.bind (Sx.opA P badRec f o) fun v => M.pure (MM.reg all rest (f.put o.dst v), k)) := Touch.bind (Touch.opA badTouch f o) fun _ => Touch.pure _
        unfold regK
        split
        · split
          · exact Touch.bind (Touch.eval f _) fun _ => Touch.bind (Touch.evalL f _) fun _ => Touch.callK ht _ _ _
          · exact plain
        · exact plain
      · exact Touch.bad _
  | regd all l st logs f =>
    cases l with
    | nil => exact Touch.pure _
    | cons o rest =>
      simp only [Sx.mstep]
      unfold regdK
      split
      · exact Touch.bind (Touch.eval f _) fun _ => Touch.bind (Touch.evalL f _) fun _ => Touch.callK ht _ _ _
      · exact Touch.bindL (Touch.stepV (recTouch P tbl ht N) _ _ _) fun _ _ => Touch.ite (Touch.bad _) (Touch.pure _)
  | done x f =>
    cases k with
    | nil => exact Touch.bad _
    | cons i k =>
      cases i <;> simp only [Sx.mstep] <;> (try exact Touch.bad _)
      case seq => cases x <;> exact Touch.pure _
      case blk => cases x <;> exact Touch.pure _
      case lp => cases x <;> exact Touch.pure _
      case scp => cases x <;> first | exact Touch.bad _ | exact Touch.pure _
      case fn => cases x <;> first | exact Touch.bad _ | exact Touch.bind (Touch.leave (recTouch P tbl ht N) _) fun _ => Touch.bind (Touch.resultsA _ _ _) fun _ => Touch.pure _
      case yl1 =>
        cases x <;> simp only <;> first | exact Touch.bad _ | skip
        refine Touch.bind (Touch.lpGet _) fun y => ?_
        cases y.st <;> simp only <;> first | exact Touch.bad _ | exact Touch.bind (Touch.lpSet _ _ _) fun _ => Touch.pure _
      case yl2 => exact Touch.bind (Touch.yEnd _ _) fun _ => Touch.pure _
  | val w =>
    cases k with
    | nil => exact Touch.bad _
    | cons i k =>
      cases i <;> simp only [Sx.mstep] <;> (try exact Touch.bad _)
      case ops => exact Touch.pure _
      case opsd => exact Touch.pure _
      case rng =>
        refine Touch.bind (Touch.lpGet _) fun x => ?_
        cases x.st <;> simp only <;> first | exact Touch.bad _ | skip
        all_goals
          refine Touch.bind (Touch.lpSet _ _ _) fun _ => ?_
          cases x.pend <;> exact Touch.pure _
theorem mrun_sound (ht : ∀ g m args, tbl g = some m → Touch (m args)) {N : Nat} : ∀ {n : Nat} {x y : MC}, mrun P tbl N n x.m x.k x.c x.h = some y → Gd P tbl y → Gd P tbl x
  | 0, x, y, hr, hg => by
    obtain ⟨m, k, c, h⟩ := x
    cases hr
    exact hg
  | n + 1, x, y, hr, hg => by
    obtain ⟨m, k, c, h⟩ := x
    intro ha
    have hr' : R.rec (motive := fun _ => Option MC) (fun _ => none) (fun p c1 h1 _ => mrun P tbl N n p.1 p.2 c1 h1) (mstep P tbl N m k c h) = some y := hr
    cases hm : mstep P tbl N m k c h with
    | bad w => rw [hm] at hr'; cases hr'
    | ok p c1 h1 L1 =>
      rw [hm] at hr'
      obtain ⟨m1, k1⟩ := p
      have := mrun_sound ht (n := n) (x := ⟨m1, k1, c1, h1⟩) hr' hg
      obtain ⟨n1, c', h', hd⟩ := this (abv_of (Touch.mstep ht N m k) ⟨L1, hm⟩ ha)
      obtain ⟨n2, hd2⟩ := mstep_sound ⟨L1, hm⟩ hd
      exact ⟨n2, c', h', hd2⟩
/-- A heap cut to where another trie has something. -/
def Tr.cutTo {α β : Type} : Tr β → Tr α → Tr α
  | .node k a b c d, .node v l m n o => .node (match k with
    | some _ => v
    | none => none) (Tr.cutTo a l) (Tr.cutTo b m) (Tr.cutTo c n) (Tr.cutTo d o)
  | _, _ => .nil
omit [Asm] in
theorem Tr.getP_cutTo {α β : Type} : ∀ {t : Tr β} {h : Tr α} {p : Pa} {v : α}, (Tr.cutTo t h).getP p = some v → h.getP p = some v
  | .nil, .nil, _, _, h => by cases h
  | .nil, .node .., _, _, h => by cases h
  | .node .., .nil, _, _, h => by cases h
  | .node u .., .node .., .e, v, h => by
    cases u with
    | none => cases h
    | some y => exact h
  | .node _ a _ _ _, .node _ l _ _ _, .a p, v, h => Tr.getP_cutTo (t := a) (h := l) h
  | .node _ _ b _ _, .node _ _ m _ _, .b p, v, h => Tr.getP_cutTo (t := b) (h := m) h
  | .node _ _ _ c _, .node _ _ _ n _, .c p, v, h => Tr.getP_cutTo (t := c) (h := n) h
  | .node _ _ _ _ d, .node _ _ _ _ o, .d p, v, h => Tr.getP_cutTo (t := d) (h := o) h
omit [Asm] in
theorem Tr.get_cutTo {α β : Type} {t : Tr β} {h : Tr α} {k : Nat} {v : α} (hh : (Tr.cutTo t h).get k = some v) : h.get k = some v := Tr.getP_cutTo hh
omit [Asm] in
theorem look_eq {g h : Heap} {z : Loc} {i : Nat} (hz : z = .inf i ∨ ∃ k, z = .cell i k) (he : g.get i = h.get i) : look g z = look h z := by
  rcases hz with rfl | ⟨k, rfl⟩ <;> simp only [look, he]
omit [Asm] in
theorem touches_id {e : Ev} {z : Loc} (h : e.touches z) : z = .inf e.id ∨ ∃ k, z = .cell e.id k := by
  cases e <;> cases z <;> simp_all [Ev.touches, Ev.id]
/-- A heap cut to a part of it. -/
theorem cut_sound (hl : ∀ g m args, tbl g = some m → Local (m args)) (ht : ∀ g m args, tbl g = some m → Touch (m args)) {x : MC} {β : Type} (t : Tr β) (hg : Gd P tbl ⟨x.m, x.k, x.c, Tr.cutTo t x.h⟩) : Gd P tbl x := by
  intro ha
  have hsub : ∀ i, (Tr.cutTo t x.h).get i ≠ none → x.h.get i = (Tr.cutTo t x.h).get i := fun i hi => by
    cases hx : (Tr.cutTo t x.h).get i with
    | none => exact absurd hx hi
    | some o => exact Tr.get_cutTo hx
  have hab : Abv x.c (Tr.cutTo t x.h) := fun i hi => by
    cases hx : (Tr.cutTo t x.h).get i with
    | none => rfl
    | some o => rw [← ha i hi]; exact (Tr.get_cutTo hx).symm
  obtain ⟨n, c', h', L, hd⟩ := hg hab
  have htc := Touch.den (recTouch P tbl ht n) x.k x.m _ _ _ _ _ _ hd
  obtain ⟨_, h2⟩ := Local.den (recLocal P tbl hl n) x.k x.m _ _ _ _ _ _ hd
  obtain ⟨g', k1, _, _⟩ := h2 x.h (fun z ⟨e, hz, hez⟩ => by
    refine look_eq (touches_id hez) ?_
    rcases htc.ev e hz with h3 | h3
    · exact hsub _ h3
    · rw [ha _ h3, hab _ h3])
  exact ⟨n, c', g', L, k1⟩
/-- One segment: so many steps, the heap cut, and there we are. -/
noncomputable def mcut {β : Type} (t : Tr β) (x : MC) : MC := match x with
  | ⟨m, k, c, h⟩ => ⟨m, k, c, Tr.cutTo t h⟩
theorem seg_sound (hl : ∀ g m args, tbl g = some m → Local (m args)) (ht : ∀ g m args, tbl g = some m → Touch (m args)) {N n : Nat} {x y : MC} (hr : (mrun P tbl N n x.m x.k x.c x.h).map (mcut y.h) = some y) (hg : Gd P tbl y) : Gd P tbl x := by
  cases hm : mrun P tbl N n x.m x.k x.c x.h with
  | none => rw [hm] at hr; cases hr
  | some z =>
    rw [hm] at hr
    simp only [Option.map_some, Option.some.injEq] at hr
    refine mrun_sound ht hm (cut_sound hl ht y.h ?_)
    have : mcut y.h z = ⟨z.m, z.k, z.c, Tr.cutTo y.h z.h⟩ := rfl
    rw [← this, hr]; exact hg
def endB : Option MC → Bool
  | some ⟨.val (.bool b), [], _, _⟩ => b
  | _ => false
theorem end_sound (ht : ∀ g m args, tbl g = some m → Touch (m args)) {N n : Nat} {x : MC} (hr : endB (mrun P tbl N n x.m x.k x.c x.h) = true) : Gd P tbl x := by
  cases hm : mrun P tbl N n x.m x.k x.c x.h with
  | none => rw [hm] at hr; cases hr
  | some z =>
    rw [hm] at hr
    refine mrun_sound ht hm ?_
    obtain ⟨m, k, c, h⟩ := z
    unfold endB at hr
    split at hr
    · rename_i b c h he
      cases he
      subst hr
      exact fun _ => ⟨0, c, h, OK_pure.2 ⟨rfl, rfl, rfl⟩⟩
    · cases hr
/-- The first configuration of a function of no arguments. -/
noncomputable def mstart (P : Program) (g : FuncId) : Option MC := match nthL P.funcs.toList g with
  | none => none
  | some fn => bif fn.name == "runtime.NumGoroutine" then none else match fn.body with
    | none => none
    | some c => some ⟨.code c (Fr.init [] (0 + (fn.ntmps - 0))), [.fn fn], 0, .nil⟩
theorem start_sound {g : FuncId} {x : MC} (hs : mstart P g = some x) (htb : tbl g = none) (hg : Gd P tbl x) : ∃ n, saysTrue ((rec P tbl n).call g [] 0 .nil) = true := by
  have he : OK (enter P tbl g [] []) 0 .nil (x.m, x.k) x.c x.h ∧ x.c = 0 ∧ x.h = .nil := by
    unfold mstart at hs
    unfold enter
    rw [htb]
    simp only
    cases hfn : nthL P.funcs.toList g with
    | none => rw [hfn] at hs; cases hs
    | some fn =>
      rw [hfn] at hs
      simp only at hs ⊢
      cases hnm : (fn.name == "runtime.NumGoroutine") with
      | true => rw [hnm] at hs; cases hs
      | false =>
        rw [hnm] at hs
        simp only [cond_false] at hs ⊢
        cases hb : fn.body with
        | none => rw [hb] at hs; cases hs
        | some cd =>
          rw [hb] at hs
          cases hs
          exact ⟨OK_pure.2 ⟨rfl, rfl, rfl⟩, rfl, rfl⟩
  obtain ⟨he, hc, hh⟩ := he
  obtain ⟨n, c', h', hd⟩ := hg (by rw [hh]; exact fun i _ => rfl)
  obtain ⟨v2, c2, h2, ⟨L, q1⟩, q2⟩ := enter_sound2 he hd
  obtain ⟨e1, _, _⟩ := OK_pure.1 q2
  subst e1
  exact ⟨n + 1, by rw [q1]; rfl⟩
end
end Go.Sx

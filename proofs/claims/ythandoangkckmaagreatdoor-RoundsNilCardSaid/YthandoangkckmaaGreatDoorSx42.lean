import Derived.Test.YthandoangkckmaaGreatDoorSx41
namespace Go.Sx

/-! ## Runs, whatever the log -/
def OK {α : Type} (m : M α) (c : Nat) (h : Heap) (a : α) (c' : Nat) (h' : Heap) : Prop := ∃ L, m c h = .ok a c' h' L
theorem OK_bind {α β : Type} {m : M α} {f : α → M β} {c : Nat} {h : Heap} {b : β} {c' : Nat} {h' : Heap} : OK (M.bind m f) c h b c' h' ↔ ∃ a c1 h1, OK m c h a c1 h1 ∧ OK (f a) c1 h1 b c' h' :=
  ⟨fun ⟨_, hh⟩ => let ⟨a, c1, h1, l1, l2, h2, h3, _⟩ := bind_ok.1 hh; ⟨a, c1, h1, ⟨l1, h2⟩, ⟨l2, h3⟩⟩,
   fun ⟨a, c1, h1, ⟨l1, h2⟩, ⟨l2, h3⟩⟩ => ⟨_, bind_ok.2 ⟨a, c1, h1, l1, l2, h2, h3, rfl⟩⟩⟩
theorem OK_pure {α : Type} {a b : α} {c : Nat} {h : Heap} {c' : Nat} {h' : Heap} : OK (M.pure a) c h b c' h' ↔ a = b ∧ c' = c ∧ h' = h :=
  ⟨fun ⟨_, hh⟩ => let ⟨h1, h2, h3, _⟩ := pure_ok.1 hh; ⟨h1, h2, h3⟩, fun ⟨h1, h2, h3⟩ => ⟨_, pure_ok.2 ⟨h1, h2, h3, rfl⟩⟩⟩
theorem OK_bad {α : Type} {n : Nat} {b : α} {c : Nat} {h : Heap} {c' : Nat} {h' : Heap} : OK (M.bad n) c h b c' h' ↔ False := ⟨fun ⟨_, hh⟩ => bad_ok.1 hh, fun h => h.elim⟩
theorem OK.le {α : Type} {m m' : M α} (hl : Le m m') {c : Nat} {h : Heap} {b : α} {c' : Nat} {h' : Heap} : OK m c h b c' h' → OK m' c h b c' h' := fun ⟨L, hh⟩ => ⟨L, hl _ _ _ _ _ _ hh⟩

theorem Touch.yEnd (l : Nat) (e : Exit) : Touch (yEnd l e) := by
  unfold Sx.yEnd
  split
  · exact Touch.bind (Touch.lpSet _ _ _) fun _ => Touch.pure _
  · exact Touch.bind (Touch.lpSet _ _ _) fun _ => Touch.pure _
  · exact Touch.bad _
theorem Local.yEnd (l : Nat) (e : Exit) : Local (yEnd l e) := by
  unfold Sx.yEnd
  split
  · exact Local.bind (Local.lpSet _ _ _) fun _ => Local.pure _
  · exact Local.bind (Local.lpSet _ _ _) fun _ => Local.pure _
  · exact Local.bad _
section
variable [Asm] {P : Program} {tbl : Tbl}
theorem Le.fin {r r' : Rec} (hr : RecLe r r') : ∀ (k : List MI) (m : MM), Le (fin P r k m) (fin P r' k m)
  | [], m => by cases m <;> exact Le.refl _
  | i :: k, m => by
    have ih := Le.fin hr k
    cases i <;> cases m <;> (try exact Le.refl _) <;> simp only [Sx.fin]
    case seq.done b x f =>
      cases x <;> simp only <;> first | exact ih _ | exact Le.bind (hr.exec _ _) fun y => ih _
    case blk.done id x f => cases x <;> exact ih _
    case lp.done b x f =>
      cases x <;> simp only <;> first | exact ih _ | exact Le.bind (hr.exec _ _) fun y => ih _
    case scp.done x f => cases x <;> simp only <;> first | exact Le.refl _ | exact ih _
    case ops.val all rest dst f v => exact Le.bind (Le.regionL hr _ _ _) fun _ => ih _
    case opsd.val all rest st logs dst f v => exact Le.bind (Le.regionD hr _ _ _ _ _) fun _ => ih _
    case fn.done g x f =>
      cases x <;> simp only <;> first | exact Le.refl _ | exact Le.bind (Le.leave hr _) fun _ => Le.bind (Le.refl _) fun _ => ih _
    case yl1.done l body x f =>
      cases x <;> simp only <;> first | exact Le.refl _ | skip
      refine Le.bind (Le.refl _) fun y => ?_
      cases y.st <;> simp only <;> first | exact Le.refl _ | skip
      exact Le.bind (Le.refl _) fun _ => Le.bind (hr.exec _ _) fun _ => Le.bind (Le.refl _) fun _ => ih _
    case yl2.done l x f => exact Le.bind (Le.refl _) fun _ => ih _
    case rng.val l f v =>
      refine Le.bind (Le.refl _) fun x => ?_
      cases x.st <;> simp only <;> first | exact Le.refl _ | skip
      all_goals
        refine Le.bind (Le.refl _) fun _ => ?_
        cases x.pend <;> simp only <;> first | exact ih _ | exact Le.bind (hr.exec _ _) fun y => ih _
theorem Le.den {r r' : Rec} (hr : RecLe r r') (k : List MI) (m : MM) : Le (den P r k m) (den P r' k m) := by
  cases m
  · exact Le.bind (hr.exec _ _) fun y => Le.fin hr k _
  · exact Le.bind (Le.regionL hr _ _ _) fun y => Le.fin hr k _
  · exact Le.bind (Le.regionD hr _ _ _ _ _) fun y => Le.fin hr k _
  · exact Le.fin hr k _
  · exact Le.fin hr k _
theorem Touch.fin {r : Rec} (hr : RecTouch r) : ∀ (k : List MI) (m : MM), Touch (fin P r k m)
  | [], m => by cases m <;> first | exact Touch.bad _ | exact Touch.pure _
  | i :: k, m => by
    have ih := Touch.fin hr k
    cases i <;> cases m <;> (try exact Touch.bad _) <;> simp only [Sx.fin]
    case seq.done b x f =>
      cases x <;> simp only <;> first | exact ih _ | exact Touch.bind (hr.exec _ _) fun y => ih _
    case blk.done id x f => cases x <;> exact ih _
    case lp.done b x f =>
      cases x <;> simp only <;> first | exact ih _ | exact Touch.bind (hr.exec _ _) fun y => ih _
    case scp.done x f => cases x <;> simp only <;> first | exact Touch.bad _ | exact ih _
    case ops.val all rest dst f v => exact Touch.bind (Touch.regionL hr _ _ _) fun _ => ih _
    case opsd.val all rest st logs dst f v => exact Touch.bind (Touch.regionD hr _ _ _ _ _) fun _ => ih _
    case fn.done g x f =>
      cases x <;> simp only <;> first | exact Touch.bad _ | exact Touch.bind (Touch.leave hr _) fun _ => Touch.bind (Touch.resultsA _ _ _) fun _ => ih _
    case yl1.done l body x f =>
      cases x <;> simp only <;> first | exact Touch.bad _ | skip
      refine Touch.bind (Touch.lpGet _) fun y => ?_
      cases y.st <;> simp only <;> first | exact Touch.bad _ | skip
      exact Touch.bind (Touch.lpSet _ _ _) fun _ => Touch.bind (hr.exec _ _) fun _ => Touch.bind (Touch.yEnd _ _) fun _ => ih _
    case yl2.done l x f => exact Touch.bind (Touch.yEnd _ _) fun _ => ih _
    case rng.val l f v =>
      refine Touch.bind (Touch.lpGet _) fun x => ?_
      cases x.st <;> simp only <;> first | exact Touch.bad _ | skip
      all_goals
        refine Touch.bind (Touch.lpSet _ _ _) fun _ => ?_
        cases x.pend <;> simp only <;> first | exact ih _ | exact Touch.bind (hr.exec _ _) fun y => ih _
theorem Touch.den {r : Rec} (hr : RecTouch r) (k : List MI) (m : MM) : Touch (den P r k m) := by
  cases m
  · exact Touch.bind (hr.exec _ _) fun y => Touch.fin hr k _
  · exact Touch.bind (Touch.regionL hr _ _ _) fun y => Touch.fin hr k _
  · exact Touch.bind (Touch.regionD hr _ _ _ _ _) fun y => Touch.fin hr k _
  · exact Touch.fin hr k _
  · exact Touch.fin hr k _
theorem Local.fin {r : Rec} (hr : RecLocal r) : ∀ (k : List MI) (m : MM), Local (fin P r k m)
  | [], m => by cases m <;> first | exact Local.bad _ | exact Local.pure _
  | i :: k, m => by
    have ih := Local.fin hr k
    cases i <;> cases m <;> (try exact Local.bad _) <;> simp only [Sx.fin]
    case seq.done b x f =>
      cases x <;> simp only <;> first | exact ih _ | exact Local.bind (hr.exec _ _) fun y => ih _
    case blk.done id x f => cases x <;> exact ih _
    case lp.done b x f =>
      cases x <;> simp only <;> first | exact ih _ | exact Local.bind (hr.exec _ _) fun y => ih _
    case scp.done x f => cases x <;> simp only <;> first | exact Local.bad _ | exact ih _
    case ops.val all rest dst f v => exact Local.bind (Local.regionL hr _ _ _) fun _ => ih _
    case opsd.val all rest st logs dst f v => exact Local.bind (Local.regionD hr _ _ _ _ _) fun _ => ih _
    case fn.done g x f =>
      cases x <;> simp only <;> first | exact Local.bad _ | exact Local.bind (Local.leave hr _) fun _ => Local.bind (Local.resultsA _ _ _) fun _ => ih _
    case yl1.done l body x f =>
      cases x <;> simp only <;> first | exact Local.bad _ | skip
      refine Local.bind (Local.lpGet _) fun y => ?_
      cases y.st <;> simp only <;> first | exact Local.bad _ | skip
      exact Local.bind (Local.lpSet _ _ _) fun _ => Local.bind (hr.exec _ _) fun _ => Local.bind (Local.yEnd _ _) fun _ => ih _
    case yl2.done l x f => exact Local.bind (Local.yEnd _ _) fun _ => ih _
    case rng.val l f v =>
      refine Local.bind (Local.lpGet _) fun x => ?_
      cases x.st <;> simp only <;> first | exact Local.bad _ | skip
      all_goals
        refine Local.bind (Local.lpSet _ _ _) fun _ => ?_
        cases x.pend <;> simp only <;> first | exact ih _ | exact Local.bind (hr.exec _ _) fun y => ih _
theorem Local.den {r : Rec} (hr : RecLocal r) (k : List MI) (m : MM) : Local (den P r k m) := by
  cases m
  · exact Local.bind (hr.exec _ _) fun y => Local.fin hr k _
  · exact Local.bind (Local.regionL hr _ _ _) fun y => Local.fin hr k _
  · exact Local.bind (Local.regionD hr _ _ _ _ _) fun y => Local.fin hr k _
  · exact Local.fin hr k _
  · exact Local.fin hr k _

/-! ## A step is sound -/
theorem regionD_of {r : Rec} {all : Array Oper} : ∀ {l : List Oper} {st : List (List Nat)} {logs : List Lg} {f f1 : Fr} {c c' : Nat} {h h' : Heap}, st.all List.isEmpty = true → l.all (fun o => (isDefer o).isNone) = true → OK (regionL P r all l f) c h f1 c' h' → OK (regionD P r all l st logs f) c h f1 c' h'
  | [], st, logs, f, f1, c, c', h, h', _, _, hh => hh
  | o :: l, st, logs, f, f1, c, c', h, h', hs, hnd, hh => by
    simp only [List.all_cons, Bool.and_eq_true, Option.isNone_iff_eq_none] at hnd
    simp only [regionL, OK_bind, stepA, stepN, hnd.1, OK_pure] at hh
    obtain ⟨f2, c2, h2, ⟨v, c3, h3, ⟨L3, k1⟩, k2, k3, k4⟩, k5⟩ := hh
    subst k2 k3 k4
    have hs2 : st.headD [] = [] ∧ st.tail.all List.isEmpty = true := by
      cases st with
      | nil => exact ⟨rfl, rfl⟩
      | cons a st =>
        simp only [List.all_cons, Bool.and_eq_true, List.isEmpty_iff] at hs
        exact ⟨hs.1, hs.2⟩
    obtain ⟨L5, k6⟩ := regionD_of (logs := logs ++ [L3]) hs2.2 hnd.2 k5
    refine ⟨_, bindL_ok.2 ⟨v, _, _, L3, L5, k1, ?_, rfl⟩⟩
    rw [hs2.1]
    exact k6
omit [Asm] in
theorem needB_of {i : Nat} {st : List (List Nat)} (h : needB i st = false) : ∀ s ∈ st, i ∉ s := fun s hs hi => by
  have h1 : needB i st = true := List.any_eq_true.2 ⟨s, hs, List.any_eq_true.2 ⟨i, hi, Nat.beq_refl i⟩⟩
  rw [h] at h1; cases h1
omit [Asm] in
theorem clashAny_congr {l : Lg} {logs logs2 : List Lg} : ∀ {is : List Nat}, (∀ i ∈ is, logs.getD i .nil = logs2.getD i .nil) → clashAny l logs is = clashAny l logs2 is
  | [], _ => rfl
  | i :: is, h => by
    simp only [clashAny]
    rw [h i List.mem_cons_self, clashAny_congr fun j hj => h j (List.mem_cons_of_mem _ hj)]
/-- The logs that nobody asks for do not matter. -/
theorem regionD_logs {r : Rec} {all : Array Oper} : ∀ {l : List Oper} {st : List (List Nat)} {logs logs2 : List Lg} {f f1 : Fr} {c c' : Nat} {h h' : Heap}, logs.length = logs2.length → (∀ s ∈ st, ∀ i ∈ s, logs.getD i .nil = logs2.getD i .nil) →
    OK (regionD P r all l st logs f) c h f1 c' h' → OK (regionD P r all l st logs2 f) c h f1 c' h'
  | [], _, _, _, _, _, _, _, _, _, _, _, hh => hh
  | o :: l, st, logs, logs2, f, f1, c, c', h, h', hl, hg, ⟨L, hh⟩ => by
    obtain ⟨v, c1, h1, l1, l2, k1, k2, k3⟩ := bindL_ok.1 hh
    have hh2 : ∀ i ∈ st.headD [], logs.getD i .nil = logs2.getD i .nil := fun i hi => by
      cases st with
      | nil => cases hi
      | cons s st => exact hg s List.mem_cons_self i hi
    have ht : ∀ s ∈ st.tail, ∀ i ∈ s, logs.getD i .nil = logs2.getD i .nil := fun s hs => by
      cases st with
      | nil => cases hs
      | cons s0 st => exact hg s (List.mem_cons_of_mem _ hs)
    rw [clashAny_congr hh2] at k2
    cases hc : clashAny l1 logs2 (st.headD []) with
    | true => rw [hc] at k2; simp only [cond_true] at k2; exact (bad_ok.1 k2).elim
    | false =>
      rw [hc] at k2
      obtain ⟨L3, k4⟩ := regionD_logs (logs := logs ++ [l1]) (logs2 := logs2 ++ [l1]) (by simp [hl]) (fun s hs i hi => by
        have := ht s hs i hi
        simp only [List.getD_eq_getElem?_getD] at this ⊢
        by_cases h1 : i < logs.length
        · rw [List.getElem?_append_left h1, List.getElem?_append_left (by omega)]; exact this
        · rw [List.getElem?_append_right (by omega), List.getElem?_append_right (by omega), hl]) ⟨l2, k2⟩
      refine ⟨_, bindL_ok.2 ⟨v, c1, h1, l1, L3, k1, ?_, rfl⟩⟩
      rw [hc]; exact k4
/-- The last log put otherwise, where nobody asks for it. -/
theorem regionD_last {r : Rec} {all : Array Oper} {l : List Oper} {st : List (List Nat)} {logs : List Lg} {a b : Lg} {f f1 : Fr} {c c' : Nat} {h h' : Heap} (hn : needB (lenL logs) st = false ∨ a = b)
    (hh : OK (regionD P r all l st (logs ++ [a]) f) c h f1 c' h') : OK (regionD P r all l st (logs ++ [b]) f) c h f1 c' h' := by
  rcases hn with hn | rfl
  · refine regionD_logs (by simp) (fun s hs i hi => ?_) hh
    have hne : i ≠ logs.length := fun e => needB_of hn s hs (by rw [lenL_eq, ← e]; exact hi)
    simp only [List.getD_eq_getElem?_getD]
    by_cases h1 : i < logs.length
    · rw [List.getElem?_append_left h1, List.getElem?_append_left h1]
    · rw [List.getElem?_eq_none (by simp; omega), List.getElem?_eq_none (by simp; omega)]
  · exact hh
theorem ok_exec {n m : Nat} (h : n ≤ m) {c : Code} {f : Fr} {y : Exit × Fr} {c1 c2 : Nat} {h1 h2 : Heap} : OK ((rec P tbl n).exec c f) c1 h1 y c2 h2 → OK ((rec P tbl m).exec c f) c1 h1 y c2 h2 := OK.le ((rec_le P tbl h).exec _ _)
theorem ok_den {n m : Nat} (h : n ≤ m) {k : List MI} {x : MM} {y : Value} {c1 c2 : Nat} {h1 h2 : Heap} : OK (den P (rec P tbl n) k x) c1 h1 y c2 h2 → OK (den P (rec P tbl m) k x) c1 h1 y c2 h2 := OK.le (Le.den (rec_le P tbl h) _ _)
theorem ok_fin {n m : Nat} (h : n ≤ m) {k : List MI} {x : MM} {y : Value} {c1 c2 : Nat} {h1 h2 : Heap} : OK (fin P (rec P tbl n) k x) c1 h1 y c2 h2 → OK (fin P (rec P tbl m) k x) c1 h1 y c2 h2 := OK.le (Le.fin (rec_le P tbl h) _ _)

theorem ok_region {n id : Nat} {ops : Array Oper} {draw : Bool} {f f1 : Fr} {c c1 : Nat} {h h1 : Heap} (hh : OK (regionA P (rec P tbl n) ops draw f) c h f1 c1 h1) : OK ((rec P tbl (n + 1)).exec (.region id ops draw) f) c h (.normal, f1) c1 h1 := by
  show OK (M.bind (regionA P (rec P tbl n) ops draw f) fun f' => M.pure (Exit.normal, f')) c h (.normal, f1) c1 h1
  exact OK_bind.2 ⟨f1, _, _, hh, OK_pure.2 ⟨rfl, rfl, rfl⟩⟩
theorem exec_sound {N : Nat} {cd : Code} {f : Fr} {k : List MI} {c c1 c' n : Nat} {h h1 h' : Heap} {m1 : MM} {k1 : List MI} {v : Value} (hs : OK (mstep P tbl N (.code cd f) k) c h (m1, k1) c1 h1) (hd : OK (den P (rec P tbl n) k1 m1) c1 h1 v c' h') :
    ∃ n', OK (den P (rec P tbl n') k (.code cd f)) c h v c' h' := by
  have up : ∀ {k : List MI} {x : MM} {c1 : Nat} {h1 : Heap}, OK (fin P (rec P tbl n) k x) c1 h1 v c' h' → OK (fin P (rec P tbl (n + 1)) k x) c1 h1 v c' h' := ok_fin (Nat.le_succ n)
  cases cd <;> simp only [mstep] at hs <;> (try exact (OK_bad.1 hs).elim)
  case skip =>
    obtain ⟨e1, rfl, rfl⟩ := OK_pure.1 hs
    cases e1
    exact ⟨n + 1, OK_bind.2 ⟨_, _, _, OK_pure.2 ⟨rfl, rfl, rfl⟩, up hd⟩⟩
  case label =>
    obtain ⟨e1, rfl, rfl⟩ := OK_pure.1 hs
    cases e1
    exact ⟨n + 1, OK_bind.2 ⟨_, _, _, OK_pure.2 ⟨rfl, rfl, rfl⟩, up hd⟩⟩
  case region id ops draw =>
    cases draw with
    | false =>
      simp only [cond_false] at hs
      obtain ⟨e1, rfl, rfl⟩ := OK_pure.1 hs
      cases e1
      obtain ⟨f1, c2, h2, k1, k2⟩ := OK_bind.1 hd
      exact ⟨n + 1, OK_bind.2 ⟨(.normal, f1), _, _, ok_region k1, up k2⟩⟩
    | true =>
      simp only [cond_true] at hs
      cases hst : statics ops (masks ops.toList []) 0 ops.toList with
      | none => rw [hst] at hs; exact (OK_bad.1 hs).elim
      | some st =>
        rw [hst] at hs
        simp only at hs
        cases he : (st.all List.isEmpty && ops.toList.all (fun o => (isDefer o).isNone)) with
        | true =>
          rw [he] at hs
          simp only [cond_true] at hs
          obtain ⟨e1, rfl, rfl⟩ := OK_pure.1 hs
          cases e1
          obtain ⟨f1, c2, h2, k1, k2⟩ := OK_bind.1 hd
          have he2 := (Bool.and_eq_true _ _ ▸ he : _ ∧ _)
          have k3 := regionD_of (logs := []) he2.1 he2.2 k1
          refine ⟨n + 1, OK_bind.2 ⟨(.normal, f1), _, _, ok_region ?_, up k2⟩⟩
          simp only [regionA, cond_true, hst]
          exact k3
        | false =>
          rw [he] at hs
          simp only [cond_false] at hs
          obtain ⟨e1, rfl, rfl⟩ := OK_pure.1 hs
          cases e1
          obtain ⟨f1, c2, h2, k1, k2⟩ := OK_bind.1 hd
          refine ⟨n + 1, OK_bind.2 ⟨(.normal, f1), _, _, ok_region ?_, up k2⟩⟩
          simp only [regionA, cond_true, hst]
          exact k1
  case seq a b =>
    obtain ⟨e1, rfl, rfl⟩ := OK_pure.1 hs
    cases e1
    obtain ⟨⟨x, f1⟩, c2, h2, k1, k2⟩ := OK_bind.1 hd
    cases x
    case normal =>
      obtain ⟨y, c3, h3, k3, k4⟩ := OK_bind.1 k2
      exact ⟨n + 1, OK_bind.2 ⟨_, _, _, OK_bind.2 ⟨_, _, _, k1, k3⟩, up k4⟩⟩
    all_goals exact ⟨n + 1, OK_bind.2 ⟨_, _, _, OK_bind.2 ⟨_, _, _, k1, OK_pure.2 ⟨rfl, rfl, rfl⟩⟩, up k2⟩⟩
  case cond cd p q =>
    obtain ⟨u, c2, h2, k1, k2⟩ := OK_bind.1 hs
    cases ht : truth u with
    | none => rw [ht] at k2; exact (OK_bad.1 k2).elim
    | some t =>
      rw [ht] at k2
      simp only at k2
      cases t
      · obtain ⟨e1, rfl, rfl⟩ := OK_pure.1 k2
        cases e1
        obtain ⟨y, c3, h3, k3, k4⟩ := OK_bind.1 hd
        exact ⟨n + 1, OK_bind.2 ⟨_, _, _, OK_bind.2 ⟨_, _, _, k1, (by rw [ht]; exact k3)⟩, up k4⟩⟩
      · obtain ⟨e1, rfl, rfl⟩ := OK_pure.1 k2
        cases e1
        obtain ⟨y, c3, h3, k3, k4⟩ := OK_bind.1 hd
        exact ⟨n + 1, OK_bind.2 ⟨_, _, _, OK_bind.2 ⟨_, _, _, k1, (by rw [ht]; exact k3)⟩, up k4⟩⟩
  case block id b =>
    obtain ⟨e1, rfl, rfl⟩ := OK_pure.1 hs
    cases e1
    obtain ⟨⟨x, f1⟩, c2, h2, k1, k2⟩ := OK_bind.1 hd
    cases x <;> exact ⟨n + 1, OK_bind.2 ⟨_, _, _, OK_bind.2 ⟨_, _, _, k1, OK_pure.2 ⟨rfl, rfl, rfl⟩⟩, up k2⟩⟩
  case loop b =>
    obtain ⟨e1, rfl, rfl⟩ := OK_pure.1 hs
    cases e1
    obtain ⟨⟨x, f1⟩, c2, h2, k1, k2⟩ := OK_bind.1 hd
    cases x
    case normal =>
      obtain ⟨y, c3, h3, k3, k4⟩ := OK_bind.1 k2
      exact ⟨n + 1, OK_bind.2 ⟨_, _, _, OK_bind.2 ⟨_, _, _, k1, k3⟩, up k4⟩⟩
    all_goals exact ⟨n + 1, OK_bind.2 ⟨_, _, _, OK_bind.2 ⟨_, _, _, k1, OK_pure.2 ⟨rfl, rfl, rfl⟩⟩, up k2⟩⟩
  case exit id =>
    obtain ⟨e1, rfl, rfl⟩ := OK_pure.1 hs
    cases e1
    exact ⟨n + 1, OK_bind.2 ⟨_, _, _, OK_pure.2 ⟨rfl, rfl, rfl⟩, up hd⟩⟩
  case ret =>
    obtain ⟨e1, rfl, rfl⟩ := OK_pure.1 hs
    cases e1
    exact ⟨n + 1, OK_bind.2 ⟨_, _, _, OK_pure.2 ⟨rfl, rfl, rfl⟩, up hd⟩⟩
  case scope b =>
    obtain ⟨e1, rfl, rfl⟩ := OK_pure.1 hs
    cases e1
    obtain ⟨⟨x, f1⟩, c2, h2, k1, k2⟩ := OK_bind.1 hd
    cases x
    case goto l => exact (OK_bad.1 k2).elim
    all_goals exact ⟨n + 1, OK_bind.2 ⟨_, _, _, OK_bind.2 ⟨_, _, _, k1, OK_pure.2 ⟨rfl, rfl, rfl⟩⟩, up k2⟩⟩
  case rangeFunc g ps assign body =>
    obtain ⟨u, c2, h2, k1, k2⟩ := OK_bind.1 hs
    obtain ⟨⟨d, mark⟩, c3, h3, k3, k4⟩ := OK_bind.1 k2
    obtain ⟨l, c4, h4, k5, k6⟩ := OK_bind.1 k4
    simp only at k5 k6
    split at k6
    · rename_i gid first captured
      -- what is left of the range, behind the call
      have tail : ∀ {n2 : Nat} {v2 : Value} {c5 : Nat} {h5 : Heap}, n ≤ n2 → OK ((rec P tbl n2).call gid (first.toList ++ [Value.func (.yield l) #[] #[]] ++ captured.toList)) c4 h4 v2 c5 h5 →
          OK (fin P (rec P tbl n) (.rng l ⟨f.t, f.n, f.ro, mark ++ f.ds⟩ :: k) (.val v2)) c5 h5 v c' h' → ∃ n', OK (den P (rec P tbl n') k (.code (.rangeFunc g ps assign body) f)) c h v c' h' := by
        intro n2 v2 c5 h5 hle hcall hfin
        have hup : ∀ {k : List MI} {x : MM} {c1 : Nat} {h1 : Heap}, OK (fin P (rec P tbl n) k x) c1 h1 v c' h' → OK (fin P (rec P tbl (n2 + 1)) k x) c1 h1 v c' h' := ok_fin (Nat.le_succ_of_le hle)
        obtain ⟨x, c6, h6, q1, q2⟩ := OK_bind.1 hfin
        have fin1 : ∀ {st : LoopState}, x.st = st → st ≠ .busy → OK (M.bind (lpSet l .exhausted x.pend) fun _ => (match x.pend with
            | none => fin P (rec P tbl n) k (.done .normal ⟨f.t, f.n, f.ro, mark ++ f.ds⟩)
            | some c => M.bind ((rec P tbl n).exec c ⟨f.t, f.n, f.ro, mark ++ f.ds⟩) fun y => fin P (rec P tbl n) k (.done y.1 y.2))) c6 h6 v c' h' → ∃ n', OK (den P (rec P tbl n') k (.code (.rangeFunc g ps assign body) f)) c h v c' h' := by
          intro st hst hne hh
          obtain ⟨w, c7, h7, q3, q4⟩ := OK_bind.1 hh
          have hrest : ∃ y c8 h8, OK (match x.pend with
              | none => M.pure (.normal, ⟨f.t, f.n, f.ro, mark ++ f.ds⟩)
              | some c => (rec P tbl n2).exec c ⟨f.t, f.n, f.ro, mark ++ f.ds⟩) c7 h7 y c8 h8 ∧ OK (fin P (rec P tbl (n2 + 1)) k (.done y.1 y.2)) c8 h8 v c' h' := by
            cases hp : x.pend with
            | none => rw [hp] at q4; exact ⟨_, _, _, OK_pure.2 ⟨rfl, rfl, rfl⟩, hup q4⟩
            | some cd =>
              rw [hp] at q4
              obtain ⟨y, c8, h8, q5, q6⟩ := OK_bind.1 q4
              exact ⟨y, c8, h8, ok_exec hle q5, hup q6⟩
          obtain ⟨y, c8, h8, q5, q6⟩ := hrest
          refine ⟨n2 + 1, OK_bind.2 ⟨y, c8, h8, OK_bind.2 ⟨_, _, _, k1, ?_⟩, q6⟩⟩
          refine OK_bind.2 ⟨(d, mark), _, _, k3, OK_bind.2 ⟨l, _, _, k5, OK_bind.2 ⟨v2, _, _, hcall, OK_bind.2 ⟨x, _, _, q1, ?_⟩⟩⟩⟩
          have : OK (M.bind (lpSet l .exhausted x.pend) fun _ => (match x.pend with
              | none => M.pure (.normal, ⟨f.t, f.n, f.ro, mark ++ f.ds⟩)
              | some c => (rec P tbl n2).exec c ⟨f.t, f.n, f.ro, mark ++ f.ds⟩)) c6 h6 y c8 h8 := OK_bind.2 ⟨w, _, _, q3, q5⟩
          rw [hst]
          cases st <;> first | exact absurd rfl hne | exact this
        cases hst : x.st with
        | busy => rw [hst] at q2; exact (OK_bad.1 q2).elim
        | ready => rw [hst] at q2; exact fin1 hst (by simp) q2
        | done => rw [hst] at q2; exact fin1 hst (by simp) q2
        | exhausted => rw [hst] at q2; exact fin1 hst (by simp) q2
      unfold enter at k6
      cases ht : tbl gid with
      | some m =>
        rw [ht] at k6
        obtain ⟨v2, c5, h5, q1, q2⟩ := OK_bind.1 k6
        obtain ⟨e1, rfl, rfl⟩ := OK_pure.1 q2
        cases e1
        refine tail (n2 := n + 1) (v2 := v2) (Nat.le_succ n) ?_ hd
        show OK (callS P tbl (rec P tbl n) gid _) _ _ _ _ _
        unfold callS
        rw [ht]; exact q1
      | none =>
        rw [ht] at k6
        simp only at k6
        cases hfn : nthL P.funcs.toList gid with
        | none => rw [hfn] at k6; exact (OK_bad.1 k6).elim
        | some fn =>
          rw [hfn] at k6
          simp only at k6
          cases hnm : (fn.name == "runtime.NumGoroutine") with
          | true => rw [hnm] at k6; simp only [cond_true] at k6; exact (OK_bad.1 k6).elim
          | false =>
            rw [hnm] at k6
            simp only [cond_false] at k6
            cases hb : fn.body with
            | none => rw [hb] at k6; exact (OK_bad.1 k6).elim
            | some cd =>
              rw [hb] at k6
              obtain ⟨e1, rfl, rfl⟩ := OK_pure.1 k6
              cases e1
              obtain ⟨⟨x, f1⟩, c5, h5, q1, q2⟩ := OK_bind.1 hd
              have fin2 : ∀ {c5 : Nat} {h5 : Heap}, OK (M.bind (leave P (rec P tbl n) f1.ds) fun _ => M.bind (resultsA P fn f1) fun v => fin P (rec P tbl n) (.rng l ⟨f.t, f.n, f.ro, mark ++ f.ds⟩ :: k) (.val v)) c5 h5 v c' h' →
                  OK ((rec P tbl n).exec cd (Fr.init (first.toList ++ [Value.func (.yield l) #[] #[]] ++ captured.toList) ((first.toList ++ [Value.func (.yield l) #[] #[]] ++ captured.toList).length + (fn.ntmps - (first.toList ++ [Value.func (.yield l) #[] #[]] ++ captured.toList).length)))) c1 h1 (x, f1) c5 h5 → (x = .normal ∨ x = .ret) →
                  ∃ n', OK (den P (rec P tbl n') k (.code (.rangeFunc g ps assign body) f)) c h v c' h' := by
                intro c5 h5 q2 q1 hx
                obtain ⟨w, c6, h6, q3, q4⟩ := OK_bind.1 q2
                obtain ⟨v2, c7, h7, q5, q6⟩ := OK_bind.1 q4
                refine tail (n2 := n + 1) (v2 := v2) (Nat.le_succ n) ?_ q6
                show OK (callS P tbl (rec P tbl n) gid _) _ _ _ _ _
                unfold callS
                rw [ht]
                simp only [hfn, hnm, cond_false, hb]
                refine OK_bind.2 ⟨_, _, _, q1, ?_⟩
                rcases hx with rfl | rfl <;> exact OK_bind.2 ⟨w, _, _, q3, q5⟩
              cases x <;> first
                | exact (OK_bad.1 q2).elim
                | exact fin2 q2 q1 (.inl rfl)
                | exact fin2 q2 q1 (.inr rfl)
    · exact (OK_bad.1 k6).elim
end
end Go.Sx

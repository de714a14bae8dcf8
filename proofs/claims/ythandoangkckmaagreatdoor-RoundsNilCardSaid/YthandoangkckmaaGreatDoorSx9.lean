import Derived.Test.YthandoangkckmaaGreatDoorSx8
namespace Go.Sx
section
variable {P : Program} {w0 : World} {F : Nat → Prop} {E : Env} {H : Heap} {w : World}

/-! ## What does not look at memory -/
def Quiet (P : Program) {α : Type} (m : Sem α) : Prop := ∀ w w2 a w1, m.run P w = .ok a w1 → w1 = w ∧ m.run P w2 = .ok a w2
def Never (P : Program) {α : Type} (m : Sem α) : Prop := ∀ w a w1, m.run P w ≠ .ok a w1
theorem Never.quiet {α : Type} {m : Sem α} (h : Never P m) : Quiet P m := fun w _ a w1 e => absurd e (h w a w1)
theorem Quiet.pure {α : Type} (a : α) : Quiet P (Pure.pure a : Sem α) := fun w w2 b w1 h => by
  simp only [Sem.run_pure, Result.ok.injEq] at h
  obtain ⟨rfl, rfl⟩ := h
  exact ⟨rfl, rfl⟩
theorem Quiet.bind {α β : Type} {m : Sem α} {f : α → Sem β} (h : Quiet P m) (hf : ∀ a, (∃ w w', m.run P w = .ok a w') → Quiet P (f a)) : Quiet P (m >>= f) := fun w w2 b w1 e => by
  rw [Sem.run_bind] at e ⊢
  cases hm : m.run P w with
  | halt x w' => rw [hm] at e; cases e
  | ok a w' =>
    rw [hm] at e
    obtain ⟨rfl, h2⟩ := h w w2 a w' hm
    obtain ⟨rfl, h3⟩ := hf a ⟨_, _, hm⟩ _ w2 b w1 e
    exact ⟨rfl, by rw [h2]; exact h3⟩
theorem never_stuck {α : Type} (why : String) : Never P (stuck why : Sem α) := fun w a w1 h => by simp at h
theorem never_unsupported {α : Type} (u : Unsupported) : Never P (unsupported u : Sem α) := fun w a w1 h => by simp at h
theorem never_bind {α β : Type} {m : Sem α} {f : α → Sem β} (h : ∀ a, Never P (f a)) : Never P (m >>= f) := fun w b w1 e => by
  rw [Sem.run_bind] at e
  cases hm : m.run P w with
  | halt x w' => rw [hm] at e; cases e
  | ok a w' => rw [hm] at e; exact h a _ _ _ e
theorem never_bind' {α β : Type} {m : Sem α} {f : α → Sem β} (h : Never P m) : Never P (m >>= f) := fun w b w1 e => by
  rw [Sem.run_bind] at e
  cases hm : m.run P w with
  | halt x w' => rw [hm] at e; cases e
  | ok a w' => exact h _ _ _ hm
theorem never_panic {α : Type} (v : Value) : Never P (goPanic v : Sem α) := fun w a w1 h => by simp at h
theorem never_runtime {α : Type} (e : RuntimeError) : Never P (runtimePanic e : Sem α) := by
  unfold runtimePanic
  refine never_bind fun p => ?_
  cases e <;> simp only <;> first
    | exact never_panic _
    | exact never_bind fun _ => never_bind fun _ => never_panic _
theorem quiet_underlying (t : TypeId) : Quiet P (underlying t) := fun w w2 a w1 h => by
  cases hu : P.underlying t with
  | none => simp [underlying, hu] at h
  | some d => rw [run_underlying hu] at h ⊢; cases h; exact ⟨rfl, rfl⟩
theorem quiet_program : Quiet P program := fun w w2 a w1 h => by simp only [run_program, Result.ok.injEq] at h ⊢; exact ⟨h.2.symm, h.1, trivial⟩
theorem quiet_info (t : TypeId) : Quiet P (typeInfo t) := fun w w2 a w1 h => by
  cases hu : P.info? t with
  | none => simp [typeInfo, hu] at h
  | some d => rw [run_info hu] at h ⊢; cases h; exact ⟨rfl, rfl⟩
theorem quiet_size (t : TypeId) : Quiet P (sizeOf t) := Quiet.bind (quiet_info t) fun _ _ => Quiet.pure _
theorem quiet_agg (t : TypeId) : Quiet P (isAgg t) := by
  unfold isAgg
  refine Quiet.bind (quiet_underlying t) fun d _ => ?_
  cases d <;> exact Quiet.pure _
theorem quiet_part (t : TypeId) (cs : Array Value) (off : Nat) : Quiet P (part t cs off) := by
  unfold part
  refine Quiet.bind (quiet_agg t) fun b _ => ?_
  cases b
  · simp only [Bool.false_eq_true, if_false]
    cases cs[off]? with
    | none => exact (never_stuck _).quiet
    | some v => exact Quiet.pure _
  · simp only [if_true]
    exact Quiet.bind (quiet_size t) fun _ _ => Quiet.pure _
theorem plainS_B {v : Value} (h : plainS v = true) : plainB v = true := by cases v <;> first | exact h | (simp [plainS] at h)
theorem part_plain {t : TypeId} {cs : Array Value} {off : Nat} {v : Value} {w1 : World} (hc : plainB (.agg cs) = true) (h : (part t cs off).run P w = .ok v w1) : plainB v = true := by
  unfold part at h
  rw [Sem.run_bind] at h
  cases hb : (isAgg t).run P w with
  | halt x w' => rw [hb] at h; cases h
  | ok b w' =>
    rw [hb] at h
    cases b
    · simp only [Result.andThen_ok, Bool.false_eq_true, if_false] at h
      cases hx : cs[off]? with
      | none => rw [hx] at h; simp at h
      | some u =>
        rw [hx] at h
        simp only [Sem.run_pure, Result.ok.injEq] at h
        obtain ⟨rfl, _⟩ := h
        exact plainS_B (List.all_eq_true.1 hc u (by
          have : cs.toList[off]? = some u := by simpa using hx
          exact List.mem_of_getElem? this))
    · simp only [Result.andThen_ok, if_true, Sem.run_bind] at h
      cases hs : (sizeOf t).run P w' with
      | halt x w'' => rw [hs] at h; cases h
      | ok n w'' =>
        rw [hs] at h
        simp only [Result.andThen_ok, Sem.run_pure, Result.ok.injEq] at h
        obtain ⟨rfl, _⟩ := h
        show ((cs.extract off (off + n)).toList.all plainS) = true
        rw [List.all_eq_true]
        intro x hx
        rw [Array.toList_extract] at hx
        have hx2 : x ∈ cs.toList := List.mem_of_mem_drop (List.mem_of_mem_take (by simpa [List.extract_eq_take_drop] using hx))
        exact List.all_eq_true.1 hc x hx2
theorem quiet_forL {α β : Type} (f : α → β → Sem (ForInStep β)) (hf : ∀ a b, Quiet P (f a b)) : ∀ (l : List α) (b : β), Quiet P (forIn l b f)
  | [], b => by simp only [List.forIn_nil]; exact Quiet.pure _
  | a :: l, b => by
    simp only [List.forIn_cons]
    refine Quiet.bind (hf a b) fun r _ => ?_
    cases r with
    | done b => exact Quiet.pure _
    | yield b => exact quiet_forL f hf l b

theorem quiet_eq : ∀ (d : Nat) (t : TypeId) (x y : Value), plainB x = true → plainB y = true → Quiet P (Op.equalIn d t x y)
  | 0, t, x, y, hx, hy => by unfold Op.equalIn; exact (never_unsupported _).quiet
  | d + 1, t, x, y, hx, hy => by
    have step : ∀ e xs ys o1 o2 (K : Bool → Sem (ForInStep (Option Bool × PUnit))), plainB (.agg xs) = true → plainB (.agg ys) = true → (∀ b, Quiet P (K b)) →
        Quiet P (do let a ← part e xs o1; let b ← part e ys o2; let r ← Op.equalIn d e a b; K r) := by
      intro e xs ys o1 o2 K h1 h2 hK
      refine Quiet.bind (quiet_part _ _ _) fun a ha => Quiet.bind (quiet_part _ _ _) fun b hb => Quiet.bind (quiet_eq d e a b ?_ ?_) fun r _ => hK r
      · obtain ⟨w, w', ha⟩ := ha; exact part_plain h1 ha
      · obtain ⟨w, w', hb⟩ := hb; exact part_plain h2 hb
    unfold Op.equalIn
    refine Quiet.bind (quiet_underlying t) fun u _ => ?_
    cases x <;> first | (simp [plainB, plainS] at hx; done) | skip
    all_goals cases y <;> first | (simp [plainB, plainS] at hy; done) | skip
    all_goals cases u <;> (try simp only) <;> first
      | exact Quiet.pure _
      | exact (never_stuck _).quiet
      | exact (never_unsupported _).quiet
      | skip
    · split
      · exact Quiet.pure _
      · exact (never_stuck _).quiet
    · refine Quiet.bind (quiet_size _) fun n _ => Quiet.bind ?_ fun s _ => ?_
      · rw [Std.Legacy.Range.forIn_eq_forIn_range']
        refine quiet_forL _ (fun i b => step _ _ _ _ _ _ hx hy fun r => ?_) _ _
        split <;> exact Quiet.pure _
      · split <;> exact Quiet.pure _
    · refine Quiet.bind quiet_program fun p _ => ?_
      split
      · exact (never_bind' (never_unsupported _)).quiet
      · refine Quiet.bind ?_ fun s _ => ?_
        · rw [← Array.forIn_toList]
          refine quiet_forL _ (fun f b => ?_) _ _
          split
          · refine step _ _ _ _ _ _ hx hy fun r => ?_
            split <;> exact Quiet.pure _
          · exact Quiet.pure _
        · split <;> exact Quiet.pure _
theorem quiet_int {op : BinOp} {x y : Int} : Quiet P (Op.intCmp op x y) := by
  unfold Op.intCmp
  split <;> first | exact Quiet.pure _ | exact (never_stuck _).quiet
theorem quiet_arith {op : BinOp} {k : IntKind} {x y : Int} : Quiet P (Op.intArith op k x y) := by
  unfold Op.intArith
  split <;> first | exact Quiet.pure _ | exact (never_stuck _).quiet
theorem quiet_div {op : BinOp} {k : IntKind} {x y : Int} : Quiet P (Op.intDiv op k x y) := by
  unfold Op.intDiv
  split
  · exact (never_runtime _).quiet
  · split <;> first | exact Quiet.pure _ | exact (never_stuck _).quiet
theorem quiet_bits {op : BinOp} {k : IntKind} {x y : Int} : Quiet P (Op.intBits op k x y) := by
  unfold Op.intBits
  simp only
  split <;> first | exact Quiet.pure _ | exact (never_stuck _).quiet
theorem quiet_shift {op : BinOp} {k j : IntKind} {x y : Int} : Quiet P (Op.shift op k x j y) := by
  unfold Op.shift
  split
  · exact (never_runtime _).quiet
  · simp only
    split <;> first | exact Quiet.pure _ | exact (never_stuck _).quiet
theorem quiet_string {op : BinOp} {x y : ByteArray} : Quiet P (Op.stringOp op x y) := by
  unfold Op.stringOp
  simp only
  split <;> first
    | exact Quiet.pure _
    | exact (never_stuck _).quiet
    | (split <;> first | exact Quiet.pure _ | exact (never_unsupported _).quiet)
theorem quiet_bin {op : BinOp} {t : TypeId} {x y : Value} (hx : plainB x = true) (hy : plainB y = true) : Quiet P (binOp op t x y) := by
  have hq : Quiet P (Op.equal t x y) := quiet_eq _ t x y hx hy
  cases x <;> first | (simp [plainB, plainS] at hx; done) | skip
  all_goals cases y <;> first | (simp [plainB, plainS] at hy; done) | skip
  all_goals cases op <;> simp only [binOp] <;> first
    | exact (never_stuck _).quiet
    | exact quiet_string
    | exact quiet_shift
    | exact Quiet.bind hq fun _ _ => Quiet.pure _
    | (split <;> first
        | exact (never_stuck _).quiet
        | exact quiet_int
        | exact quiet_arith
        | exact quiet_div
        | exact quiet_bits)
theorem quiet_un {op : UnOp} {x : Value} (hx : plainB x = true) : Quiet P (Op.unary op x) := by
  cases x <;> first | (simp [plainB, plainS] at hx; done) | skip
  all_goals cases op <;> simp only [Op.unary] <;> first
    | exact (never_stuck _).quiet
    | exact Quiet.pure _
    | exact quiet_arith
    | exact quiet_bits
theorem pure_run {m : Sem Value} {v : Value} (h : pureRun P m = some v) (hq : Quiet P m) (w : World) : m.run P w = .ok v w ∧ cleanB v = true := by
  unfold pureRun at h
  split at h
  · rename_i u w1 hu
    cases hc : cleanB u with
    | true => rw [hc] at h; cases h; exact ⟨(hq _ w _ _ hu).2, hc⟩
    | false => rw [hc] at h; cases h
  · cases h


/-! ## Maps -/
theorem bytes_beq {a b : ByteArray} (h : (a == b) = true) : a = b := by
  cases a; cases b
  rename_i x y
  have h2 : (x == y) = true := h
  rw [eq_of_beq h2]
theorem bytes_refl (a : ByteArray) : (a == a) = true := by
  cases a
  rename_i x
  show (x == x) = true
  exact beq_self_eq_true x
theorem beqS_plain {a b : Value} (ha : plainS a = true) (h : beqS a b = true) : a = b := by
  cases a <;> first | (simp [plainS] at ha; done) | skip
  all_goals cases b <;> first | (simp [beqS] at h; done) | skip
  · simp only [beqS, beq_iff_eq] at h; rw [h]
  · simp only [beqS, Bool.and_eq_true, decide_eq_true_eq] at h; rw [h.1, h.2]
  · simp only [beqS, decide_eq_true_eq] at h
    rename_i x y
    cases x; cases y
    simp only at h
    rw [h]
theorem beqL_plain : ∀ {a b : List Value}, a.all plainS = true → beqL a b = true → a = b
  | [], [], _, _ => rfl
  | [], _ :: _, _, h => by cases h
  | _ :: _, [], _, h => by cases h
  | x :: a, y :: b, ha, h => by
    simp only [List.all_cons, Bool.and_eq_true] at ha
    simp only [beqL, Bool.and_eq_true] at h
    rw [beqS_plain ha.1 h.1, beqL_plain ha.2 h.2]
theorem beqV_plain {a b : Array Value} {b' : Value} (ha : plainB (.agg a) = true) (h : beqV (.agg a) b' = true) (hb : b' = .agg b) : Value.agg a = b' := by
  subst hb
  have h2 : beqL a.toList b.toList = true := h
  have := beqL_plain ha h2
  rw [Array.toList_inj.1 this]
theorem sameBits_self (n : Nat) : ∀ {v : Value}, plainS v = true → Instr.sameBits n v v = true := by
  intro v hv
  cases v <;> first | (simp [plainS] at hv; done) | skip
  all_goals (cases n <;> simp [Instr.sameBits, bytes_refl])
theorem sameBits_zip (n : Nat) : ∀ {l : List Value}, l.all plainS = true → ((l.zip l).all fun (x, y) => Instr.sameBits n x y) = true
  | [], _ => rfl
  | x :: l, h => by
    simp only [List.all_cons, Bool.and_eq_true] at h
    simp only [List.zip_cons_cons, List.all_cons, Bool.and_eq_true]
    exact ⟨sameBits_self n h.1, sameBits_zip n h.2⟩
theorem sameBits_key {v : Value} (hv : plainB v = true) : Instr.sameBits 10000 v v = true := by
  cases v with
  | agg a =>
    show Instr.sameBits (9999 + 1) (.agg a) (.agg a) = true
    simp only [Instr.sameBits, beq_self_eq_true, Bool.true_and]
    exact sameBits_zip 9999 hv
  | bool b => exact sameBits_self _ rfl
  | int k n => exact sameBits_self _ rfl
  | string s => exact sameBits_self _ rfl
  | _ => simp [plainB, plainS] at hv
theorem quiet_check : ∀ (n : Nat) (e : Bool) (t : TypeId) (v : Value), plainB v = true → Quiet P (Instr.checkKey e n t v)
  | 0, _, _, _, _ => by unfold Instr.checkKey; exact (never_unsupported _).quiet
  | n + 1, e, t, v, hv => by
    unfold Instr.checkKey
    refine Quiet.bind (quiet_underlying t) fun u _ => ?_
    have step : ∀ (T : TypeId) (cs : Array Value) (off : Nat), plainB (.agg cs) = true → Quiet P (do let a ← part T cs off; Instr.checkKey e n T a : Sem Unit) := fun T cs off h =>
      Quiet.bind (quiet_part _ _ _) fun a ⟨w, w', ha⟩ => quiet_check n e T a (part_plain h ha)
    cases v <;> first | (simp [plainB, plainS] at hv; done) | skip
    all_goals cases u <;> (try simp only) <;> first
      | exact Quiet.pure _
      | exact (never_stuck _).quiet
      | skip
    · refine Quiet.bind ?_ fun _ _ => Quiet.pure _
      rw [Std.Legacy.Range.forIn_eq_forIn_range']
      refine quiet_forL _ (fun i b => ?_) _ _
      refine Quiet.bind (quiet_size _) fun m _ => Quiet.bind (quiet_part _ _ _) fun a ⟨w, w', ha⟩ => Quiet.bind (quiet_check n e _ a (part_plain hv ha)) fun _ _ => Quiet.pure _
    · refine Quiet.bind ?_ fun _ _ => Quiet.pure _
      rw [← Array.forIn_toList]
      refine quiet_forL _ (fun f b => ?_) _ _
      split
      · exact Quiet.bind (quiet_part _ _ _) fun a ⟨w, w', ha⟩ => Quiet.bind (quiet_check n e _ a (part_plain hv ha)) fun _ _ => Quiet.pure _
      · exact Quiet.pure _
/-- What is known of a key: it is plain, and may be one. -/
theorem key_plain {t : TypeId} {v : Value} (h : keyB P t v = true) : plainB v = true ∧ ∀ e w, (Instr.checkKey e 10000 t v).run P w = .ok () w := by
  unfold keyB at h
  have easy : ∀ {d : TypeDesc}, P.underlying t = some d → (match v, d with | .int _ _, .int _ => True | .string _, .string => True | .bool _, .bool => True | _, _ => False) → ∀ e w, (Instr.checkKey e 10000 t v).run P w = .ok () w := by
    intro d hu hm e w
    show (Instr.checkKey e (9999 + 1) t v).run P w = .ok () w
    unfold Instr.checkKey
    rw [Sem.run_bind, run_underlying hu, Result.andThen_ok]
    cases v <;> cases d <;> first | exact hm.elim | rfl
  cases hu : P.underlying t with
  | none => rw [hu] at h; cases v <;> cases h
  | some d =>
    rw [hu] at h
    cases v <;> cases d <;> (try (cases h; done)) <;> simp only at h
    · exact ⟨rfl, easy hu trivial⟩
    · exact ⟨rfl, easy hu trivial⟩
    · exact ⟨rfl, easy hu trivial⟩
    · rename_i cs _ fs
      simp only [Bool.and_eq_true] at h
      obtain ⟨⟨h1, h2⟩, h3⟩ := h
      refine ⟨h1, fun e w => ?_⟩
      have fin : ∀ e, chkB P e t (.agg cs) = true → (Instr.checkKey e 10000 t (.agg cs)).run P w = .ok () w := by
        intro e he
        unfold chkB at he
        split at he
        · rename_i u w1 hr; exact (quiet_check _ e t _ h1 _ w _ _ hr).2
        · cases he
      cases e
      · exact fin false h2
      · exact fin true h3
theorem PR.get [Den] : ∀ {es : List (Value × Value)} {ents : List MapEntry}, PR E es ents → ∀ {j : Nat} {p : Value × Value}, es[j]? = some p → ∃ e, ents[j]? = some e ∧ VR E p.1 e.key ∧ VR E p.2 e.val
  | _, _, .cons hk hv _, 0, p, h => by cases h; exact ⟨_, rfl, hk, hv⟩
  | _, _, .cons _ _ hp, j + 1, p, h => hp.get (by simpa using h)
theorem PR.length [Den] {E : Env} {xs : List (Value × Value)} {ys : List MapEntry} (h : PR E xs ys) : xs.length = ys.length := by
  induction h with
  | nil => rfl
  | cons _ _ _ ih => simp [ih]
/-- The search for a key, as the model makes it. -/
theorem find_idx [Den] {t : TypeId} {k : Value} (hkb : keyB P t k = true) {es : List (Value × Value)} {ents : List MapEntry} {o : Option Nat} (h : idxA (eqK P t k) es 0 = some o) (hp : PR E es ents) (w : World) :
    ∃ r, (Instr.findKey t k ents).run P w = .ok r w ∧ ((o = none ∧ r = none) ∨ ∃ j e, o = some j ∧ ents[j]? = some e ∧ e.key = k ∧ r = some (j, e.val)) := by
  have hkp := (key_plain hkb).1
  by_cases hagg : ∃ cs, k = .agg cs
  · obtain ⟨cs, rfl⟩ := hagg
    have hst : ∃ fs, P.underlying t = some (.struct fs) := by
      unfold keyB at hkb
      cases hu : P.underlying t with
      | none => rw [hu] at hkb; cases hkb
      | some d => rw [hu] at hkb; cases d <;> first | exact ⟨_, rfl⟩ | (cases hkb; done)
    obtain ⟨fs, hu⟩ := hst
    have ask : ∀ (es : List (Value × Value)) (ents : List MapEntry) (i : Nat), idxA (eqK P t (.agg cs)) es i = some o → PR E es ents →
        ∃ r, (Instr.findAsking t (.agg cs) ents i).run P w = .ok r w ∧ ((o = none ∧ r = none) ∨ ∃ j e, o = some (i + j) ∧ ents[j]? = some e ∧ e.key = .agg cs ∧ r = some (i + j, e.val)) := by
      intro es
      induction es with
      | nil =>
        intro ents i h hp
        cases hp
        simp only [idxA, Option.some.injEq] at h
        exact ⟨none, rfl, .inl ⟨h.symm, rfl⟩⟩
      | cons p es ih =>
        intro ents i h hp
        obtain ⟨k', u⟩ := p
        cases hp with
        | cons hkk hv hp =>
          rename_i e ys
          simp only [idxA] at h
          cases hq : eqK P t (.agg cs) k' with
          | none => rw [hq] at h; cases h
          | some b =>
            rw [hq] at h
            have hq2 := hq
            simp only [eqK] at hq2
            cases hpl : (plainB (.agg cs) && plainB k') with
            | false => rw [hpl] at hq2; cases hq2
            | true =>
              rw [hpl] at hq2
              simp only [cond_true] at hq2
              have hk'p : plainB k' = true := (Bool.and_eq_true _ _ ▸ hpl : _ ∧ _).2
              have he : e.key = k' := hkk.plain hk'p
              have hrun : ∃ b', eqRun P t (.agg cs) k' = some b' ∧ (b = b') ∧ (b = true → beqV (.agg cs) k' = true) := by
                cases hr : eqRun P t (.agg cs) k' with
                | none => rw [hr] at hq2; cases hq2
                | some b' =>
                  rw [hr] at hq2
                  cases b' with
                  | false => simp only [Option.some.injEq] at hq2; exact ⟨false, rfl, hq2.symm, fun hb => by rw [← hq2] at hb; cases hb⟩
                  | true =>
                    simp only at hq2
                    cases hbq : beqV (.agg cs) k' with
                    | false => rw [hbq] at hq2; cases hq2
                    | true => rw [hbq] at hq2; simp only [cond_true, Option.some.injEq] at hq2; exact ⟨true, rfl, hq2.symm, fun _ => rfl⟩
              obtain ⟨b', hr, hbb, hbeq⟩ := hrun
              subst hbb
              have hop : (Op.equal t (.agg cs) e.key).run P w = .ok b w := by
                unfold eqRun at hr
                split at hr
                · rename_i r1 w1 hr1
                  cases hr
                  rw [he]
                  exact (quiet_eq _ t _ _ hkp hk'p _ w _ _ hr1).2
                · cases hr
              cases b with
              | true =>
                simp only [Option.some.injEq] at h
                refine ⟨some (i, e.val), ?_, .inr ⟨0, e, h.symm, rfl, ?_, rfl⟩⟩
                · simp only [Instr.findAsking, Sem.run_bind, hop, Result.andThen_ok, if_true, Sem.run_pure]
                · rw [he]
                  have hb2 := hbeq rfl
                  cases k' with
                  | agg cs' => exact (beqV_plain hkp hb2 rfl).symm
                  | _ => simp [beqV, beqS] at hb2
              | false =>
                simp only at h
                obtain ⟨r, q1, q2⟩ := ih ys (i + 1) h hp
                refine ⟨r, ?_, ?_⟩
                · simp only [Instr.findAsking, Sem.run_bind, hop, Result.andThen_ok, Bool.false_eq_true, if_false]
                  exact q1
                · rcases q2 with q2 | ⟨j, e2, q2, q3, q4, q5⟩
                  · exact .inl q2
                  · exact .inr ⟨j + 1, e2, by rw [q2]; congr 1; omega, by simpa using q3, q4, by rw [q5]; congr 2; omega⟩
    obtain ⟨r, q1, q2⟩ := ask es ents 0 h hp
    have hq2 : (o = none ∧ r = none) ∨ ∃ j e, o = some j ∧ ents[j]? = some e ∧ e.key = .agg cs ∧ r = some (j, e.val) := by
      rcases q2 with q2 | ⟨j, e2, q2, q3, q4, q5⟩
      · exact .inl q2
      · rw [Nat.zero_add] at q2 q5; exact .inr ⟨j, e2, q2, q3, q4, q5⟩
    cases ents with
    | nil =>
      refine ⟨r, ?_, hq2⟩
      have hr0 : r = none := by
        rcases hq2 with h2 | ⟨j, e2, _, h2, _⟩
        · exact h2.2
        · simp at h2
      subst hr0
      simp [Instr.findKey, run_underlying hu, Instr.findNow]
    | cons e ys =>
      refine ⟨r, ?_, hq2⟩
      simp only [Instr.findKey, Sem.run_bind, run_underlying hu, Result.andThen_ok, Instr.findNow, Instr.sameNow]
      exact q1
  · have hse : ∀ k', eqK P t k k' = sameA k k' := fun k' => by
      cases k <;> first | rfl | exact absurd ⟨_, rfl⟩ hagg
    have now : ∃ d, P.underlying t = some d ∧ ∀ k' b, sameA k k' = some b → plainB k' = true ∧ Instr.sameNow d k k' = some b ∧ (b = true → k' = k) := by
      unfold keyB at hkb
      cases hu : P.underlying t with
      | none => rw [hu] at hkb; cases k <;> cases hkb
      | some d =>
        rw [hu] at hkb
        cases k <;> cases d <;> (try (cases hkb; done)) <;> refine ⟨_, rfl, fun k' b h => ?_⟩
        · cases k' <;> first | (simp only [sameA, reduceCtorEq] at h; done) | skip
          exact ⟨rfl, h, fun hb => by subst hb; have h2 := Option.some.inj h; have h3 := eq_of_beq h2; rw [h3]⟩
        · cases k' <;> first | (simp only [sameA, reduceCtorEq] at h; done) | skip
          rename_i i n _ _ j m
          simp only [sameA] at h
          by_cases hij : i = j
          · rw [if_pos hij] at h
            refine ⟨rfl, by simp only [Instr.sameNow, if_pos hij, h], fun hb => ?_⟩
            simp only [Option.some.injEq] at h; subst hb; simp at h; rw [hij, h]
          · rw [if_neg hij] at h; cases h
        · cases k' <;> first | (simp only [sameA, reduceCtorEq] at h; done) | skip
          exact ⟨rfl, h, fun hb => by subst hb; have h2 := Option.some.inj h; have h3 := bytes_beq h2; rw [h3]⟩
        · exact absurd ⟨_, rfl⟩ hagg
    obtain ⟨d, hu, hsn⟩ := now
    have look : ∀ (es : List (Value × Value)) (ents : List MapEntry) (i : Nat), idxA (eqK P t k) es i = some o → PR E es ents →
        ∃ r, Instr.findNow d k ents i = some r ∧ ((o = none ∧ r = none) ∨ ∃ j e, o = some (i + j) ∧ ents[j]? = some e ∧ e.key = k ∧ r = some (i + j, e.val)) := by
      intro es
      induction es with
      | nil =>
        intro ents i h hp
        cases hp
        simp only [idxA, Option.some.injEq] at h
        exact ⟨none, rfl, .inl ⟨h.symm, rfl⟩⟩
      | cons p es ih =>
        intro ents i h hp
        obtain ⟨k', u⟩ := p
        cases hp with
        | cons hkk hv hp =>
          rename_i e ys
          simp only [idxA, hse] at h
          cases hq : sameA k k' with
          | none => rw [hq] at h; cases h
          | some b =>
            rw [hq] at h
            obtain ⟨h1, h2, h3⟩ := hsn k' b hq
            have he : e.key = k' := hkk.plain h1
            cases b with
            | true =>
              simp only [Option.some.injEq] at h
              exact ⟨some (i, e.val), by simp [Instr.findNow, he, h2], .inr ⟨0, e, h.symm, rfl, by rw [he, h3 rfl], rfl⟩⟩
            | false =>
              simp only at h
              obtain ⟨r, q1, q2⟩ := ih ys (i + 1) h hp
              refine ⟨r, by simp [Instr.findNow, he, h2, q1], ?_⟩
              rcases q2 with q2 | ⟨j, e2, q2, q3, q4, q5⟩
              · exact .inl q2
              · exact .inr ⟨j + 1, e2, by rw [q2]; congr 1; omega, by simpa using q3, q4, by rw [q5]; congr 2; omega⟩
    obtain ⟨r, q1, q2⟩ := look es ents 0 h hp
    refine ⟨r, by simp [Instr.findKey, run_underlying hu, q1], ?_⟩
    rcases q2 with q2 | ⟨j, e2, q2, q3, q4, q5⟩
    · exact .inl q2
    · rw [Nat.zero_add] at q2 q5; exact .inr ⟨j, e2, q2, q3, q4, q5⟩

theorem mapGet_inv {i c c' : Nat} {mp : MpA} {H' : Heap} {L : Lg} (h : mapGet i c H = .ok mp c' H' L) : c' = c ∧ H' = H ∧ H.get i = some (.map mp.es mp.bs mp.clk) := by
  unfold mapGet at h
  split at h
  · rename_i hi; cases h; exact ⟨rfl, rfl, hi⟩
  · cases h
theorem mapSet_inv {i c c' : Nat} {es : List (Value × Value)} {bs : List Nat} {clk : Nat} {H' : Heap} {L : Lg} (h : mapSet i es bs clk c H = .ok () c' H' L) : c' = c ∧ H' = H.set i (.map es bs clk) := by
  unfold mapSet at h
  split at h
  · cases h; exact ⟨rfl, rfl⟩
  · cases h
theorem map_types {t kt et : TypeId} (h : mapT P t = some (kt, et)) : P.underlying t = some (.map kt et) := by
  unfold mapT at h; split at h
  · rename_i hu; cases h; exact hu
  · cases h
theorem run_getMap {r : Nat} {ents : Array MapEntry} {clock : Nat} (h : w.heap[r]? = some (.map ents clock)) : (getObj r).run P w = .ok (.map ents clock) w := by
  simp [getObj, Sem.run, h]
theorem run_setMap {r : Nat} {o o' : Obj} (h : w.heap[r]? = some o) (ho : ∀ c T fz, o ≠ .cells c T fz) : (setObj r o').run P w = .ok () { w with heap := w.heap.setIfInBounds r o' } := by
  cases o <;> first | (exact absurd rfl (ho _ _ _)) | simp [setObj, Sem.run, h]

theorem lookup_sound [Den] {t : TypeId} {x x' k k' v : Value} {ok : Bool} {c c' : Nat} {H' : Heap} {L : Lg} (h : lookupA P t x k ok c H = .ok v c' H' L) (hr : HR P w0 F E H w) (hx : VR E x x') (hk : VR E k k') :
    c' = c ∧ H' = H ∧ ∃ v', (Instr.lookup t x' k' ok).run P w = .ok v' w ∧ VR E v v' := by
  unfold lookupA at h
  replace h := bopt h
  obtain ⟨⟨kt, et⟩, _, hm, h⟩ := h
  simp only at h
  replace h := bguard h
  obtain ⟨_, hkb, h⟩ := h
  replace h := bopt h
  obtain ⟨z, _, hz, h⟩ := h
  replace h := bguard h
  obtain ⟨_, hcl, h⟩ := h
  replace h := bind_ok.1 h
  obtain ⟨mp, c1, h1, _, _, hes, h, _⟩ := h
  have hu := map_types hm
  obtain ⟨hkp, hck⟩ := key_plain hkb
  have hk' : k' = k := hk.plain hkp
  subst hk'
  have hzz := VR.clean (E := E) hcl
  have base : c1 = c ∧ h1 = H ∧ ∃ ents : List MapEntry, PR E mp.es ents ∧ ∀ (r' : Option (Nat × Value)), (Instr.findKey kt k' ents).run P w = .ok r' w →
      (Instr.lookup t x' k' ok).run P w = .ok (if ok then .tuple #[(match r' with | some (_, v) => v | none => z), .bool (match r' with | some _ => true | none => false)] else (match r' with | some (_, v) => v | none => z)) w := by
    cases hx <;> simp only at hes <;> first | (exact (bad_ok.1 hes).elim) | skip
    · obtain ⟨q1, q2, q3, _⟩ := pure_ok.1 hes
      subst q1 q2 q3
      refine ⟨rfl, rfl, [], .nil, fun r' hf => ?_⟩
      simp only [Instr.lookup, Sem.run_bind, run_underlying hu, Result.andThen_ok, Sem.run_pure, hck, hf]
      cases r' <;> simp [run_zero hz]
    · rename_i i e he
      obtain ⟨q1, q2, hi⟩ := mapGet_inv hes
      subst q1 q2
      obtain ⟨e2, ents, clock, q1, q2, q3, _⟩ := hr.obj i _ hi
      rw [he] at q1; cases q1
      refine ⟨rfl, rfl, ents.toList, q3, fun r' hf => ?_⟩
      simp only [Instr.lookup, Sem.run_bind, run_underlying hu, Result.andThen_ok, run_getMap q2, Sem.run_pure, hck, hf]
      cases r' <;> simp [run_zero hz]
  obtain ⟨hc, hh, ents, hp, hrun⟩ := base
  subst hc hh
  cases hf : idxA (eqK P kt k') mp.es 0 with
  | none => rw [hf] at h; exact (bad_ok.1 h).elim
  | some r =>
    rw [hf] at h
    obtain ⟨r', hf', hcase⟩ := find_idx hkb hf hp w
    cases r with
    | some j =>
      simp only [nthL_eq] at h
      cases hj : mp.es[j]? with
      | none => rw [hj] at h; exact (bad_ok.1 h).elim
      | some p =>
        rw [hj] at h
        obtain ⟨hv, hc, hh, _⟩ := pure_ok.1 h
        subst hc hh
        rcases hcase with ⟨q1, _⟩ | ⟨j2, e2, q1, q2, q3, q4⟩
        · cases q1
        · cases q1
          obtain ⟨e3, g1, g2, g3⟩ := hp.get hj
          rw [q2] at g1; cases g1
          subst q4
          refine ⟨rfl, rfl, _, hrun _ hf', ?_⟩
          subst hv
          cases ok
          · simpa using g3
          · exact .tup_of (LR.cons g3 (LR.cons (.bool _) (LR.nil E)))
    | none =>
      obtain ⟨hv, hc, hh, _⟩ := pure_ok.1 h
      subst hc hh
      rcases hcase with ⟨q1, q2⟩ | ⟨j2, e2, q1, q2, q3, q4⟩
      · subst q2
        refine ⟨rfl, rfl, _, hrun _ hf', ?_⟩
        subst hv
        cases ok
        · simpa using hzz
        · exact .tup_of (LR.cons hzz (LR.cons (.bool _) (LR.nil E)))
      · cases q1

theorem PR.append [Den] {es : List (Value × Value)} {ents : List MapEntry} (h : PR E es ents) {k v : Value} {e : MapEntry} (hk : VR E k e.key) (hv : VR E v e.val) : PR E (es ++ [(k, v)]) (ents ++ [e]) := by
  induction h with
  | nil => exact .cons hk hv .nil
  | cons a b _ ih => exact .cons a b ih
theorem PR.modify [Den] {es : List (Value × Value)} {ents : List MapEntry} (h : PR E es ents) {k v k' v' : Value} (hk : VR E k k') (hv : VR E v v') : ∀ {j : Nat}, PR E (es.set j (k, v)) (ents.modify j fun e => { e with key := k', val := v' }) := by
  induction h with
  | nil => intro j; simp; exact .nil
  | cons a b hp ih =>
    intro j
    cases j with
    | zero => exact .cons hk hv hp
    | succ j => simp only [List.set_cons_succ, List.modify_succ_cons]; exact .cons a b ih
theorem PR.erase [Den] {es : List (Value × Value)} {ents : List MapEntry} (h : PR E es ents) : ∀ {j : Nat}, PR E (es.eraseIdx j) (ents.eraseIdx j) := by
  induction h with
  | nil => intro j; simp; exact .nil
  | cons a b hp ih =>
    intro j
    cases j with
    | zero => simpa using hp
    | succ j => simp only [List.eraseIdx_cons_succ]; exact .cons a b ih
theorem eraL_eq {α : Type} (l : List α) (j : Nat) : eraL l j = l.eraseIdx j := by
  unfold eraL
  rw [appL_eq, takL_eq, droL_eq, List.eraseIdx_eq_take_drop_succ]
theorem born_modify {ents : List MapEntry} {k v : Value} (j : Nat) : (ents.modify j fun e => { e with key := k, val := v }).map (·.born) = ents.map (·.born) := by
  induction ents generalizing j with
  | nil => simp
  | cons e es ih =>
    cases j with
    | zero => simp
    | succ j => simp only [List.modify_succ_cons, List.map_cons, ih]
theorem born_erase {ents : List MapEntry} (j : Nat) : (ents.eraseIdx j).map (·.born) = (ents.map (·.born)).eraseIdx j := by
  induction ents generalizing j with
  | nil => simp
  | cons e es ih =>
    cases j with
    | zero => simp
    | succ j => simp only [List.eraseIdx_cons_succ, List.map_cons, ih]
theorem map_turn [Den] (hr : HR P w0 F E H w) {i : Nat} {es es2 : List (Value × Value)} {bs bs2 : List Nat} {clk clk2 : Nat} {e : EI} (hi : H.get i = some (.map es bs clk)) (he : E i = some e) {ents2 : Array MapEntry} (hp : PR E es2 ents2.toList) (hb : ents2.toList.map (·.born) = bs2) :
    HR P w0 F E (H.set i (.map es2 bs2 clk2)) { w with heap := w.heap.setIfInBounds e.blk (.map ents2 clk2) } := by
  have hlt : e.blk < w.heap.size := hr.blk_lt hi rfl he
  refine hr.turn hi rfl rfl he rfl rfl rfl (by simp) (fun b hb => ?_) ⟨e, ents2, clk2, he, ?_, hp, hb, rfl⟩
  · rw [Array.getElem?_setIfInBounds_ne (Ne.symm hb)]
  · simp [hlt]
theorem update_sound [Den] {t : TypeId} {x x' k k' v v' : Value} {c c' : Nat} {H' : Heap} {L : Lg} (h : mapUpdateA P t x k v c H = .ok () c' H' L) (hr : HR P w0 F E H w) (hx : VR E x x') (hk : VR E k k') (hv : VR E v v') :
    c' = c ∧ ∃ w', (Instr.mapUpdate t x' k' v').run P w = .ok () w' ∧ HR P w0 F E H' w' := by
  unfold mapUpdateA at h
  replace h := bopt h
  obtain ⟨⟨kt, et⟩, _, hm, h⟩ := h
  simp only at h
  replace h := bguard h
  obtain ⟨_, hkb, h⟩ := h
  have hu := map_types hm
  obtain ⟨hkp, hck⟩ := key_plain hkb
  have hk' : k' = k := hk.plain hkp
  subst hk'
  cases hx <;> simp only at h <;> first | (exact (bad_ok.1 h).elim) | skip
  rename_i i e he
  replace h := bind_ok.1 h
  obtain ⟨mp, c1, h1, _, _, hes, h, _⟩ := h
  obtain ⟨q1, q2, hi⟩ := mapGet_inv hes
  subst q1 q2
  obtain ⟨e2, ents, clock, m1, m2, m3, m4, m5⟩ := hr.obj i _ hi
  rw [he] at m1; cases m1
  subst m5
  cases hf : idxA (eqK P kt k') mp.es 0 with
  | none => rw [hf] at h; exact (bad_ok.1 h).elim
  | some o =>
    rw [hf] at h
    obtain ⟨r', hf', hcase⟩ := find_idx hkb hf m3 w
    cases o with
    | none =>
      obtain ⟨q1, q2⟩ := mapSet_inv h
      subst q1 q2
      rcases hcase with ⟨_, q2⟩ | ⟨j2, e2, q1, q2, q3, q4⟩
      · subst q2
        refine ⟨rfl, _, ?_, map_turn hr hi he (ents2 := ents.push { key := k', val := v', born := mp.clk }) (clk2 := mp.clk + 1) ?_ ?_⟩
        · simp only [Instr.mapUpdate, Sem.run_bind, run_underlying hu, Result.andThen_ok, run_getMap m2, hck, hf']
          exact run_setMap m2 (fun _ _ _ h => by cases h)
        · rw [appL_eq, Array.toList_push]
          exact m3.append hk hv
        · rw [appL_eq, Array.toList_push, List.map_append, m4]; rfl
      · cases q1
    | some j =>
      obtain ⟨q1, q2⟩ := mapSet_inv h
      subst q1 q2
      rcases hcase with ⟨q1, _⟩ | ⟨j2, e2, q1, q2, q3, q4⟩
      · cases q1
      · cases q1
        subst q4
        refine ⟨rfl, _, ?_, map_turn hr hi he (ents2 := ents.modify j fun e => { e with key := k', val := v' }) (clk2 := mp.clk) ?_ ?_⟩
        · have hkey : ((ents[j]?).map (·.key)).getD k' = k' := by
            have : ents[j]? = some e2 := by simpa using q2
            rw [this]; simpa using q3
          have hstay : (Instr.keyThatStays k' k').run P w = .ok k' w := by
            simp [Instr.keyThatStays, sameBits_key hkp]
          simp only [Instr.mapUpdate, Sem.run_bind, run_underlying hu, Result.andThen_ok, run_getMap m2, hck, hf', hkey, hstay]
          exact run_setMap m2 (fun _ _ _ h => by cases h)
        · rw [setL_std, Array.toList_modify]
          exact m3.modify hk hv
        · rw [Array.toList_modify, born_modify, m4]

theorem delete_sound [Den] {ats : Array TypeId} {t ty : TypeId} (hat : ats[0]? = some t) {x x' k k' : Value} {c c' : Nat} {H' : Heap} {L : Lg} (h : deleteA P t x k c H = .ok () c' H' L) (hr : HR P w0 F E H w) (hx : VR E x x') (hk : VR E k k') :
    c' = c ∧ ∃ w', (Builtin.delete_ ats ty #[x', k']).run P w = .ok (.tuple #[]) w' ∧ HR P w0 F E H' w' := by
  unfold deleteA at h
  replace h := bopt h
  obtain ⟨⟨kt, et⟩, _, hm, h⟩ := h
  simp only at h
  replace h := bguard h
  obtain ⟨_, hkb, h⟩ := h
  have hu := map_types hm
  obtain ⟨hkp, hck⟩ := key_plain hkb
  have hk' : k' = k := hk.plain hkp
  subst hk'
  cases hx <;> simp only at h <;> first | (exact (bad_ok.1 h).elim) | skip
  · obtain ⟨_, q1, q2, _⟩ := pure_ok.1 h
    subst q1 q2
    refine ⟨rfl, w, ?_, hr⟩
    simp [Builtin.delete_, hat, run_underlying hu, hck]
  rename_i i e he
  replace h := bind_ok.1 h
  obtain ⟨mp, c1, h1, _, _, hes, h, _⟩ := h
  obtain ⟨q1, q2, hi⟩ := mapGet_inv hes
  subst q1 q2
  obtain ⟨e2, ents, clock, m1, m2, m3, m4, m5⟩ := hr.obj i _ hi
  rw [he] at m1; cases m1
  subst m5
  cases hf : idxA (eqK P kt k') mp.es 0 with
  | none => rw [hf] at h; exact (bad_ok.1 h).elim
  | some o =>
    rw [hf] at h
    obtain ⟨r', hf', hcase⟩ := find_idx hkb hf m3 w
    cases o with
    | none =>
      obtain ⟨q1, q2⟩ := mapSet_inv h
      subst q1 q2
      rcases hcase with ⟨_, q2⟩ | ⟨j2, e2, q1, q2, q3, q4⟩
      · subst q2
        refine ⟨rfl, _, ?_, map_turn hr hi he (ents2 := ents) (clk2 := mp.clk) m3 m4⟩
        simp [Builtin.delete_, hat, run_underlying hu, run_getMap m2, hck, hf', run_setMap (P := P) (o' := .map ents mp.clk) m2 (fun _ _ _ h => by cases h)]
      · cases q1
    | some j =>
      obtain ⟨q1, q2⟩ := mapSet_inv h
      subst q1 q2
      rcases hcase with ⟨q1, _⟩ | ⟨j2, e2, q1, q2, q3, q4⟩
      · cases q1
      · cases q1
        subst q4
        have hlt : j < ents.size := by
          have := (List.getElem?_eq_some_iff.1 q2).1
          simpa using this
        have hel : (ents.eraseIdxIfInBounds j).toList = ents.toList.eraseIdx j := by
          unfold Array.eraseIdxIfInBounds
          rw [dif_pos hlt]; simp
        refine ⟨rfl, _, ?_, map_turn hr hi he (ents2 := ents.eraseIdxIfInBounds j) (clk2 := mp.clk) ?_ ?_⟩
        · simp [Builtin.delete_, hat, run_underlying hu, run_getMap m2, hck, hf', run_setMap (P := P) (o' := .map (ents.eraseIdxIfInBounds j) mp.clk) m2 (fun _ _ _ h => by cases h)]
        · rw [hel, eraL_eq]; exact m3.erase
        · rw [hel, eraL_eq, born_erase, m4]

theorem len_sound [Den] {ats : Array TypeId} {t ty : TypeId} (hat : ats[0]? = some t) {x x' v : Value} {c c' : Nat} {H' : Heap} {L : Lg} (h : lenBuiltin P t x c H = .ok v c' H' L) (hr : HR P w0 F E H w) (hx : VR E x x') :
    c' = c ∧ H' = H ∧ ∃ v', (Builtin.len_ ats ty #[x']).run P w = .ok v' w ∧ VR E v v' := by
  unfold lenBuiltin at h
  cases hu : P.underlying t with
  | none => rw [hu] at h; exact (bad_ok.1 h).elim
  | some d =>
    rw [hu] at h
    cases d <;> simp only at h <;> first | (exact (bad_ok.1 h).elim) | skip
    · cases x <;> (try simp only at h) <;> first | (exact (bad_ok.1 h).elim) | skip
      obtain ⟨hv, hc, hh, _⟩ := pure_ok.1 h
      subst hv hc hh
      cases hx
      exact ⟨rfl, rfl, _, by simp [Builtin.len_, hat, run_underlying hu]; rfl, .int _ _⟩
    · cases x <;> (try simp only at h) <;> first | (exact (bad_ok.1 h).elim) | skip
      obtain ⟨hv, hc, hh, _⟩ := pure_ok.1 h
      subst hv hc hh
      cases hx <;> exact ⟨rfl, rfl, _, by simp [Builtin.len_, hat, run_underlying hu]; rfl, .int _ _⟩
    · obtain ⟨hv, hc, hh, _⟩ := pure_ok.1 h
      subst hv hc hh
      exact ⟨rfl, rfl, _, by simp [Builtin.len_, hat, run_underlying hu]; rfl, .int _ _⟩
    · cases x <;> (try simp only at h) <;> first | (exact (bad_ok.1 h).elim) | skip
      rename_i r
      cases r with
      | none =>
        obtain ⟨hv, hc, hh, _⟩ := pure_ok.1 h
        subst hv hc hh
        cases hx
        exact ⟨rfl, rfl, _, by simp [Builtin.len_, hat, run_underlying hu]; rfl, .int _ _⟩
      | some i =>
        simp only at h
        replace h := bind_ok.1 h
        obtain ⟨es, c1, h1, _, _, hes, h, _⟩ := h
        obtain ⟨q1, q2, hi⟩ := mapGet_inv hes
        subst q1 q2
        obtain ⟨hv, hc, hh, _⟩ := pure_ok.1 h
        subst hv hc hh
        cases hx with
        | map he =>
          rename_i e
          obtain ⟨e2, ents, clock, m1, m2, m3, _⟩ := hr.obj i _ hi
          rw [he] at m1; cases m1
          refine ⟨rfl, rfl, goInt ents.size, by simp [Builtin.len_, hat, run_underlying hu, run_getMap m2], ?_⟩
          have := m3.length
          rw [this, Array.length_toList]
          exact .int _ _
end
end Go.Sx

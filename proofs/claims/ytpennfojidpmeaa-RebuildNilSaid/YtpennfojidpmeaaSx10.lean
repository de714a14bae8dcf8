import Derived.Test.YtpennfojidpmeaaSx9
namespace Go.Sx
section
variable {P : Program} {w0 : World} {F : Nat → Prop} {E : Env} {H : Heap} {w : World}

/-! ## What does not look at memory -/
def Quiet (P : Program) {α : Type} (m : Sem α) : Prop := ∀ w w2 a w1, m.run P w = .ok a w1 → w1 = w ∧ m.run P w2 = .ok a w2
def Never (P : Program) {α : Type} (m : Sem α) : Prop := ∀ w a w1, m.run P w ≠ .ok a w1
theorem Never.quiet {α : Type} {m : Sem α} (h : Never P m) : Quiet P m := fun w _ a w1 e => absurd e (h w a w1)
theorem Quiet.pure {α : Type} (a : α) : Quiet P (Pure.pure a : Sem α) := fun w w2 b w1 h => by
  simp only [Sem.run_pure, Result.ok.injEq] at h
  obtain ⟨rfl, rfl⟩ := h
  exact ⟨rfl, rfl⟩
theorem Quiet.bind {α β : Type} {m : Sem α} {f : α → Sem β} (h : Quiet P m) (hf : ∀ a, (∃ w w', m.run P w = .ok a w') → Quiet P (f a)) : Quiet P (m >>= f) := fun w w2 b w1 e => by
  rw [Sem.run_bind] at e ⊢
  cases hm : m.run P w with
  | halt x w' => rw [hm] at e; cases e
  | ok a w' =>
    rw [hm] at e
    obtain ⟨rfl, h2⟩ := h w w2 a w' hm
    obtain ⟨rfl, h3⟩ := hf a ⟨_, _, hm⟩ _ w2 b w1 e
    exact ⟨rfl, by rw [h2]; exact h3⟩
theorem never_stuck {α : Type} (why : String) : Never P (stuck why : Sem α) := fun w a w1 h => by simp at h
theorem never_unsupported {α : Type} (u : Unsupported) : Never P (unsupported u : Sem α) := fun w a w1 h => by simp at h
theorem never_bind {α β : Type} {m : Sem α} {f : α → Sem β} (h : ∀ a, Never P (f a)) : Never P (m >>= f) := fun w b w1 e => by
  rw [Sem.run_bind] at e
  cases hm : m.run P w with
  | halt x w' => rw [hm] at e; cases e
  | ok a w' => rw [hm] at e; exact h a _ _ _ e
theorem never_bind' {α β : Type} {m : Sem α} {f : α → Sem β} (h : Never P m) : Never P (m >>= f) := fun w b w1 e => by
  rw [Sem.run_bind] at e
  cases hm : m.run P w with
  | halt x w' => rw [hm] at e; cases e
  | ok a w' => exact h _ _ _ hm
theorem never_panic {α : Type} (v : Value) : Never P (goPanic v : Sem α) := fun w a w1 h => by simp at h
theorem never_runtime {α : Type} (e : RuntimeError) : Never P (runtimePanic e : Sem α) := by
  unfold runtimePanic
  refine never_bind fun p => ?_
  cases e <;> simp only <;> first
    | exact never_panic _
    | exact never_bind fun _ => never_bind fun _ => never_panic _
theorem quiet_underlying (t : TypeId) : Quiet P (underlying t) := fun w w2 a w1 h => by
  cases hu : P.underlying t with
  | none => simp [underlying, hu] at h
  | some d => rw [run_underlying hu] at h ⊢; cases h; exact ⟨rfl, rfl⟩
theorem quiet_program : Quiet P program := fun w w2 a w1 h => by simp only [run_program, Result.ok.injEq] at h ⊢; exact ⟨h.2.symm, h.1, trivial⟩
theorem quiet_info (t : TypeId) : Quiet P (typeInfo t) := fun w w2 a w1 h => by
  cases hu : P.info? t with
  | none => simp [typeInfo, hu] at h
  | some d => rw [run_info hu] at h ⊢; cases h; exact ⟨rfl, rfl⟩
theorem quiet_size (t : TypeId) : Quiet P (sizeOf t) := Quiet.bind (quiet_info t) fun _ _ => Quiet.pure _
theorem quiet_agg (t : TypeId) : Quiet P (isAgg t) := by
  unfold isAgg
  refine Quiet.bind (quiet_underlying t) fun d _ => ?_
  cases d <;> exact Quiet.pure _
theorem quiet_part (t : TypeId) (cs : Array Value) (off : Nat) : Quiet P (part t cs off) := by
  unfold part
  refine Quiet.bind (quiet_agg t) fun b _ => ?_
  cases b
  · simp only [Bool.false_eq_true, if_false]
    cases cs[off]? with
    | none => exact (never_stuck _).quiet
    | some v => exact Quiet.pure _
  · simp only [if_true]
    exact Quiet.bind (quiet_size t) fun _ _ => Quiet.pure _
theorem plainS_B {v : Value} (h : plainS v = true) : plainB v = true := by cases v <;> first | exact h | (simp [plainS] at h)
theorem part_plain {t : TypeId} {cs : Array Value} {off : Nat} {v : Value} {w1 : World} (hc : plainB (.agg cs) = true) (h : (part t cs off).run P w = .ok v w1) : plainB v = true := by
  unfold part at h
  rw [Sem.run_bind] at h
  cases hb : (isAgg t).run P w with
  | halt x w' => rw [hb] at h; cases h
  | ok b w' =>
    rw [hb] at h
    cases b
    · simp only [Result.andThen_ok, Bool.false_eq_true, if_false] at h
      cases hx : cs[off]? with
      | none => rw [hx] at h; simp at h
      | some u =>
        rw [hx] at h
        simp only [Sem.run_pure, Result.ok.injEq] at h
        obtain ⟨rfl, _⟩ := h
        exact plainS_B (List.all_eq_true.1 hc u (by
          have : cs.toList[off]? = some u := by simpa using hx
          exact List.mem_of_getElem? this))
    · simp only [Result.andThen_ok, if_true, Sem.run_bind] at h
      cases hs : (sizeOf t).run P w' with
      | halt x w'' => rw [hs] at h; cases h
      | ok n w'' =>
        rw [hs] at h
        simp only [Result.andThen_ok, Sem.run_pure, Result.ok.injEq] at h
        obtain ⟨rfl, _⟩ := h
        show ((cs.extract off (off + n)).toList.all plainS) = true
        rw [List.all_eq_true]
        intro x hx
        rw [Array.toList_extract] at hx
        have hx2 : x ∈ cs.toList := List.mem_of_mem_drop (List.mem_of_mem_take (by simpa [List.extract_eq_take_drop] using hx))
        exact List.all_eq_true.1 hc x hx2
theorem quiet_forL {α β : Type} (f : α → β → Sem (ForInStep β)) (hf : ∀ a b, Quiet P (f a b)) : ∀ (l : List α) (b : β), Quiet P (forIn l b f)
  | [], b => by simp only [List.forIn_nil]; exact Quiet.pure _
  | a :: l, b => by
    simp only [List.forIn_cons]
    refine Quiet.bind (hf a b) fun r _ => ?_
    cases r with
    | done b => exact Quiet.pure _
    | yield b => exact quiet_forL f hf l b

theorem quiet_eq : ∀ (d : Nat) (t : TypeId) (x y : Value), plainB x = true → plainB y = true → Quiet P (Op.equalIn d t x y)
  | 0, t, x, y, hx, hy => by unfold Op.equalIn; exact (never_unsupported _).quiet
  | d + 1, t, x, y, hx, hy => by
    have step : ∀ e xs ys o1 o2 (K : Bool → Sem (ForInStep (Option Bool × PUnit))), plainB (.agg xs) = true → plainB (.agg ys) = true → (∀ b, Quiet P (K b)) →
        Quiet P (do let a ← part e xs o1; let b ← part e ys o2; let r ← Op.equalIn d e a b; K r) := by
      intro e xs ys o1 o2 K h1 h2 hK
      refine Quiet.bind (quiet_part _ _ _) fun a ha => Quiet.bind (quiet_part _ _ _) fun b hb => Quiet.bind (quiet_eq d e a b ?_ ?_) fun r _ => hK r
      · obtain ⟨w, w', ha⟩ := ha; exact part_plain h1 ha
      · obtain ⟨w, w', hb⟩ := hb; exact part_plain h2 hb
    unfold Op.equalIn
    refine Quiet.bind (quiet_underlying t) fun u _ => ?_
    cases x <;> first | (simp [plainB, plainS] at hx; done) | skip
    all_goals cases y <;> first | (simp [plainB, plainS] at hy; done) | skip
    all_goals cases u <;> (try simp only) <;> first
      | exact Quiet.pure _
      | exact (never_stuck _).quiet
      | exact (never_unsupported _).quiet
      | skip
    · split
      · exact Quiet.pure _
      · exact (never_stuck _).quiet
    · refine Quiet.bind (quiet_size _) fun n _ => Quiet.bind ?_ fun s _ => ?_
      · rw [Std.Legacy.Range.forIn_eq_forIn_range']
        refine quiet_forL _ (fun i b => step _ _ _ _ _ _ hx hy fun r => ?_) _ _
        split <;> exact Quiet.pure _
      · split <;> exact Quiet.pure _
    · refine Quiet.bind quiet_program fun p _ => ?_
      split
      · exact (never_bind' (never_unsupported _)).quiet
      · refine Quiet.bind ?_ fun s _ => ?_
        · rw [← Array.forIn_toList]
          refine quiet_forL _ (fun f b => ?_) _ _
          split
          · refine step _ _ _ _ _ _ hx hy fun r => ?_
            split <;> exact Quiet.pure _
          · exact Quiet.pure _
        · split <;> exact Quiet.pure _
theorem quiet_int {op : BinOp} {x y : Int} : Quiet P (Op.intCmp op x y) := by
  unfold Op.intCmp
  split <;> first | exact Quiet.pure _ | exact (never_stuck _).quiet
theorem quiet_arith {op : BinOp} {k : IntKind} {x y : Int} : Quiet P (Op.intArith op k x y) := by
  unfold Op.intArith
  split <;> first | exact Quiet.pure _ | exact (never_stuck _).quiet
theorem quiet_div {op : BinOp} {k : IntKind} {x y : Int} : Quiet P (Op.intDiv op k x y) := by
  unfold Op.intDiv
  split
  · exact (never_runtime _).quiet
  · split <;> first | exact Quiet.pure _ | exact (never_stuck _).quiet
theorem quiet_bits {op : BinOp} {k : IntKind} {x y : Int} : Quiet P (Op.intBits op k x y) := by
  unfold Op.intBits
  simp only
  split <;> first | exact Quiet.pure _ | exact (never_stuck _).quiet
theorem quiet_shift {op : BinOp} {k j : IntKind} {x y : Int} : Quiet P (Op.shift op k x j y) := by
  unfold Op.shift
  split
  · exact (never_runtime _).quiet
  · simp only
    split <;> first | exact Quiet.pure _ | exact (never_stuck _).quiet
theorem quiet_string {op : BinOp} {x y : ByteArray} : Quiet P (Op.stringOp op x y) := by
  unfold Op.stringOp
  simp only
  split <;> first
    | exact Quiet.pure _
    | exact (never_stuck _).quiet
    | (split <;> first | exact Quiet.pure _ | exact (never_unsupported _).quiet)
theorem quiet_bin {op : BinOp} {t : TypeId} {x y : Value} (hx : plainB x = true) (hy : plainB y = true) : Quiet P (binOp op t x y) := by
  have hq : Quiet P (Op.equal t x y) := quiet_eq _ t x y hx hy
  cases x <;> first | (simp [plainB, plainS] at hx; done) | skip
  all_goals cases y <;> first | (simp [plainB, plainS] at hy; done) | skip
  all_goals cases op <;> simp only [binOp] <;> first
    | exact (never_stuck _).quiet
    | exact quiet_string
    | exact quiet_shift
    | exact Quiet.bind hq fun _ _ => Quiet.pure _
    | (split <;> first
        | exact (never_stuck _).quiet
        | exact quiet_int
        | exact quiet_arith
        | exact quiet_div
        | exact quiet_bits)
theorem quiet_un {op : UnOp} {x : Value} (hx : plainB x = true) : Quiet P (Op.unary op x) := by
  cases x <;> first | (simp [plainB, plainS] at hx; done) | skip
  all_goals cases op <;> simp only [Op.unary] <;> first
    | exact (never_stuck _).quiet
    | exact Quiet.pure _
    | exact quiet_arith
    | exact quiet_bits
theorem pure_run {m : Sem Value} {v : Value} (h : pureRun P m = some v) (hq : Quiet P m) (w : World) : m.run P w = .ok v w ∧ cleanB v = true := by
  unfold pureRun at h
  split at h
  · rename_i u w1 hu
    cases hc : cleanB u with
    | true => rw [hc] at h; cases h; exact ⟨(hq _ w _ _ hu).2, hc⟩
    | false => rw [hc] at h; cases h
  · cases h

theorem guard_run {op : BinOp} {t : TypeId} {x y : Operand} {a b : Value} (ha : a ≠ .nilIface) (hg : (∀ cs, a ≠ .agg cs) ∨ P.eqGuardType P.depth t = false) (w : World) :
    (eqGuard op t x y a b).run P w = .ok () w := by
  unfold eqGuard
  cases a <;> first | (exact absurd rfl ha) | skip
  case agg cs =>
    have hg := hg.resolve_left (fun h => h cs rfl)
    cases b <;> cases op <;> simp [hg]
  all_goals cases op <;> simp
theorem bin_sound [Den] [Asm] [AsmOK P] {op : BinOp} {t : TypeId} {x y : Operand} {a a' b b' v : Value} {c c' : Nat} {H' : Heap} {L : Lg} (h : binA P op t a b c H = .ok v c' H' L) (ha : VR E a a') (hb : VR E b b') (w : World) :
    c' = c ∧ H' = H ∧ ∃ v', (do eqGuard op t x y a' b'; binOp op t a' b' : Sem Value).run P w = .ok v' w ∧ VR E v v' := by
  unfold binA at h
  cases hp : (plainB a && plainB b) with
  | true =>
    rw [hp] at h
    simp only [cond_true] at h
    simp only [Bool.and_eq_true] at hp
    replace h := bguard h
    obtain ⟨_, hg, h⟩ := h
    obtain ⟨h1, hc, hh, _⟩ := opt_ok.1 h
    have ea := ha.plain hp.1
    have eb := hb.plain hp.2
    subst ea eb hc hh
    obtain ⟨h2, h3⟩ := pure_run h1 (quiet_bin hp.1 hp.2) w
    refine ⟨rfl, rfl, v, ?_, VR.clean h3⟩
    have hguard := guard_run (P := P) (op := op) (t := t) (x := x) (y := y) (a := a') (b := b') (fun e => by rw [e] at hp; simp [plainB, plainS] at hp) (by
      cases hag : isAggV a' with
      | true => right; rw [hag] at hg; simpa using hg
      | false => left; intro cs e; rw [e] at hag; simp [isAggV] at hag) w
    rw [Sem.run_bind, hguard, Result.andThen_ok]; exact h2
  | false =>
    rw [hp] at h
    simp only [cond_false] at h
    cases hsy : (symB a || symB b) with
    | true =>
    rw [hsy] at h
    simp only [cond_true] at h
    obtain ⟨h1, hc, hh, _⟩ := opt_ok.1 h
    obtain ⟨r', k1, k2⟩ := AsmOK.ok (P := P) _ _ h1 E a' b' ha hb x y w
    exact ⟨hc, hh, r', k2, k1⟩
    | false =>
    rw [hsy] at h
    simp only [cond_false] at h
    have key : ∀ r, nilEq P t a b = some r → (Op.equal t a' b').run P w = .ok r w ∧ a' ≠ .nilIface ∧ (∀ cs, a' ≠ .agg cs) ∧
        binOp .eql t a' b' = (do let r ← Op.equal t a' b'; pure (.bool r)) ∧ binOp .neq t a' b' = (do let r ← Op.equal t a' b'; pure (.bool (!r))) := by
      intro r hn
      unfold nilEq at hn
      cases hu : P.underlying t with
      | none => rw [hu] at hn; cases hn
      | some d =>
        rw [hu] at hn
        cases ha <;> (try (cases d <;> simp only [reduceCtorEq] at hn; done)) <;> cases hb <;> (try (cases d <;> simp only [reduceCtorEq] at hn; done)) <;>
          cases d <;> simp only [reduceCtorEq, Option.some.injEq] at hn <;>
          (subst hn; refine ⟨?_, by simp, by simp, rfl, rfl⟩; show (Op.equalIn (9999 + 1) t _ _).run P w = _; unfold Op.equalIn; rw [Sem.run_bind, run_underlying hu, Result.andThen_ok]; rfl)
    cases op <;> simp only at h <;> first | (exact (bad_ok.1 h).elim) | skip
    all_goals
      replace h := bopt h
      obtain ⟨r, _, hr, h⟩ := h
      obtain ⟨hv, hc, hh, _⟩ := pure_ok.1 h
      subst hv hc hh
      obtain ⟨k1, k2, k3, k4, k5⟩ := key r hr
      refine ⟨rfl, rfl, _, ?_, .bool _⟩
      rw [Sem.run_bind, guard_run k2 (.inl k3) w, Result.andThen_ok]
    · rw [k4, Sem.run_bind, k1]; rfl
    · rw [k5, Sem.run_bind, k1]; rfl

/-! ## copy, make, min, max, an array of a slice -/
theorem copy_sound [Den] {ats : Array TypeId} {ty : TypeId} {args args' : List Value} {v : Value} {c c' : Nat} {H' : Heap} {L : Lg} (h : copyA P ats.toList args c H = .ok v c' H' L) (hr : HR P w0 F E H w) (ha : LR E args args') :
    ∃ v' w', (Builtin.copy_ ats ty args'.toArray).run P w = .ok v' w' ∧ HR P w0 F E H' w' ∧ VR E v v' := by
  generalize hal : ats.toList = al at h
  unfold copyA at h
  split at h
  · rename_i t ts base dLen dCap x
    obtain ⟨d', r1, rfl, hd, ha⟩ := ha.cons_inv
    obtain ⟨x', r2, rfl, hx, ha⟩ := ha.cons_inv
    have := ha.nil_inv
    subst this
    have hats : ats[0]? = some t := by rw [← Array.getElem?_toList, hal]; rfl
    replace h := bopt h
    obtain ⟨e, _, he, h⟩ := h
    replace h := bopt h
    obtain ⟨size, _, hsz, h⟩ := h
    replace h := bopt h
    obtain ⟨sn, _, hn, h⟩ := h
    replace h := bind_ok.1 h
    obtain ⟨cells, c1, h1, l1, l2, hc0, h, _⟩ := h
    have hu := elem_under he
    have hlen := run_len (P := P) hn hx w
    obtain ⟨q1, q2, q3, cells', q4, q5⟩ := src_sound hc0 hr hx hn (Nat.min_le_left _ _)
    subst q1 q2
    have hcells := q5 w rfl
    have hs1 := run_size hsz w
    have run : ∀ {b' : Option Addr} {cp : Nat} {w' : World}, (∀ a, b' = some a → (storeCells a cells').run P w = .ok () w') → (b' = none → w' = w) →
        (Builtin.copy_ ats ty #[.slice b' dLen cp, x']).run P w = .ok (goInt (Nat.min sn dLen)) w' := by
      intro b' cp w' k1 k2
      unfold Builtin.copy_
      simp only [hats, List.getElem?_toArray, List.getElem?_cons_zero, List.getElem?_cons_succ]
      rw [Sem.run_bind, run_underlying hu, Result.andThen_ok]
      simp only []
      rw [Sem.run_bind, hlen, Result.andThen_ok, Sem.run_bind, hs1, Result.andThen_ok, Sem.run_bind, hcells, Result.andThen_ok]
      cases b' with
      | none => rw [k2 rfl]; rfl
      | some a => simp only []; rw [Sem.run_bind, k1 a rfl]; rfl
    cases hd with
    | nilS =>
      obtain ⟨p1, p2, p3, _⟩ := pure_ok.1 h
      subst p1 p2 p3
      exact ⟨_, w, run (fun a e => by cases e) (fun _ => rfl), hr, .int _ _⟩
    | sl h1 h2 h3 =>
      rename_i i o e0 a'
      simp only [wrB_eq] at h
      replace h := bind_ok.1 h
      obtain ⟨u, c2, g2, l3, l4, hw0, h, _⟩ := h
      obtain ⟨p1, p2, p3, _⟩ := pure_ok.1 h
      subst p1 p2 p3
      obtain ⟨_, w', k1, k2, _⟩ := wrN_sound (k := 0) hw0 hr q4 h1
      refine ⟨_, w', run (fun a e => ?_) (fun e => by cases e), k2, .int _ _⟩
      cases e
      rcases h3 with h3 | h3
      · rw [h3]; exact k1
      · have hm : Nat.min sn dLen = 0 := by
          have : dLen = 0 := by omega
          subst this; exact Nat.min_zero _
        rw [hm, Nat.zero_mul] at q3
        have hc' : cells' = [] := List.eq_nil_of_length_eq_zero (by rw [← q4.len]; exact q3)
        subst hc'
        have hw'' : w' = w := by
          have : (Result.ok () w : Result Unit) = .ok () w' := k1
          cases this; rfl
        rw [hw'']; rfl
  · exact (bad_ok.1 h).elim

theorem arrayAt_sound [Den] {t : TypeId} {x x' v : Value} (h : arrayAtA P t x = some v) (hx : VR E x x') (w : World) : ∃ v', (Instr.arrayAt t x').run P w = .ok v' w ∧ VR E v v' := by
  unfold arrayAtA at h
  split at h
  · rename_i n e a len cp hu
    cases hb : (Nat.blt 0 n && Nat.ble n len) with
    | false => rw [hb] at h; simp at h
    | true =>
      rw [hb] at h
      simp only [cond_true, Option.some.injEq] at h
      simp only [Bool.and_eq_true] at hb
      have h1 := blt_iff.1 hb.1
      have h2 := Nat.le_of_ble_eq_true hb.2
      subst h
      cases hx with
      | sl g1 g2 g3 =>
        rcases g3 with g3 | g3
        · subst g3
          refine ⟨_, ?_, .ptr g1⟩
          unfold Instr.arrayAt
          rw [Sem.run_bind, run_underlying hu, Result.andThen_ok]
          simp only []
          rw [if_neg (by omega)]
          rfl
        · omega
  · cases h

theorem minmax_sound [Den] {mx : Bool} {ats : Array TypeId} {ty : TypeId} {args args' : List Value} {v : Value} (h : minmaxA mx args = some v) (ha : LR E args args') (w : World) :
    (if mx then Builtin.max_ ats ty args'.toArray else Builtin.min_ ats ty args'.toArray).run P w = .ok v w ∧ VR E v v := by
  unfold minmaxA at h
  split at h
  · rename_i k x k2 y
    obtain ⟨x', r1, rfl, hx, ha⟩ := ha.cons_inv
    obtain ⟨y', r2, rfl, hy, ha⟩ := ha.cons_inv
    have := ha.nil_inv
    subst this
    cases hx
    cases hy
    simp only [Option.some.injEq] at h
    subst h
    cases mx
    · exact ⟨rfl, .int _ _⟩
    · exact ⟨rfl, .int _ _⟩
  · cases h

theorem repL_get (z : List Value) (hz : 0 < z.length) : ∀ (c k : Nat), (repL z c)[k]? = if k < c * z.length then z[k % z.length]? else none
  | 0, k => by simp [repL]
  | c + 1, k => by
    rw [repL, Nat.add_mul, Nat.one_mul]
    by_cases h : k < z.length
    · rw [List.getElem?_append_left h, if_pos (by omega), Nat.mod_eq_of_lt h]
    · rw [List.getElem?_append_right (by omega), repL_get z hz c]
      by_cases h2 : k < c * z.length + z.length
      · rw [if_pos (by omega), if_pos h2, ← Nat.mod_eq_sub_mod (show z.length ≤ k from by omega)]
      · rw [if_neg (by omega), if_neg h2]
theorem repL_len (z : List Value) : ∀ c, (repL z c).length = c * z.length
  | 0 => by simp [repL]
  | c + 1 => by rw [repL, List.length_append, repL_len z c, Nat.add_mul, Nat.one_mul, Nat.add_comm]

theorem makeSlice_sound [Den] {t : TypeId} {lv lv' cv cv' v : Value} {c c' : Nat} {H' : Heap} {L : Lg} (h : makeSliceA P t lv cv c H = .ok v c' H' L) (hr : HR P w0 F E H w) (hl : VR E lv lv') (hc : VR E cv cv') :
    ∃ v' w' E', (Instr.makeSlice t lv' cv').run P w = .ok v' w' ∧ E.le E' ∧ HR P w0 F E' H' w' ∧ VR E' v v' := by
  unfold makeSliceA at h
  split at h
  · rename_i k1 l k2 m
    cases hl
    cases hc
    replace h := bopt h
    obtain ⟨e, _, he, h⟩ := h
    replace h := bopt h
    obtain ⟨size, _, hsz, h⟩ := h
    replace h := bopt h
    obtain ⟨bytes, _, hby, h⟩ := h
    replace h := bguard h
    obtain ⟨_, hg, h⟩ := h
    replace h := bopt h
    obtain ⟨z, _, hz, h⟩ := h
    replace h := bguard h
    obtain ⟨_, hg2, h⟩ := h
    simp only [Bool.and_eq_true] at hg hg2
    obtain ⟨⟨⟨⟨⟨g1, g2⟩, g3⟩, g4⟩, g5⟩, g6⟩ := hg
    have g1 := Nat.le_of_ble_eq_true g1
    have g2 := blt_iff.1 g2
    have g3 := blt_iff.1 g3
    have g4 := Nat.le_of_ble_eq_true g4
    have g6 := blt_iff.1 g6
    have hzs := Nat.eq_of_beq_eq_true hg2.1
    have hu := elem_under he
    obtain ⟨ib, hib, hibb⟩ := bytes_info hby
    replace h := bind_ok.1 h
    obtain ⟨p, c1, h1, l1, l2, hp0, h, _⟩ := h
    unfold newRowA at hp0
    replace hp0 := bguard hp0
    obtain ⟨_, ho, hp0⟩ := hp0
    replace hp0 := bind_ok.1 hp0
    obtain ⟨j, c2, h2, l3, l4, hn0, hp0, _⟩ := hp0
    obtain ⟨p1, p2, p3, _⟩ := pure_ok.1 hp0
    subst p1 p2 p3
    simp only at h
    obtain ⟨p1, p2, p3, _⟩ := pure_ok.1 h
    subst p1 p2 p3
    obtain ⟨j1, j2, hj, j3, _⟩ := newA_inv hn0
    subst j1 j2 j3
    have hzl : z.cells.toList.length = size := by simpa using hzs
    have hlr := repLR (VR.clean (E := E) hg2.2).cells m
    obtain ⟨q1, q2⟩ := hr.newRow (T := e) (more := []) (cap := m) hj hlr ho (fun n hn => by
      rw [hsz] at hn; cases hn
      rw [List.append_nil, repL_len, hzl]; exact Nat.le_refl _)
    rw [List.append_nil] at q2
    have hE : Env.upd E j ⟨w.heap.size, 0, m⟩ j = some ⟨w.heap.size, 0, m⟩ := by simp [Env.upd]
    have hv := VR.sl (o := 0) (n := l) (c := m) (a' := ⟨w.heap.size, 0, none⟩) hE (by unfold capOf; rw [if_pos g6]; exact g1) (.inl rfl)
    rw [show capOf (⟨w.heap.size, 0, m⟩ : EI) m = m from by unfold capOf; rw [if_pos g6]] at hv
    refine ⟨_, _, _, ?_, q1, q2, hv⟩
    unfold HALF at g6
    have hw : ∀ n : Nat, n < 2305843009213693952 → IntKind.i64.wrap (Int.ofNat n) = (n : Int) := fun n hn => by
      have h1 : (Int.ofNat n) % (2 ^ 64 : Int) = (n : Int) := by
        have : (2 ^ 64 : Int) = 18446744073709551616 := by decide
        rw [this]
        exact Int.emod_eq_of_lt (by simp) (by simp; omega)
      have h2 : (2 ^ (64 - 1) : Int) = 9223372036854775808 := by decide
      show (let m := (Int.ofNat n) % (2 ^ 64 : Int); if true && decide (m ≥ (2 ^ (64 - 1) : Int)) then m - (2 ^ 64 : Int) else m) = (n : Int)
      simp only [h1, h2, Bool.true_and, decide_eq_true_eq]
      rw [if_neg (by omega)]
    have hb48 : ((2 : Int) ^ 48) = 281474976710656 := by decide
    have htl : ∀ n : Nat, n * bytes ≤ 16777216 → (((n : Int) < 0 : Bool) || ((bytes : Int) * (n : Int) > 2 ^ 48 : Bool)) = false := fun n hn => by
      have : ((bytes : Int) * (n : Int)) = ((n * bytes : Nat) : Int) := by rw [Nat.mul_comm]; simp
      rw [this, hb48]
      simp only [Bool.or_eq_false_iff, decide_eq_false_iff_not]
      omega
    have hcells : (Array.range (m * size)).map (fun x => z.cells[x % z.cells.size]!) = (repL z.cells.toList m).toArray := by
      apply Array.toList_inj.1
      apply List.ext_getElem?
      intro k
      rw [repL_get _ (by omega), hzl]
      simp only [Array.toList_map, Array.toList_range, List.getElem?_map]
      by_cases hk : k < m * size
      · rw [List.getElem?_range hk, if_pos hk]
        have hlt : k % size < z.cells.size := by rw [hzs]; exact Nat.mod_lt _ g3
        simp only [Option.map_some, hzs]
        rw [Array.getElem?_toList, Array.getElem?_eq_getElem hlt, getElem!_pos z.cells (k % size) hlt]
      · rw [if_neg hk, List.getElem?_eq_none (by simp; omega)]
        rfl
    have hm0 : ¬ (m * size = 0) := by have := Nat.mul_pos g2 g3; omega
    unfold Instr.makeSlice
    rw [Sem.run_bind, run_underlying hu, Result.andThen_ok]
    simp only []
    rw [Sem.run_bind, show (asInt (.int k1 (Int.ofNat l))).run P w = .ok (Int.ofNat l) w from rfl, Result.andThen_ok, Sem.run_bind, show (asInt (.int k2 (Int.ofNat m))).run P w = .ok (Int.ofNat m) w from rfl, Result.andThen_ok,
      Sem.run_bind, run_info hib, Result.andThen_ok]
    have n1 := htl m g4
    have n2 : decide ((l : Int) < 0) = false := by simp
    have n3 : decide ((l : Int) > (m : Int)) = false := by simp; omega
    simp only [hw l (by omega), hw m g6, hibb, n1, n2, n3, Bool.or_self, Bool.false_eq_true, if_false]
    simp only [Int.toNat_natCast, Sem.run_bind, run_askRoom, run_size hsz, Result.andThen_ok, if_neg hm0, run_zero hz, Sem.run_pure, run_newRow, hcells]
  · exact (bad_ok.1 h).elim
end
end Go.Sx

import Derived.Test.YthandoangkckmaaGreatDoorSx9
namespace Go.Sx
section
variable {P : Program} {w0 : World} {F : Nat → Prop} {E : Env} {H : Heap} {w : World}

theorem guard_run {op : BinOp} {t : TypeId} {x y : Operand} {a b : Value} (ha : a ≠ .nilIface) (hg : (∀ cs, a ≠ .agg cs) ∨ P.eqGuardType P.depth t = false) (w : World) :
    (eqGuard op t x y a b).run P w = .ok () w := by
  unfold eqGuard
  cases a <;> first | (exact absurd rfl ha) | skip
  case agg cs =>
    have hg := hg.resolve_left (fun h => h cs rfl)
    cases b <;> cases op <;> simp [hg]
  all_goals cases op <;> simp
theorem bin_sound [Den] [Asm] [AsmOK P] {op : BinOp} {t : TypeId} {x y : Operand} {a a' b b' v : Value} {c c' : Nat} {H' : Heap} {L : Lg} (h : binA P op t a b c H = .ok v c' H' L) (ha : VR E a a') (hb : VR E b b') (w : World) :
    c' = c ∧ H' = H ∧ ∃ v', (do eqGuard op t x y a' b'; binOp op t a' b' : Sem Value).run P w = .ok v' w ∧ VR E v v' := by
  unfold binA at h
  cases hp : (plainB a && plainB b) with
  | true =>
    rw [hp] at h
    simp only [cond_true] at h
    simp only [Bool.and_eq_true] at hp
    replace h := bguard h
    obtain ⟨_, hg, h⟩ := h
    obtain ⟨h1, hc, hh, _⟩ := opt_ok.1 h
    have ea := ha.plain hp.1
    have eb := hb.plain hp.2
    subst ea eb hc hh
    obtain ⟨h2, h3⟩ := pure_run h1 (quiet_bin hp.1 hp.2) w
    refine ⟨rfl, rfl, v, ?_, VR.clean h3⟩
    have hguard := guard_run (P := P) (op := op) (t := t) (x := x) (y := y) (a := a') (b := b') (fun e => by rw [e] at hp; simp [plainB, plainS] at hp) (by
      cases hag : isAggV a' with
      | true => right; rw [hag] at hg; simpa using hg
      | false => left; intro cs e; rw [e] at hag; simp [isAggV] at hag) w
    rw [Sem.run_bind, hguard, Result.andThen_ok]; exact h2
  | false =>
    rw [hp] at h
    simp only [cond_false] at h
    cases hsy : (symB a || symB b) with
    | true =>
    rw [hsy] at h
    simp only [cond_true] at h
    obtain ⟨h1, hc, hh, _⟩ := opt_ok.1 h
    obtain ⟨r', k1, k2⟩ := AsmOK.ok (P := P) _ _ h1 E a' b' ha hb x y w
    exact ⟨hc, hh, r', k2, k1⟩
    | false =>
    rw [hsy] at h
    simp only [cond_false] at h
    have key : ∀ r, nilEq P t a b = some r → (Op.equal t a' b').run P w = .ok r w ∧ a' ≠ .nilIface ∧ (∀ cs, a' ≠ .agg cs) ∧
        binOp .eql t a' b' = (do let r ← Op.equal t a' b'; pure (.bool r)) ∧ binOp .neq t a' b' = (do let r ← Op.equal t a' b'; pure (.bool (!r))) := by
      intro r hn
      unfold nilEq at hn
      cases hu : P.underlying t with
      | none => rw [hu] at hn; cases hn
      | some d =>
        rw [hu] at hn
        cases ha <;> (try (cases d <;> simp only [reduceCtorEq] at hn; done)) <;> cases hb <;> (try (cases d <;> simp only [reduceCtorEq] at hn; done)) <;>
          cases d <;> simp only [reduceCtorEq, Option.some.injEq] at hn <;>
          (subst hn; refine ⟨?_, by simp, by simp, rfl, rfl⟩; show (Op.equalIn (9999 + 1) t _ _).run P w = _; unfold Op.equalIn; rw [Sem.run_bind, run_underlying hu, Result.andThen_ok]; rfl)
    cases op <;> simp only at h <;> first | (exact (bad_ok.1 h).elim) | skip
    all_goals
      replace h := bopt h
      obtain ⟨r, _, hr, h⟩ := h
      obtain ⟨hv, hc, hh, _⟩ := pure_ok.1 h
      subst hv hc hh
      obtain ⟨k1, k2, k3, k4, k5⟩ := key r hr
      refine ⟨rfl, rfl, _, ?_, .bool _⟩
      rw [Sem.run_bind, guard_run k2 (.inl k3) w, Result.andThen_ok]
    · rw [k4, Sem.run_bind, k1]; rfl
    · rw [k5, Sem.run_bind, k1]; rfl

/-! ## copy, make, min, max, an array of a slice -/
theorem copy_sound [Den] {ats : Array TypeId} {ty : TypeId} {args args' : List Value} {v : Value} {c c' : Nat} {H' : Heap} {L : Lg} (h : copyA P ats.toList args c H = .ok v c' H' L) (hr : HR P w0 F E H w) (ha : LR E args args') :
    ∃ v' w', (Builtin.copy_ ats ty args'.toArray).run P w = .ok v' w' ∧ HR P w0 F E H' w' ∧ VR E v v' := by
  generalize hal : ats.toList = al at h
  unfold copyA at h
  split at h
  · rename_i t ts base dLen dCap x
    obtain ⟨d', r1, rfl, hd, ha⟩ := ha.cons_inv
    obtain ⟨x', r2, rfl, hx, ha⟩ := ha.cons_inv
    have := ha.nil_inv
    subst this
    have hats : ats[0]? = some t := by rw [← Array.getElem?_toList, hal]; rfl
    replace h := bopt h
    obtain ⟨e, _, he, h⟩ := h
    replace h := bopt h
    obtain ⟨size, _, hsz, h⟩ := h
    replace h := bopt h
    obtain ⟨sn, _, hn, h⟩ := h
    replace h := bind_ok.1 h
    obtain ⟨cells, c1, h1, l1, l2, hc0, h, _⟩ := h
    have hu := elem_under he
    have hlen := run_len (P := P) hn hx w
    obtain ⟨q1, q2, q3, cells', q4, q5⟩ := src_sound hc0 hr hx hn (Nat.min_le_left _ _)
    subst q1 q2
    have hcells := q5 w rfl
    have hs1 := run_size hsz w
    have run : ∀ {b' : Option Addr} {cp : Nat} {w' : World}, (∀ a, b' = some a → (storeCells a cells').run P w = .ok () w') → (b' = none → w' = w) →
        (Builtin.copy_ ats ty #[.slice b' dLen cp, x']).run P w = .ok (goInt (Nat.min sn dLen)) w' := by
      intro b' cp w' k1 k2
      unfold Builtin.copy_
      simp only [hats, List.getElem?_toArray, List.getElem?_cons_zero, List.getElem?_cons_succ]
      rw [Sem.run_bind, run_underlying hu, Result.andThen_ok]
      simp only []
      rw [Sem.run_bind, hlen, Result.andThen_ok, Sem.run_bind, hs1, Result.andThen_ok, Sem.run_bind, hcells, Result.andThen_ok]
      cases b' with
      | none => rw [k2 rfl]; rfl
      | some a => simp only []; rw [Sem.run_bind, k1 a rfl]; rfl
    cases hd with
    | nilS =>
      obtain ⟨p1, p2, p3, _⟩ := pure_ok.1 h
      subst p1 p2 p3
      exact ⟨_, w, run (fun a e => by cases e) (fun _ => rfl), hr, .int _ _⟩
    | sl h1 h2 h3 =>
      rename_i i o e0 a'
      simp only [wrB_eq] at h
      replace h := bind_ok.1 h
      obtain ⟨u, c2, g2, l3, l4, hw0, h, _⟩ := h
      obtain ⟨p1, p2, p3, _⟩ := pure_ok.1 h
      subst p1 p2 p3
      obtain ⟨_, w', k1, k2, _⟩ := wrN_sound (k := 0) hw0 hr q4 h1
      refine ⟨_, w', run (fun a e => ?_) (fun e => by cases e), k2, .int _ _⟩
      cases e
      rcases h3 with h3 | h3
      · rw [h3]; exact k1
      · have hm : Nat.min sn dLen = 0 := by
          have : dLen = 0 := by omega
          subst this; exact Nat.min_zero _
        rw [hm, Nat.zero_mul] at q3
        have hc' : cells' = [] := List.eq_nil_of_length_eq_zero (by rw [← q4.len]; exact q3)
        subst hc'
        have hw'' : w' = w := by
          have : (Result.ok () w : Result Unit) = .ok () w' := k1
          cases this; rfl
        rw [hw'']; rfl
  · exact (bad_ok.1 h).elim

theorem arrayAt_sound [Den] {t : TypeId} {x x' v : Value} (h : arrayAtA P t x = some v) (hx : VR E x x') (w : World) : ∃ v', (Instr.arrayAt t x').run P w = .ok v' w ∧ VR E v v' := by
  unfold arrayAtA at h
  split at h
  · rename_i n e a len cp hu
    cases hb : (Nat.blt 0 n && Nat.ble n len) with
    | false => rw [hb] at h; simp at h
    | true =>
      rw [hb] at h
      simp only [cond_true, Option.some.injEq] at h
      simp only [Bool.and_eq_true] at hb
      have h1 := blt_iff.1 hb.1
      have h2 := Nat.le_of_ble_eq_true hb.2
      subst h
      cases hx with
      | sl g1 g2 g3 =>
        rcases g3 with g3 | g3
        · subst g3
          refine ⟨_, ?_, .ptr g1⟩
          unfold Instr.arrayAt
          rw [Sem.run_bind, run_underlying hu, Result.andThen_ok]
          simp only []
          rw [if_neg (by omega)]
          rfl
        · omega
  · cases h

theorem minmax_sound [Den] {mx : Bool} {ats : Array TypeId} {ty : TypeId} {args args' : List Value} {v : Value} (h : minmaxA mx args = some v) (ha : LR E args args') (w : World) :
    (if mx then Builtin.max_ ats ty args'.toArray else Builtin.min_ ats ty args'.toArray).run P w = .ok v w ∧ VR E v v := by
  unfold minmaxA at h
  split at h
  · rename_i k x k2 y
    obtain ⟨x', r1, rfl, hx, ha⟩ := ha.cons_inv
    obtain ⟨y', r2, rfl, hy, ha⟩ := ha.cons_inv
    have := ha.nil_inv
    subst this
    cases hx
    cases hy
    simp only [Option.some.injEq] at h
    subst h
    cases mx
    · exact ⟨rfl, .int _ _⟩
    · exact ⟨rfl, .int _ _⟩
  · cases h

theorem repL_get (z : List Value) (hz : 0 < z.length) : ∀ (c k : Nat), (repL z c)[k]? = if k < c * z.length then z[k % z.length]? else none
  | 0, k => by simp [repL]
  | c + 1, k => by
    rw [repL, Nat.add_mul, Nat.one_mul]
    by_cases h : k < z.length
    · rw [List.getElem?_append_left h, if_pos (by omega), Nat.mod_eq_of_lt h]
    · rw [List.getElem?_append_right (by omega), repL_get z hz c]
      by_cases h2 : k < c * z.length + z.length
      · rw [if_pos (by omega), if_pos h2, ← Nat.mod_eq_sub_mod (show z.length ≤ k from by omega)]
      · rw [if_neg (by omega), if_neg h2]
theorem repL_len (z : List Value) : ∀ c, (repL z c).length = c * z.length
  | 0 => by simp [repL]
  | c + 1 => by rw [repL, List.length_append, repL_len z c, Nat.add_mul, Nat.one_mul, Nat.add_comm]

theorem makeSlice_sound [Den] {t : TypeId} {lv lv' cv cv' v : Value} {c c' : Nat} {H' : Heap} {L : Lg} (h : makeSliceA P t lv cv c H = .ok v c' H' L) (hr : HR P w0 F E H w) (hl : VR E lv lv') (hc : VR E cv cv') :
    ∃ v' w' E', (Instr.makeSlice t lv' cv').run P w = .ok v' w' ∧ E.le E' ∧ HR P w0 F E' H' w' ∧ VR E' v v' := by
  unfold makeSliceA at h
  split at h
  · rename_i k1 l k2 m
    cases hl
    cases hc
    replace h := bopt h
    obtain ⟨e, _, he, h⟩ := h
    replace h := bopt h
    obtain ⟨size, _, hsz, h⟩ := h
    replace h := bopt h
    obtain ⟨bytes, _, hby, h⟩ := h
    replace h := bguard h
    obtain ⟨_, hg, h⟩ := h
    replace h := bopt h
    obtain ⟨z, _, hz, h⟩ := h
    replace h := bguard h
    obtain ⟨_, hg2, h⟩ := h
    simp only [Bool.and_eq_true] at hg hg2
    obtain ⟨⟨⟨⟨⟨g1, g2⟩, g3⟩, g4⟩, g5⟩, g6⟩ := hg
    have g1 := Nat.le_of_ble_eq_true g1
    have g2 := blt_iff.1 g2
    have g3 := blt_iff.1 g3
    have g4 := Nat.le_of_ble_eq_true g4
    have g6 := blt_iff.1 g6
    have hzs := Nat.eq_of_beq_eq_true hg2.1
    have hu := elem_under he
    obtain ⟨ib, hib, hibb⟩ := bytes_info hby
    replace h := bind_ok.1 h
    obtain ⟨p, c1, h1, l1, l2, hp0, h, _⟩ := h
    unfold newRowA at hp0
    replace hp0 := bguard hp0
    obtain ⟨_, ho, hp0⟩ := hp0
    replace hp0 := bind_ok.1 hp0
    obtain ⟨j, c2, h2, l3, l4, hn0, hp0, _⟩ := hp0
    obtain ⟨p1, p2, p3, _⟩ := pure_ok.1 hp0
    subst p1 p2 p3
    simp only at h
    obtain ⟨p1, p2, p3, _⟩ := pure_ok.1 h
    subst p1 p2 p3
    obtain ⟨j1, j2, hj, j3, _⟩ := newA_inv hn0
    subst j1 j2 j3
    have hzl : z.cells.toList.length = size := by simpa using hzs
    have hlr := repLR (VR.clean (E := E) hg2.2).cells m
    obtain ⟨q1, q2⟩ := hr.newRow (T := e) (more := []) (cap := m) hj hlr ho (fun n hn => by
      rw [hsz] at hn; cases hn
      refine ⟨by rw [List.append_nil, repL_len, hzl]; exact Nat.le_refl _, ?_⟩
      rw [repL_len, hzl]
      exact Nat.div_le_of_le_mul (by rw [Nat.mul_comm]; exact Nat.le_refl _))
    rw [List.append_nil] at q2
    have hE : Env.upd E j ⟨w.heap.size, 0, m⟩ j = some ⟨w.heap.size, 0, m⟩ := by simp [Env.upd]
    have hv := VR.sl (o := 0) (n := l) (c := m) (a' := ⟨w.heap.size, 0, none⟩) hE (by unfold capOf; rw [if_pos g6]; exact g1) (.inl rfl)
    rw [show capOf (⟨w.heap.size, 0, m⟩ : EI) m = m from by unfold capOf; rw [if_pos g6]] at hv
    refine ⟨_, _, _, ?_, q1, q2, hv⟩
    unfold HALF at g6
    have hw : ∀ n : Nat, n < 2305843009213693952 → IntKind.i64.wrap (Int.ofNat n) = (n : Int) := fun n hn => by
      have h1 : (Int.ofNat n) % (2 ^ 64 : Int) = (n : Int) := by
        have : (2 ^ 64 : Int) = 18446744073709551616 := by decide
        rw [this]
        exact Int.emod_eq_of_lt (by simp) (by simp; omega)
      have h2 : (2 ^ (64 - 1) : Int) = 9223372036854775808 := by decide
      show (let m := (Int.ofNat n) % (2 ^ 64 : Int); if true && decide (m ≥ (2 ^ (64 - 1) : Int)) then m - (2 ^ 64 : Int) else m) = (n : Int)
      simp only [h1, h2, Bool.true_and, decide_eq_true_eq]
      rw [if_neg (by omega)]
    have hb48 : ((2 : Int) ^ 48) = 281474976710656 := by decide
    have htl : ∀ n : Nat, n * bytes ≤ 16777216 → (((n : Int) < 0 : Bool) || ((bytes : Int) * (n : Int) > 2 ^ 48 : Bool)) = false := fun n hn => by
      have : ((bytes : Int) * (n : Int)) = ((n * bytes : Nat) : Int) := by rw [Nat.mul_comm]; simp
      rw [this, hb48]
      simp only [Bool.or_eq_false_iff, decide_eq_false_iff_not]
      omega
    have hcells : (Array.range (m * size)).map (fun x => z.cells[x % z.cells.size]!) = (repL z.cells.toList m).toArray := by
      apply Array.toList_inj.1
      apply List.ext_getElem?
      intro k
      rw [repL_get _ (by omega), hzl]
      simp only [Array.toList_map, Array.toList_range, List.getElem?_map]
      by_cases hk : k < m * size
      · rw [List.getElem?_range hk, if_pos hk]
        have hlt : k % size < z.cells.size := by rw [hzs]; exact Nat.mod_lt _ g3
        simp only [Option.map_some, hzs]
        rw [Array.getElem?_toList, Array.getElem?_eq_getElem hlt, getElem!_pos z.cells (k % size) hlt]
      · rw [if_neg hk, List.getElem?_eq_none (by simp; omega)]
        rfl
    have hm0 : ¬ (m * size = 0) := by have := Nat.mul_pos g2 g3; omega
    unfold Instr.makeSlice
    rw [Sem.run_bind, run_underlying hu, Result.andThen_ok]
    simp only []
    rw [Sem.run_bind, show (asInt (.int k1 (Int.ofNat l))).run P w = .ok (Int.ofNat l) w from rfl, Result.andThen_ok, Sem.run_bind, show (asInt (.int k2 (Int.ofNat m))).run P w = .ok (Int.ofNat m) w from rfl, Result.andThen_ok,
      Sem.run_bind, run_info hib, Result.andThen_ok]
    have n1 := htl m g4
    have n2 : decide ((l : Int) < 0) = false := by simp
    have n3 : decide ((l : Int) > (m : Int)) = false := by simp; omega
    simp only [hw l (by omega), hw m g6, hibb, n1, n2, n3, Bool.or_self, Bool.false_eq_true, if_false]
    simp only [Int.toNat_natCast, Sem.run_bind, run_askRoom, run_size hsz, Result.andThen_ok, if_neg hm0, run_zero hz, Sem.run_pure, run_newRow, hcells]
  · exact (bad_ok.1 h).elim
end
end Go.Sx

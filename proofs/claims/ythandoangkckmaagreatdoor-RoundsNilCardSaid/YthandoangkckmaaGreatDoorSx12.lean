import Derived.Test.YthandoangkckmaaGreatDoorSx11
namespace Go.Sx
section
variable {P : Program} {w0 : World} {F : Nat → Prop} {E : Env} {H : Heap} {w : World} {R : Option Nat}

theorem pairs_fst (xs : List (Nat × Operand)) (ρ : Operand → Value) : (xs.map fun (p : Nat × Operand) => (p.1, ρ p.2)) = xs.map fun (i, x) => (i, ρ x) := rfl

theorem findLd_of {t k : Nat} : ∀ {l : List LdE} {e : LdE}, findLd t k l = some e → e ∈ l ∧ t = e.t ∧ k = e.k
  | [], e, h => by cases h
  | x :: l, e, h => by
    simp only [findLd] at h
    cases hb : (Nat.beq x.t t && Nat.beq x.k k) with
    | true =>
      rw [hb] at h
      cases h
      simp only [Bool.and_eq_true] at hb
      exact ⟨List.mem_cons_self, (Nat.eq_of_beq_eq_true hb.1).symm, (Nat.eq_of_beq_eq_true hb.2).symm⟩
    | false =>
      rw [hb] at h
      obtain ⟨h1, h2⟩ := findLd_of h
      exact ⟨List.mem_cons_of_mem _ h1, h2⟩
theorem findApp_of {ats : List TypeId} {args : List Value} {c : Nat} : ∀ {l : List (List TypeId × Entry)} {e : Entry}, findApp ats args c l = some e → ∃ ts, (ts, e) ∈ l ∧ c = e.c ∧ args = e.args ∧ ts = ats
  | [], e, h => by cases h
  | (ts, x) :: l, e, h => by
    simp only [findApp] at h
    cases hb : (Nat.beq x.c c && beqVL args x.args && decide (ts = ats)) with
    | true =>
      rw [hb] at h
      cases h
      simp only [Bool.and_eq_true, decide_eq_true_eq] at hb
      exact ⟨ts, List.mem_cons_self, (Nat.eq_of_beq_eq_true hb.1.1).symm, beqVL_eq hb.1.2, hb.2⟩
    | false =>
      rw [hb] at h
      obtain ⟨ts, h1, h2⟩ := findApp_of h
      exact ⟨ts, List.mem_cons_of_mem _ h1, h2⟩
theorem op_sound [Den] [Asm] [AsmOK P] {Fe : Fence} {n : Nat} {r : Rec} {f : Fr} {o : Oper} {a : Act} {next : Act → World → Prop} {Q : Exit → Act → World → Prop} (hW : Wd Fe) (hcs : CallSnd P w0 F r) (he : ExecSnd P w0 F r)
    {v : Value} {c c' : Nat} {H' : Heap} {L : Lg} (h : opA P r f o c H = .ok v c' H' L) (hf : FR E R f a) (hr : HR P w0 F E H w)
    (hk : ∀ E' v' w', E.le E' → HR P w0 F E' H' w' → VR E' v v' → next (a.put o.dst v') w') : o.wpIn Fe n P a w next Q := by
  have nd : ∀ (op : Op), o.op = op → (∀ c, op ≠ .defer c) → ∀ c, o.op ≠ .defer c := fun op h1 h2 c => by rw [h1]; exact h2 c
  -- a step that leaves the world alone
  have stay : ∀ {v' : Value}, c' = c → H' = H → (∀ c, o.op ≠ .defer c) → (execOp a.eval o).run P w = .ok (.value v') w → VR E v v' → o.wpIn Fe n P a w next Q :=
    fun e1 e2 hd hrun hv => wp_val hW hd hrun (hk E _ w (E.le_refl) (by rw [e2]; exact hr) hv)
  unfold opA at h
  generalize ho : o.op = op at h
  cases op
  case move x =>
    dsimp only [oPick, oAlloc, oBox, oBuild, oBuildSlice, oLoad, oStore, oNilCheck, oBinOp, oUnOp, oConvert, oMakeFunc, oSliceToArrayPointer, oMakeSlice, oSlice, oFieldAddr, oField, oIndexAddr, oIndex, oLookup, oMapUpdate, oInsert, oExtract, oCall] at h
    obtain ⟨q1, q2, _⟩ := eval_ok h
    exact stay q1 q2 (nd _ ho (by simp)) (by simp [execOp, ho]) (eval_sound hf h)
  case assign x =>
    dsimp only [oPick, oAlloc, oBox, oBuild, oBuildSlice, oLoad, oStore, oNilCheck, oBinOp, oUnOp, oConvert, oMakeFunc, oSliceToArrayPointer, oMakeSlice, oSlice, oFieldAddr, oField, oIndexAddr, oIndex, oLookup, oMapUpdate, oInsert, oExtract, oCall] at h
    obtain ⟨q1, q2, _⟩ := eval_ok h
    exact stay q1 q2 (nd _ ho (by simp)) (by simp [execOp, ho]) (eval_sound hf h)
  case pick cd x y =>
    dsimp only [oPick, oAlloc, oBox, oBuild, oBuildSlice, oLoad, oStore, oNilCheck, oBinOp, oUnOp, oConvert, oMakeFunc, oSliceToArrayPointer, oMakeSlice, oSlice, oFieldAddr, oField, oIndexAddr, oIndex, oLookup, oMapUpdate, oInsert, oExtract, oCall] at h
    replace h := beval h; obtain ⟨cv, _, hcv, h⟩ := h
    replace h := beval h; obtain ⟨xv, _, hxv, h⟩ := h
    replace h := beval h; obtain ⟨yv, _, hyv, h⟩ := h
    have e1 := eval_sound hf hcv
    have e2 := eval_sound hf hxv
    have e3 := eval_sound hf hyv
    cases htr : truth cv with
    | none => rw [htr] at h; exact (bad_ok.1 h).elim
    | some t =>
    rw [htr] at h
    dsimp only at h
    generalize hga : a.eval cd = gv at e1
    have := truth_sound (P := P) htr e1
    subst this
    obtain ⟨q0, q1, q2, _⟩ := pure_ok.1 h
    refine stay (v' := if t then a.eval x else a.eval y) q1 q2 (nd _ ho (by simp)) (by simp [execOp, ho, hga, asBool]) ?_
    subst q0
    cases t
    · simpa using e3
    · simpa using e2
  case alloc el =>
    dsimp only [oPick, oAlloc, oBox, oBuild, oBuildSlice, oLoad, oStore, oNilCheck, oBinOp, oUnOp, oConvert, oMakeFunc, oSliceToArrayPointer, oMakeSlice, oSlice, oFieldAddr, oField, oIndexAddr, oIndex, oLookup, oMapUpdate, oInsert, oExtract, oCall] at h
    replace h := bopt h; obtain ⟨z, _, hz, h⟩ := h
    replace h := bguard h; obtain ⟨_, hcl, h⟩ := h
    obtain ⟨E', k1, k2, k3⟩ := newRow_sound h hr (VR.clean (E := E) hcl).cells
    refine wp_val hW (nd _ ho (by simp)) ?_ (hk E' _ _ k1 k2 k3)
    simp [execOp, ho, Instr.alloc, run_zero hz, newVar, run_newRow]
  case box el x =>
    dsimp only [oPick, oAlloc, oBox, oBuild, oBuildSlice, oLoad, oStore, oNilCheck, oBinOp, oUnOp, oConvert, oMakeFunc, oSliceToArrayPointer, oMakeSlice, oSlice, oFieldAddr, oField, oIndexAddr, oIndex, oLookup, oMapUpdate, oInsert, oExtract, oCall] at h
    replace h := beval h; obtain ⟨xv, _, hxv, h⟩ := h
    obtain ⟨E', k1, k2, k3⟩ := newRow_sound h hr (eval_sound hf hxv).cells
    refine wp_val hW (nd _ ho (by simp)) ?_ (hk E' _ _ k1 k2 k3)
    simp [execOp, ho, Instr.box, newVar, run_newRow]
  case build t ps =>
    dsimp only [oPick, oAlloc, oBox, oBuild, oBuildSlice, oLoad, oStore, oNilCheck, oBinOp, oUnOp, oConvert, oMakeFunc, oSliceToArrayPointer, oMakeSlice, oSlice, oFieldAddr, oField, oIndexAddr, oIndex, oLookup, oMapUpdate, oInsert, oExtract, oCall] at h
    replace h := bind_ok.1 h; obtain ⟨vs, c1, h1, _, _, hvs, h, _⟩ := h
    obtain ⟨q1, q2, q3, q4⟩ := pairsL_sound hf hvs
    obtain ⟨q5, q6, q7, _⟩ := opt_ok.1 h
    obtain ⟨v', hv1, hv2⟩ := build_sound (w := w) (parts' := ps.map fun (p : Nat × Operand) => (p.1, a.eval p.2)) q5 (by rw [map_pairs]; exact q3) (by rw [map_pairs]; exact q4)
    refine stay (q6.trans q1) (q7.trans q2) (nd _ ho (by simp)) ?_ hv2
    simp only [execOp, ho, Sem.run_bind]
    rw [show (ps.map fun (i, x) => (i, a.eval x)) = ps.map fun (p : Nat × Operand) => (p.1, a.eval p.2) from rfl, hv1]; rfl
  case buildSlice t m ps =>
    dsimp only [oPick, oAlloc, oBox, oBuild, oBuildSlice, oLoad, oStore, oNilCheck, oBinOp, oUnOp, oConvert, oMakeFunc, oSliceToArrayPointer, oMakeSlice, oSlice, oFieldAddr, oField, oIndexAddr, oIndex, oLookup, oMapUpdate, oInsert, oExtract, oCall] at h
    replace h := bind_ok.1 h; obtain ⟨vs, c1, h1, _, _, hvs, h, _⟩ := h
    obtain ⟨q1, q2, q3, q4⟩ := pairsL_sound hf hvs
    subst q1 q2
    obtain ⟨v', w', E', k1, k2, k3, k4⟩ := buildSlice_sound (parts' := ps.map fun (p : Nat × Operand) => (p.1, a.eval p.2)) h hr (by rw [map_pairs]; exact q3) (by rw [map_pairs]; exact q4)
    refine wp_val hW (nd _ ho (by simp)) ?_ (hk E' _ _ k2 k3 k4)
    simp only [execOp, ho, Sem.run_bind]
    rw [show (ps.map fun (i, x) => (i, a.eval x)) = ps.map fun (p : Nat × Operand) => (p.1, a.eval p.2) from rfl, k1]; rfl
  case load t x =>
    dsimp only [oPick, oAlloc, oBox, oBuild, oBuildSlice, oLoad, oStore, oNilCheck, oBinOp, oUnOp, oConvert, oMakeFunc, oSliceToArrayPointer, oMakeSlice, oSlice, oFieldAddr, oField, oIndexAddr, oIndex, oLookup, oMapUpdate, oInsert, oExtract, oCall] at h
    replace h := beval h; obtain ⟨xv, _, hxv, h⟩ := h
    split at h
    · rename_i k
      unfold loadX at h
      cases hfl : findLd t k Asm.lds with
      | none =>
        rw [hfl] at h
        simp only at h
        unfold appX at h
        cases hfa : findApp [t, 1000000] [.chan (some k)] c Asm.apps with
        | none => rw [hfa] at h; cases h
        | some e =>
          rw [hfa] at h
          obtain ⟨ts, m1, m2, m3, m4⟩ := findApp_of hfa
          subst m2
          have hl : LR E e.args [a.eval x] := by rw [← m3]; exact LR.cons (eval_sound hf hxv) (LR.nil E)
          obtain ⟨v', k1, E', k2, k3, k4⟩ := (AsmOK.app (P := P) _ m1).2.1 t m4 w0 F E H w _ _ _ _ _ h hr hl _ rfl
          exact wp_val hW (nd _ ho (by simp)) (by simp [execOp, ho, k1]) (hk E' _ _ k2 k3 k4)
      | some e =>
        rw [hfl] at h
        simp only at h
        split at h
        · rename_i T j ro hx
          cases hb : Nat.beq j e.j with
          | false => rw [hb] at h; cases h
          | true =>
            rw [hb] at h
            cases h
            have hj := Nat.eq_of_beq_eq_true hb
            subst hj
            obtain ⟨m1, m2, m3⟩ := findLd_of hfl
            subst m2 m3
            obtain ⟨v', k1, k2⟩ := AsmOK.ld (P := P) e m1 w0 F E H w T ro _ hr hx (eval_sound hf hxv)
            exact stay rfl rfl (nd _ ho (by simp)) (by simp [execOp, ho, k1]) k2
        · cases h
    · obtain ⟨q1, q2, v', hv1, hv2⟩ := load_sound h hr (eval_sound hf hxv)
      exact stay q1 q2 (nd _ ho (by simp)) (by simp [execOp, ho, hv1]) hv2
  case store t x y =>
    dsimp only [oPick, oAlloc, oBox, oBuild, oBuildSlice, oLoad, oStore, oNilCheck, oBinOp, oUnOp, oConvert, oMakeFunc, oSliceToArrayPointer, oMakeSlice, oSlice, oFieldAddr, oField, oIndexAddr, oIndex, oLookup, oMapUpdate, oInsert, oExtract, oCall] at h
    replace h := beval h; obtain ⟨xv, _, hxv, h⟩ := h
    replace h := beval h; obtain ⟨yv, _, hyv, h⟩ := h
    replace h := bind_ok.1 h; obtain ⟨u, c1, h1, _, _, hst, h, _⟩ := h
    unfold storeX at hst
    split at hst
    · rename_i k
      replace hst := bind_ok.1 hst
      obtain ⟨r, c2, h2, _, _, hap, hst, _⟩ := hst
      obtain ⟨_, g3, g4, _⟩ := pure_ok.1 hst
      subst g3 g4
      unfold appX at hap
      cases hfa : findApp [t, 1000001] [.chan (some k), yv] c Asm.apps with
      | none => rw [hfa] at hap; cases hap
      | some e =>
        rw [hfa] at hap
        obtain ⟨ts, m1, m2, m3, m4⟩ := findApp_of hfa
        subst m2
        have hl : LR E e.args [a.eval x, a.eval y] := by rw [← m3]; exact LR.cons (eval_sound hf hxv) (LR.cons (eval_sound hf hyv) (LR.nil E))
        obtain ⟨w', k1, E', k2, k3⟩ := (AsmOK.app (P := P) _ m1).2.2 t m4 w0 F E H w _ _ _ _ _ hap hr hl _ _ rfl
        obtain ⟨q2, q3, q4, _⟩ := pure_ok.1 h
        subst q2 q3 q4
        refine wp_skip' hW (nd _ ho (by simp)) (w' := w') ?_ (hk E' _ _ k2 k3 (VR.undef E'))
        simp [execOp, ho, k1]
    · obtain ⟨q1, w', k1, k2⟩ := store_sound hst hr (eval_sound hf hxv) (eval_sound hf hyv)
      obtain ⟨q2, q3, q4, _⟩ := pure_ok.1 h
      subst q2 q3 q4
      refine wp_skip' hW (nd _ ho (by simp)) (w' := w') ?_ (hk E _ _ E.le_refl k2 (VR.undef E))
      simp [execOp, ho, k1]
  case nilCheck x =>
    dsimp only [oPick, oAlloc, oBox, oBuild, oBuildSlice, oLoad, oStore, oNilCheck, oBinOp, oUnOp, oConvert, oMakeFunc, oSliceToArrayPointer, oMakeSlice, oSlice, oFieldAddr, oField, oIndexAddr, oIndex, oLookup, oMapUpdate, oInsert, oExtract, oCall] at h
    replace h := beval h; obtain ⟨xv, _, hxv, h⟩ := h
    have e1 := eval_sound hf hxv
    generalize hga : a.eval x = gv at e1
    cases xv <;> (try simp only at h) <;> first | (exact (bad_ok.1 h).elim) | skip
    · rename_i p
      cases p <;> (try simp only at h) <;> first | (exact (bad_ok.1 h).elim) | skip
      obtain ⟨q0, q1, q2, _⟩ := pure_ok.1 h
      subst q0
      cases e1 with
      | ptr he => exact stay q1 q2 (nd _ ho (by simp)) (by simp [execOp, ho, hga]) (.ptr he)
    · rename_i g p q
      cases g <;> simp only at h <;> first | (exact (bad_ok.1 h).elim) | skip
      obtain ⟨q0, q1, q2, _⟩ := pure_ok.1 h
      subst q0
      cases e1 with
      | fn a1 a2 a3 a4 => exact stay q1 q2 (nd _ ho (by simp)) (by simp [execOp, ho, hga]) (.fn a1 a2 a3 a4)
  case binOp op t x y yt =>
    dsimp only [oPick, oAlloc, oBox, oBuild, oBuildSlice, oLoad, oStore, oNilCheck, oBinOp, oUnOp, oConvert, oMakeFunc, oSliceToArrayPointer, oMakeSlice, oSlice, oFieldAddr, oField, oIndexAddr, oIndex, oLookup, oMapUpdate, oInsert, oExtract, oCall] at h
    replace h := beval h; obtain ⟨xv, _, hxv, h⟩ := h
    replace h := beval h; obtain ⟨yv, _, hyv, h⟩ := h
    obtain ⟨q1, q2, v', hv1, hv2⟩ : c' = c ∧ H' = H ∧ ∃ v', (do eqGuard op t x y (a.eval x) (a.eval y); binOp op t (a.eval x) (a.eval y) : Sem Value).run P w = .ok v' w ∧ VR E v v' := by
      cases hb : bothNil xv yv with
      | true =>
        rw [hb] at h
        simp only [cond_true] at h
        obtain ⟨h1, hc, hh, _⟩ := opt_ok.1 h
        have hxy : a.eval x = .nilIface ∧ a.eval y = .nilIface := by
          unfold bothNil at hb
          split at hb
          · have e1 := eval_sound hf hxv
            have e2 := eval_sound hf hyv
            generalize a.eval x = u at e1 ⊢
            generalize a.eval y = u2 at e2 ⊢
            cases e1; cases e2
            exact ⟨rfl, rfl⟩
          · cases hb
        obtain ⟨k1, b, k2⟩ := nilNil_sound h1 w
        rw [hxy.1, hxy.2]
        exact ⟨hc, hh, v, k1, by rw [k2]; exact .bool _⟩
      | false =>
        rw [hb] at h
        simp only [cond_false] at h
        exact bin_sound (x := x) (y := y) h (eval_sound hf hxv) (eval_sound hf hyv) w
    refine stay q1 q2 (nd _ ho (by simp)) ?_ hv2
    simp only [execOp, ho, Sem.run_bind (P := P) (w := w) (x := (do eqGuard op t x y (a.eval x) (a.eval y); binOp op t (a.eval x) (a.eval y))), hv1]; rfl
  case unOp op t x =>
    dsimp only [oPick, oAlloc, oBox, oBuild, oBuildSlice, oLoad, oStore, oNilCheck, oBinOp, oUnOp, oConvert, oMakeFunc, oSliceToArrayPointer, oMakeSlice, oSlice, oFieldAddr, oField, oIndexAddr, oIndex, oLookup, oMapUpdate, oInsert, oExtract, oCall] at h
    replace h := beval h; obtain ⟨xv, _, hxv, h⟩ := h
    have e1 := eval_sound hf hxv
    cases hp : plainB xv with
    | false =>
      rw [hp] at h
      simp only [cond_false] at h
      obtain ⟨q5, q6, q7, _⟩ := opt_ok.1 h
      obtain ⟨r', k1, k2⟩ := AsmOK.ok (P := P) _ _ q5 E _ e1 w
      exact stay q6 q7 (nd _ ho (by simp)) (by simp [execOp, ho, k2]) k1
    | true =>
      rw [hp] at h
      simp only [cond_true] at h
      obtain ⟨q5, q6, q7, _⟩ := opt_ok.1 h
      obtain ⟨k1, k2⟩ := pure_run q5 (quiet_un hp) w
      have ea := e1.plain hp
      exact stay q6 q7 (nd _ ho (by simp)) (by simp [execOp, ho, ea, k1]) (VR.clean k2)
  case convert s d x =>
    dsimp only [oPick, oAlloc, oBox, oBuild, oBuildSlice, oLoad, oStore, oNilCheck, oBinOp, oUnOp, oConvert, oMakeFunc, oSliceToArrayPointer, oMakeSlice, oSlice, oFieldAddr, oField, oIndexAddr, oIndex, oLookup, oMapUpdate, oInsert, oExtract, oCall] at h
    replace h := beval h; obtain ⟨xv, _, hxv, h⟩ := h
    have e1 := eval_sound hf hxv
    cases hcc : (isIntT P s && isIntT P d && isIntV xv) with
    | false =>
      rw [hcc] at h
      simp only [cond_false] at h
      cases hss : isStrSl xv with
      | false =>
        rw [hss] at h
        simp only [cond_false] at h
        obtain ⟨q5, q6, q7, _⟩ := opt_ok.1 h
        obtain ⟨r', k1, k2⟩ := AsmOK.ok (P := P) _ _ q5 E _ e1 w
        exact stay q6 q7 (nd _ ho (by simp)) (by simp [execOp, ho, k2]) k1
      | true =>
        rw [hss] at h
        simp only [cond_true] at h
        obtain ⟨v', w', E', k1, k2, k3, k4⟩ := conv_sound h hr e1
        refine wp_val hW (nd _ ho (by simp)) (v' := v') (w' := w') ?_ (hk E' _ _ k2 k3 k4)
        simp [execOp, ho, k1]
    | true =>
      rw [hcc] at h
      simp only [cond_true] at h
      simp only [Bool.and_eq_true] at hcc
      obtain ⟨⟨hs0, hd0⟩, hv0⟩ := hcc
      obtain ⟨ks, hs⟩ : ∃ k, P.underlying s = some (.int k) := by
        unfold isIntT at hs0; split at hs0
        · rename_i k hk; exact ⟨k, hk⟩
        · cases hs0
      obtain ⟨kd, hd⟩ : ∃ k, P.underlying d = some (.int k) := by
        unfold isIntT at hd0; split at hd0
        · rename_i k hk; exact ⟨k, hk⟩
        · cases hd0
      obtain ⟨q5, q6, q7, _⟩ := opt_ok.1 h
      cases xv <;> first | (simp [isIntV] at hv0; done) | skip
      rename_i k3 m
      have ea := e1.plain rfl
      have hq : Quiet P (convert s d (.int k3 m)) := by
        unfold convert
        refine Quiet.bind (quiet_underlying s) fun u1 h1 => Quiet.bind (quiet_underlying d) fun u2 h2 => ?_
        obtain ⟨w1, w2, h1⟩ := h1
        obtain ⟨w3, w4, h2⟩ := h2
        rw [run_underlying hs] at h1
        rw [run_underlying hd] at h2
        cases h1; cases h2
        exact Quiet.pure _
      obtain ⟨k1, k2⟩ := pure_run q5 hq w
      exact stay q6 q7 (nd _ ho (by simp)) (by simp [execOp, ho, ea, k1]) (VR.clean k2)
  case makeFunc g x y =>
    dsimp only [oPick, oAlloc, oBox, oBuild, oBuildSlice, oLoad, oStore, oNilCheck, oBinOp, oUnOp, oConvert, oMakeFunc, oSliceToArrayPointer, oMakeSlice, oSlice, oFieldAddr, oField, oIndexAddr, oIndex, oLookup, oMapUpdate, oInsert, oExtract, oCall] at h
    replace h := bind_ok.1 h; obtain ⟨xs, c1, h1, _, _, hxs, h, _⟩ := h
    replace h := bind_ok.1 h; obtain ⟨ys, c2, h2, _, _, hys, h, _⟩ := h
    obtain ⟨q1, q2, q3⟩ := evalL_sound hf hxs
    obtain ⟨q4, q5, q6⟩ := evalL_sound hf hys
    cases g <;> simp only at h <;> first | (exact (bad_ok.1 h).elim) | skip
    rename_i g
    obtain ⟨q0, q7, q8, _⟩ := pure_ok.1 h
    subst q0
    refine stay (v' := .func (.func g) (x.map a.eval) (y.map a.eval)) (q7.trans (q4.trans q1)) (q8.trans (q5.trans q2)) (nd _ ho (by simp)) (by simp [execOp, ho, Instr.makeFunc]) ?_
    have l1 : LR E xs.toArray.toList (x.map a.eval).toList := by simpa using q3
    have l2 : LR E ys.toArray.toList (y.map a.eval).toList := by simpa using q6
    exact .fn l1.1 l1.2 l2.1 l2.2
  case makeMap t r =>
    cases r <;> dsimp only at h <;> first | (exact (bad_ok.1 h).elim) | skip
    replace h := bind_ok.1 h; obtain ⟨j, c1, h1, _, _, hj0, h, _⟩ := h
    obtain ⟨q0, q1, q2, _⟩ := pure_ok.1 h
    obtain ⟨hj1, hj2, hj, hj3, _⟩ := newA_inv hj0
    subst q0 q1 q2 hj1 hj2 hj3
    have hfr := hr.fresh (o := .map [] [] 0) (b := .map #[] 0) (cap := 0) hj (fun w' hw' => ⟨_, #[], 0, by simp [Env.upd]; rfl, by rw [hw']; simp, .nil, rfl, rfl⟩)
    have hE : Env.upd E j ⟨w.heap.size, 0, 0⟩ j = some ⟨w.heap.size, 0, 0⟩ := by simp [Env.upd]
    refine wp_val hW (nd _ ho (by simp)) (w' := { w with heap := w.heap.push (.map #[] 0) }) (v' := .map (some w.heap.size)) ?_ (hk _ _ _ hfr.1 hfr.2 (.map hE))
    simp [execOp, ho, Instr.makeMap]
  case makeSlice t x y =>
    dsimp only [oPick, oAlloc, oBox, oBuild, oBuildSlice, oLoad, oStore, oNilCheck, oBinOp, oUnOp, oConvert, oMakeFunc, oSliceToArrayPointer, oMakeSlice, oSlice, oFieldAddr, oField, oIndexAddr, oIndex, oLookup, oMapUpdate, oInsert, oExtract, oCall] at h
    replace h := beval h; obtain ⟨xv, _, hxv, h⟩ := h
    replace h := beval h; obtain ⟨yv, _, hyv, h⟩ := h
    obtain ⟨v', w', E', k1, k2, k3, k4⟩ := makeSlice_sound h hr (eval_sound hf hxv) (eval_sound hf hyv)
    refine wp_val hW (nd _ ho (by simp)) ?_ (hk E' _ _ k2 k3 k4)
    simp [execOp, ho, k1]
  case sliceToArrayPointer t x =>
    dsimp only [oPick, oAlloc, oBox, oBuild, oBuildSlice, oLoad, oStore, oNilCheck, oBinOp, oUnOp, oConvert, oMakeFunc, oSliceToArrayPointer, oMakeSlice, oSlice, oFieldAddr, oField, oIndexAddr, oIndex, oLookup, oMapUpdate, oInsert, oExtract, oCall] at h
    replace h := beval h; obtain ⟨xv, _, hxv, h⟩ := h
    obtain ⟨p1, p2, p3, _⟩ := opt_ok.1 h
    obtain ⟨v', hv1, hv2⟩ := arrayAt_sound p1 (eval_sound hf hxv) w
    exact stay p2 p3 (nd _ ho (by simp)) (by simp [execOp, ho, hv1]) hv2
  case slice t x lo hi mx =>
    dsimp only [oPick, oAlloc, oBox, oBuild, oBuildSlice, oLoad, oStore, oNilCheck, oBinOp, oUnOp, oConvert, oMakeFunc, oSliceToArrayPointer, oMakeSlice, oSlice, oFieldAddr, oField, oIndexAddr, oIndex, oLookup, oMapUpdate, oInsert, oExtract, oCall] at h
    replace h := beval h; obtain ⟨xv, _, hxv, h⟩ := h
    replace h := bind_ok.1 h; obtain ⟨lov, c1, h1, _, _, hlo, h, _⟩ := h
    replace h := bind_ok.1 h; obtain ⟨hiv, c2, h2, _, _, hhi, h, _⟩ := h
    replace h := bind_ok.1 h; obtain ⟨mxv, c3, h3, _, _, hmx, h, _⟩ := h
    obtain ⟨q1, q2, q3⟩ := evalO_sound hf hlo
    obtain ⟨q4, q5, q6⟩ := evalO_sound hf hhi
    obtain ⟨q7, q8, q9⟩ := evalO_sound hf hmx
    cases hok : isOk (orAsm (.sli t xv lov hiv mxv) (sliceA P t xv lov hiv mxv)) with
    | false =>
      rw [hok] at h
      simp only [cond_false] at h
      obtain ⟨p2, p3, v', hv1, hv2⟩ := sliceX_sound h (by rw [q8, q5, q2]; exact hr) (eval_sound hf hxv) q3 q6 q9
      exact stay (p2.trans (q7.trans (q4.trans q1))) (p3.trans (q8.trans (q5.trans q2))) (nd _ ho (by simp)) (by simp [execOp, ho, hv1]) hv2
    | true =>
    rw [hok] at h
    simp only [cond_true] at h
    obtain ⟨p1, p2, p3, _⟩ := opt_ok.1 h
    obtain ⟨v', hv1, hv2⟩ : ∃ v', (Instr.sliceAt t (a.eval x) (lo.map a.eval) (hi.map a.eval) (mx.map a.eval)).run P w = .ok v' w ∧ VR E v v' := by
      unfold orAsm at p1
      split at p1
      · rename_i hia
        cases p1
        exact slice_sound hia (eval_sound hf hxv) q3 q6 q9 w
      · have orr : ∀ {x y : Option Value}, OR E x y → OptR E x y := fun h => by cases h with
          | none => rfl
          | some h => exact ⟨_, rfl, h⟩
        obtain ⟨r', k1, k2⟩ := AsmOK.ok (P := P) _ _ p1 E _ _ _ _ (eval_sound hf hxv) (orr q3) (orr q6) (orr q9) w
        exact ⟨r', k2, k1⟩
    exact stay (p2.trans (q7.trans (q4.trans q1))) (p3.trans (q8.trans (q5.trans q2))) (nd _ ho (by simp)) (by simp [execOp, ho, hv1]) hv2
  case fieldAddr t x i =>
    dsimp only [oPick, oAlloc, oBox, oBuild, oBuildSlice, oLoad, oStore, oNilCheck, oBinOp, oUnOp, oConvert, oMakeFunc, oSliceToArrayPointer, oMakeSlice, oSlice, oFieldAddr, oField, oIndexAddr, oIndex, oLookup, oMapUpdate, oInsert, oExtract, oCall] at h
    replace h := beval h; obtain ⟨xv, _, hxv, h⟩ := h
    obtain ⟨p1, p2, p3, _⟩ := opt_ok.1 h
    obtain ⟨v', hv1, hv2⟩ := fieldAddr_sound (w := w) p1 (eval_sound hf hxv)
    exact stay p2 p3 (nd _ ho (by simp)) (by simp [execOp, ho, hv1]) hv2
  case field t x i =>
    dsimp only [oPick, oAlloc, oBox, oBuild, oBuildSlice, oLoad, oStore, oNilCheck, oBinOp, oUnOp, oConvert, oMakeFunc, oSliceToArrayPointer, oMakeSlice, oSlice, oFieldAddr, oField, oIndexAddr, oIndex, oLookup, oMapUpdate, oInsert, oExtract, oCall] at h
    replace h := beval h; obtain ⟨xv, _, hxv, h⟩ := h
    obtain ⟨p1, p2, p3, _⟩ := opt_ok.1 h
    obtain ⟨v', hv1, hv2⟩ := field_sound (w := w) p1 (eval_sound hf hxv)
    exact stay p2 p3 (nd _ ho (by simp)) (by simp [execOp, ho, hv1]) hv2
  case indexAddr t x i =>
    dsimp only [oPick, oAlloc, oBox, oBuild, oBuildSlice, oLoad, oStore, oNilCheck, oBinOp, oUnOp, oConvert, oMakeFunc, oSliceToArrayPointer, oMakeSlice, oSlice, oFieldAddr, oField, oIndexAddr, oIndex, oLookup, oMapUpdate, oInsert, oExtract, oCall] at h
    replace h := beval h; obtain ⟨xv, _, hxv, h⟩ := h
    replace h := beval h; obtain ⟨iv, _, hiv, h⟩ := h
    obtain ⟨p1, p2, p3, _⟩ := opt_ok.1 h
    obtain ⟨v', hv1, hv2⟩ : ∃ v', (Instr.indexAt t (a.eval x) (a.eval i)).run P w = .ok v' w ∧ VR E v v' := by
      unfold orAsm at p1
      split at p1
      · rename_i hia
        cases p1
        exact indexAddr_sound (w := w) hia (eval_sound hf hxv) (eval_sound hf hiv)
      · obtain ⟨r', k1, k2⟩ := AsmOK.ok (P := P) _ _ p1 E _ _ (eval_sound hf hxv) (eval_sound hf hiv) w
        exact ⟨r', k2, k1⟩
    exact stay p2 p3 (nd _ ho (by simp)) (by simp [execOp, ho, hv1]) hv2
  case index t x i =>
    dsimp only [oPick, oAlloc, oBox, oBuild, oBuildSlice, oLoad, oStore, oNilCheck, oBinOp, oUnOp, oConvert, oMakeFunc, oSliceToArrayPointer, oMakeSlice, oSlice, oFieldAddr, oField, oIndexAddr, oIndex, oLookup, oMapUpdate, oInsert, oExtract, oCall] at h
    replace h := beval h; obtain ⟨xv, _, hxv, h⟩ := h
    replace h := beval h; obtain ⟨iv, _, hiv, h⟩ := h
    obtain ⟨p1, p2, p3, _⟩ := opt_ok.1 h
    obtain ⟨v', hv1, hv2⟩ : ∃ v', (Instr.index t (a.eval x) (a.eval i)).run P w = .ok v' w ∧ VR E v v' := by
      unfold orAsm at p1
      split at p1
      · rename_i hia
        cases p1
        exact index_sound (w := w) hia (eval_sound hf hxv) (eval_sound hf hiv)
      · obtain ⟨r', k1, k2⟩ := AsmOK.ok (P := P) _ _ p1 E _ _ (eval_sound hf hxv) (eval_sound hf hiv) w
        exact ⟨r', k2, k1⟩
    exact stay p2 p3 (nd _ ho (by simp)) (by simp [execOp, ho, hv1]) hv2
  case lookup t x i ok =>
    dsimp only [oPick, oAlloc, oBox, oBuild, oBuildSlice, oLoad, oStore, oNilCheck, oBinOp, oUnOp, oConvert, oMakeFunc, oSliceToArrayPointer, oMakeSlice, oSlice, oFieldAddr, oField, oIndexAddr, oIndex, oLookup, oMapUpdate, oInsert, oExtract, oCall] at h
    replace h := beval h; obtain ⟨xv, _, hxv, h⟩ := h
    replace h := beval h; obtain ⟨iv, _, hiv, h⟩ := h
    obtain ⟨q1, q2, v', hv1, hv2⟩ := lookup_sound h hr (eval_sound hf hxv) (eval_sound hf hiv)
    exact stay q1 q2 (nd _ ho (by simp)) (by simp [execOp, ho, hv1]) hv2
  case mapUpdate t m k x =>
    dsimp only [oPick, oAlloc, oBox, oBuild, oBuildSlice, oLoad, oStore, oNilCheck, oBinOp, oUnOp, oConvert, oMakeFunc, oSliceToArrayPointer, oMakeSlice, oSlice, oFieldAddr, oField, oIndexAddr, oIndex, oLookup, oMapUpdate, oInsert, oExtract, oCall] at h
    replace h := beval h; obtain ⟨mv, _, hmv, h⟩ := h
    replace h := beval h; obtain ⟨kv, _, hkv, h⟩ := h
    replace h := beval h; obtain ⟨xv, _, hxv, h⟩ := h
    replace h := bind_ok.1 h; obtain ⟨u, c1, h1, _, _, hst, h, _⟩ := h
    obtain ⟨q1, w', k1, k2⟩ := update_sound hst hr (eval_sound hf hmv) (eval_sound hf hkv) (eval_sound hf hxv)
    obtain ⟨q2, q3, q4, _⟩ := pure_ok.1 h
    subst q2 q3 q4
    refine wp_skip' hW (nd _ ho (by simp)) (w' := w') ?_ (hk E _ _ E.le_refl k2 (VR.undef E))
    simp [execOp, ho, k1]
  case insert t m k x =>
    dsimp only [oPick, oAlloc, oBox, oBuild, oBuildSlice, oLoad, oStore, oNilCheck, oBinOp, oUnOp, oConvert, oMakeFunc, oSliceToArrayPointer, oMakeSlice, oSlice, oFieldAddr, oField, oIndexAddr, oIndex, oLookup, oMapUpdate, oInsert, oExtract, oCall] at h
    replace h := beval h; obtain ⟨mv, _, hmv, h⟩ := h
    replace h := beval h; obtain ⟨kv, _, hkv, h⟩ := h
    replace h := beval h; obtain ⟨xv, _, hxv, h⟩ := h
    replace h := bind_ok.1 h; obtain ⟨u, c1, h1, _, _, hst, h, _⟩ := h
    obtain ⟨q1, w', k1, k2⟩ := update_sound hst hr (eval_sound hf hmv) (eval_sound hf hkv) (eval_sound hf hxv)
    obtain ⟨q2, q3, q4, _⟩ := pure_ok.1 h
    subst q2 q3 q4
    refine wp_skip' hW (nd _ ho (by simp)) (w' := w') ?_ (hk E _ _ E.le_refl k2 (VR.undef E))
    simp [execOp, ho, k1]
  case extract x i =>
    dsimp only [oPick, oAlloc, oBox, oBuild, oBuildSlice, oLoad, oStore, oNilCheck, oBinOp, oUnOp, oConvert, oMakeFunc, oSliceToArrayPointer, oMakeSlice, oSlice, oFieldAddr, oField, oIndexAddr, oIndex, oLookup, oMapUpdate, oInsert, oExtract, oCall] at h
    replace h := beval h; obtain ⟨xv, _, hxv, h⟩ := h
    have e1 := eval_sound hf hxv
    generalize hga : a.eval x = gv at e1
    cases xv <;> simp only at h <;> first | (exact (bad_ok.1 h).elim) | skip
    rename_i vs
    obtain ⟨p1, p2, p3, _⟩ := opt_ok.1 h
    cases e1 with
    | tup a1 a2 =>
      rename_i vs'
      obtain ⟨y, hy, hv⟩ := LR.get (E := E) ⟨a1, a2⟩ (k := i) (x := v) (by simpa using p1)
      have hy' : vs'[i]? = some y := by simpa using hy
      exact stay p2 p3 (nd _ ho (by simp)) (by simp [execOp, ho, hga, Instr.extract, hy']) hv
  case typeAssert x xt t ok =>
    dsimp only [oAssert] at h
    replace h := beval h; obtain ⟨xv, _, hxv, h⟩ := h
    have e1 := eval_sound hf hxv
    cases xv <;> (try exact (bad_ok.1 h).elim)
    cases hu : P.underlying t with
    | none => rw [hu] at h; exact (bad_ok.1 h).elim
    | some d =>
      rw [hu] at h
      cases ok with
      | false => exact (bad_ok.1 h).elim
      | true =>
      generalize hga : a.eval x = gv at e1
      cases e1
      replace h := bopt h; obtain ⟨z, _, hz, h⟩ := h
      replace h := bguard h; obtain ⟨_, hcl, h⟩ := h
      obtain ⟨q1, q2, q3, _⟩ := pure_ok.1 h
      subst q1
      refine stay (v' := .tuple #[z, .bool false]) q2 q3 (nd _ ho (by simp)) ?_ (.tup_of (LR.cons (VR.clean hcl) (LR.cons (.bool _) (LR.nil E))))
      have hrun : (Instr.typeAssert .nilIface xt t true).run P w = .ok (.tuple #[z, .bool false]) w := by
        unfold Instr.typeAssert
        simp only [Sem.run_bind, run_underlying hu, Result.andThen_ok]
        cases d <;> simp [run_zero hz]
      simp [execOp, ho, hga, hrun]
  case range t x =>
    dsimp only [oRange] at h
    replace h := beval h; obtain ⟨xv, _, hxv, h⟩ := h
    replace h := bopt h; obtain ⟨⟨kt, et⟩, _, hm, h⟩ := h
    obtain ⟨v', w', E', k1, k2, k3, k4⟩ := range_it_sound (map_types hm) h hr (eval_sound hf hxv)
    refine wp_val hW (nd _ ho (by simp)) ?_ (hk E' _ _ k2 k3 k4)
    simp [execOp, ho, k1]
  case next x str =>
    dsimp only [oNext] at h
    replace h := beval h; obtain ⟨xv, _, hxv, h⟩ := h
    have e1 := eval_sound hf hxv
    split at h
    · generalize hga : a.eval x = gv at e1
      cases e1 with
      | ptr he1 =>
        rename_i ei
        have hoff : ei.off = 0 := by
          have h0 := h
          unfold nextA at h0
          replace h0 := bind_ok.1 h0
          obtain ⟨it, c1, h1, _, _, hit, _, _⟩ := h0
          obtain ⟨_, _, hi⟩ := iterGet_inv hit
          obtain ⟨e2, m1, m2, _⟩ := hr.obj _ _ hi
          rw [he1] at m1; cases m1
          exact m2
        obtain ⟨v', w', k1, k2, k3⟩ := next_it_sound (ty := o.type) h hr he1
        refine wp_val hW (nd _ ho (by simp)) (v' := v') (w' := w') ?_ (hk E _ _ E.le_refl ?_ k3)
        · rw [hoff] at hga
          simp [execOp, ho, hga, k1]
        · exact k2
    · exact (bad_ok.1 h).elim
  case entry x =>
    dsimp only [oEntry] at h
    replace h := beval h; obtain ⟨xv, _, hxv, h⟩ := h
    have e1 := eval_sound hf hxv
    split at h
    · generalize hga : a.eval x = gv at e1
      cases e1 with
      | ptr he1 =>
        rename_i ei
        have hoff : ei.off = 0 := by
          have h0 := h
          unfold entryA at h0
          replace h0 := bind_ok.1 h0
          obtain ⟨it, c1, h1, _, _, hit, _, _⟩ := h0
          obtain ⟨_, _, hi⟩ := iterGet_inv hit
          obtain ⟨e2, m1, m2, _⟩ := hr.obj _ _ hi
          rw [he1] at m1; cases m1
          exact m2
        obtain ⟨q1, q2, v', k1, k2⟩ := entry_it_sound h hr he1
        refine stay (v' := v') q1 q2 (nd _ ho (by simp)) ?_ k2
        rw [hoff] at hga
        simp [execOp, ho, hga, k1]
    · exact (bad_ok.1 h).elim
  case call cl =>
    dsimp only [oPick, oAlloc, oBox, oBuild, oBuildSlice, oLoad, oStore, oNilCheck, oBinOp, oUnOp, oConvert, oMakeFunc, oSliceToArrayPointer, oMakeSlice, oSlice, oFieldAddr, oField, oIndexAddr, oIndex, oLookup, oMapUpdate, oInsert, oExtract, oCall] at h
    generalize hcl : cl.callee = ce at h
    cases ce <;> dsimp only at h
    case value g =>
      replace h := beval h; obtain ⟨gv, _, hgv, h⟩ := h
      replace h := bind_ok.1 h; obtain ⟨args, c1, h1, _, _, hargs, h, _⟩ := h
      obtain ⟨q1, q2, q3⟩ := evalL_sound hf hargs
      subst q1 q2
      exact callV_sound hW hcs he ho hcl h hr (eval_sound hf hgv) q3 hk
    case invoke => exact (bad_ok.1 h).elim
    case builtin b =>
      replace h := bind_ok.1 h; obtain ⟨args, c1, h1, _, _, hargs, h, _⟩ := h
      obtain ⟨q1, q2, q3⟩ := evalL_sound hf hargs
      subst q1 q2
      have hargs' : (cl.args.map a.eval) = (cl.args.toList.map a.eval).toArray := by apply Array.toList_inj.1; simp
      unfold builtinA at h
      cases b <;> dsimp only at h
      case append =>
        obtain ⟨v', w', E', k1, k2, k3, k4⟩ : ∃ v' w' E', (Builtin.append_ cl.argTypes o.type (cl.args.toList.map a.eval).toArray).run P w = .ok v' w' ∧ E.le E' ∧ HR P w0 F E' H' w' ∧ VR E' v v' := by
          cases hcx : args.any isCx with
          | false => rw [hcx] at h; exact append_sound (ty := o.type) h hr q3
          | true =>
            rw [hcx] at h
            simp only [cond_true] at h
            cases hbg : cl.argTypes.toList.any (Nat.ble 1000000) with
            | true => rw [hbg] at h; simp only [cond_true] at h; exact (bad_ok.1 h).elim
            | false =>
            rw [hbg] at h
            simp only [cond_false] at h
            unfold appX at h
            cases hfa : findApp cl.argTypes.toList args _ Asm.apps with
            | none => rw [hfa] at h; cases h
            | some e =>
              rw [hfa] at h
              obtain ⟨ts, m1, m2, m3, m4⟩ := findApp_of hfa
              subst m2 m3
              exact (AsmOK.app (P := P) _ m1).1 (by rw [m4]; exact hbg) w0 F E _ w _ _ _ _ _ o.type cl.argTypes h hr q3 m4.symm
        refine wp_val hW (nd _ ho (by simp)) ?_ (hk E' _ _ k2 k3 k4)
        simp only [execOp, ho, resolve, hcl, Sem.run_bind, Sem.run_pure, Result.andThen_ok, invoke, builtin, hargs', k1]
      case copy =>
        obtain ⟨v', w', k1, k2, k3⟩ := copy_sound (ty := o.type) h hr q3
        refine wp_val hW (nd _ ho (by simp)) ?_ (hk E _ _ E.le_refl k2 k3)
        simp only [execOp, ho, resolve, hcl, Sem.run_bind, Sem.run_pure, Result.andThen_ok, invoke, builtin, hargs', k1]
      case clear =>
        match args, q3, h with
        | [x], q3, h =>
          dsimp only at h
          obtain ⟨x', r1, hr1, hx, hnil⟩ := q3.cons_inv
          rw [hnil.nil_inv] at hr1
          cases hat : cl.argTypes[0]? with
          | none => rw [hat] at h; exact (bad_ok.1 h).elim
          | some t =>
            rw [hat] at h
            obtain ⟨v', w', k1, k2, k3⟩ := clear_sound (ty := o.type) hat h hr hx
            refine wp_val hW (nd _ ho (by simp)) ?_ (hk E _ _ E.le_refl k2 k3)
            simp only [execOp, ho, resolve, hcl, Sem.run_bind, Sem.run_pure, Result.andThen_ok, invoke, builtin, hargs', hr1, k1]
        | [], _, h => exact (bad_ok.1 h).elim
        | _ :: _ :: _, _, h => exact (bad_ok.1 h).elim
      case min =>
        match args, q3, h with
        | [x, y], q3, h =>
          dsimp only at h
          obtain ⟨p1, p2, p3, _⟩ := opt_ok.1 h
          obtain ⟨x', r1, hr1, hx, hnil⟩ := q3.cons_inv
          obtain ⟨y', r2, hr2, hy, hnil⟩ := hnil.cons_inv
          rw [hr2, hnil.nil_inv] at hr1
          obtain ⟨v', k1, k2⟩ : ∃ v', (if false then Builtin.max_ cl.argTypes o.type #[x', y'] else Builtin.min_ cl.argTypes o.type #[x', y']).run P w = .ok v' w ∧ VR E v v' := by
            unfold orAsm at p1
            split at p1
            · rename_i hia
              cases p1
              rw [hr1] at q3
              have := minmax_sound (P := P) (ats := cl.argTypes) (ty := o.type) hia q3 w
              exact ⟨_, this.1, this.2⟩
            · obtain ⟨r', k1, k2⟩ := AsmOK.ok (P := P) _ _ p1 E _ _ hx hy cl.argTypes o.type w
              exact ⟨r', k2, k1⟩
          refine stay p2 p3 (nd _ ho (by simp)) ?_ k2
          simp only [Bool.false_eq_true, if_false] at k1
          simp only [execOp, ho, resolve, hcl, Sem.run_bind, Sem.run_pure, Result.andThen_ok, invoke, builtin, hargs', hr1, k1]
        | [], _, h => exact (bad_ok.1 h).elim
        | [_], _, h => exact (bad_ok.1 h).elim
        | _ :: _ :: _ :: _, _, h => exact (bad_ok.1 h).elim
      case max =>
        match args, q3, h with
        | [x, y], q3, h =>
          dsimp only at h
          obtain ⟨p1, p2, p3, _⟩ := opt_ok.1 h
          obtain ⟨x', r1, hr1, hx, hnil⟩ := q3.cons_inv
          obtain ⟨y', r2, hr2, hy, hnil⟩ := hnil.cons_inv
          rw [hr2, hnil.nil_inv] at hr1
          obtain ⟨v', k1, k2⟩ : ∃ v', (if true then Builtin.max_ cl.argTypes o.type #[x', y'] else Builtin.min_ cl.argTypes o.type #[x', y']).run P w = .ok v' w ∧ VR E v v' := by
            unfold orAsm at p1
            split at p1
            · rename_i hia
              cases p1
              rw [hr1] at q3
              have := minmax_sound (P := P) (ats := cl.argTypes) (ty := o.type) hia q3 w
              exact ⟨_, this.1, this.2⟩
            · obtain ⟨r', k1, k2⟩ := AsmOK.ok (P := P) _ _ p1 E _ _ hx hy cl.argTypes o.type w
              exact ⟨r', k2, k1⟩
          refine stay p2 p3 (nd _ ho (by simp)) ?_ k2
          simp only [if_true] at k1
          simp only [execOp, ho, resolve, hcl, Sem.run_bind, Sem.run_pure, Result.andThen_ok, invoke, builtin, hargs', hr1, k1]
        | [], _, h => exact (bad_ok.1 h).elim
        | [_], _, h => exact (bad_ok.1 h).elim
        | _ :: _ :: _ :: _, _, h => exact (bad_ok.1 h).elim
      case len =>
        match args, q3, h with
        | [x], q3, h =>
          dsimp only [oPick, oAlloc, oBox, oBuild, oBuildSlice, oLoad, oStore, oNilCheck, oBinOp, oUnOp, oConvert, oMakeFunc, oSliceToArrayPointer, oMakeSlice, oSlice, oFieldAddr, oField, oIndexAddr, oIndex, oLookup, oMapUpdate, oInsert, oExtract, oCall] at h
          cases ht : cl.argTypes[0]? with
          | none => rw [ht] at h; exact (bad_ok.1 h).elim
          | some t =>
            rw [ht] at h
            obtain ⟨x', r1, hr1, hx, hnil⟩ := q3.cons_inv
            rw [hnil.nil_inv] at hr1
            obtain ⟨q4, q5, v', hv1, hv2⟩ : _ ∧ _ ∧ ∃ v', (Builtin.len_ cl.argTypes o.type #[x']).run P w = .ok v' w ∧ VR E v v' := by
              cases hcx : isCx x with
              | false =>
                simp only [hcx, cond_false] at h
                exact len_sound (ty := o.type) ht h hr hx
              | true =>
                simp only [hcx, cond_true] at h
                obtain ⟨p1, p2, p3, _⟩ := opt_ok.1 h
                obtain ⟨r', k1, k2⟩ := AsmOK.ok (P := P) _ _ p1 E _ hx cl.argTypes o.type w ht
                exact ⟨p2, p3, r', k2, k1⟩
            refine stay q4 q5 (nd _ ho (by simp)) ?_ hv2
            simp only [execOp, ho, resolve, hcl, Sem.run_bind, Sem.run_pure, Result.andThen_ok, invoke, builtin, hargs', hr1, hv1]
        | [], _, h => exact (bad_ok.1 h).elim
        | _ :: _ :: _, _, h => exact (bad_ok.1 h).elim
      case delete =>
        match args, q3, h with
        | [m, k], q3, h =>
          dsimp only [oPick, oAlloc, oBox, oBuild, oBuildSlice, oLoad, oStore, oNilCheck, oBinOp, oUnOp, oConvert, oMakeFunc, oSliceToArrayPointer, oMakeSlice, oSlice, oFieldAddr, oField, oIndexAddr, oIndex, oLookup, oMapUpdate, oInsert, oExtract, oCall] at h
          cases ht : cl.argTypes[0]? with
          | none => rw [ht] at h; exact (bad_ok.1 h).elim
          | some t =>
            rw [ht] at h
            obtain ⟨m', r1, hr1, hm, hnil⟩ := q3.cons_inv
            obtain ⟨k', r2, hr2, hkk, hnil⟩ := hnil.cons_inv
            rw [hr2, hnil.nil_inv] at hr1
            replace h := bind_ok.1 h; obtain ⟨u, c2, h2, _, _, hst, h, _⟩ := h
            obtain ⟨q4, w', k1, k2⟩ := delete_sound (ty := o.type) ht hst hr hm hkk
            obtain ⟨q5, q6, q7, _⟩ := pure_ok.1 h
            subst q5 q6 q7
            refine wp_val hW (nd _ ho (by simp)) (w' := w') (v' := .tuple #[]) ?_ (hk E _ _ E.le_refl k2 (VR.undef E))
            simp only [execOp, ho, resolve, hcl, Sem.run_bind, Sem.run_pure, Result.andThen_ok, invoke, builtin, hargs', hr1, k1]
        | [], _, h => exact (bad_ok.1 h).elim
        | [_], _, h => exact (bad_ok.1 h).elim
        | _ :: _ :: _ :: _, _, h => exact (bad_ok.1 h).elim
      all_goals exact (bad_ok.1 h).elim
  all_goals (dsimp only at h; exact (bad_ok.1 h).elim)
end
end Go.Sx

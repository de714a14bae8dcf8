import Derived.Test.YtjpgnjaobfbojaaEf
namespace Go.Sx
def Anch (an : List Nat) (E0 E : Env) : Prop := ∀ i ∈ an, ∀ x, E0 i = some x → E i = some x
theorem Anch.le {an : List Nat} {E0 E E' : Env} (h : Anch an E0 E) (hle : E.le E') : Anch an E0 E' := fun i hi x hx => hle _ _ (h i hi x hx)
section
variable {P : Program} {w0 : World} {F : Nat → Prop} {Fe : Fence} {n : Nat} {Q : Exit → Act → World → Prop} {an : List Nat} {E0 : Env}
def GoodA [Den] (P : Program) (w0 : World) (F : Nat → Prop) (Fe : Fence) (n : Nat) (Q : Exit → Act → World → Prop) (an : List Nat) (E0 : Env) (x : Cfg) : Prop :=
  ∀ E a w, Anch an E0 E → FR E Fe.round x.f a → HR P w0 F E x.h w → post Fe n P Q x.k x.e a w
theorem execK_soundA [Den] {r : Rec} (he : ExecSnd P w0 F r) (hW : Wd Fe) {cd : Code} {x y : Cfg} {k : List KI} (h : execK r cd x k = some y) (hg : GoodA P w0 F Fe n Q an E0 y) {E : Env} {a : Act} {w : World}
    (ha : Anch an E0 E) (hf : FR E Fe.round x.f a) (hr : HR P w0 F E x.h w) : cd.wpIn Fe n P (post Fe n P Q k) a w := by
  unfold execK at h
  cases hx : r.exec cd x.f x.c x.h with
  | bad m => rw [hx] at h; cases h
  | ok ef c' h' L =>
    obtain ⟨e, f'⟩ := ef
    rw [hx] at h
    simp only [Option.some.injEq] at h
    subst h
    exact (he cd Fe n _ E x.h w x.f f' e a _ _ _ _ hW hx hf hr fun E' a' w' hle hr' hf' => hg E' a' w' (ha.le hle) hf' hr').1
theorem kstep_soundA [Den] {r : Rec} (he : ExecSnd P w0 F r) (hW : Wd Fe) {x y : Cfg} (h : kstep r x = some y) (hg : GoodA P w0 F Fe n Q an E0 y) : GoodA P w0 F Fe n Q an E0 x := by
  obtain ⟨k, e, f, c, H⟩ := x
  intro E a w ha hf hr
  simp only at hf hr ⊢
  cases k with
  | nil => cases e <;> simp [kstep] at h
  | cons i k =>
    have pass : ∀ {y'}, y' = some y → y' = some (⟨k, e, f, c, H⟩ : Cfg) → post Fe n P Q k e a w := fun h1 h2 => by
      rw [h2] at h1
      cases h1
      exact hg E a w ha hf hr
    cases e with
    | normal =>
      cases i with
      | code cd =>
        show cd.wpIn Fe n P (post Fe n P Q k) a w
        cases cd
        case seq p q =>
          cases h
          refine wpIn_seq (wpIn_mono (hg E a w ha hf hr) fun e a' w' hp => ?_)
          cases e <;> exact hp
        case block id b =>
          cases h
          refine wpIn_block (wpIn_mono (hg E a w ha hf hr) fun e a' w' hp => ?_)
          cases e <;> exact hp
        case loop b =>
          cases h
          refine wpIn_of_loop (loopWp_round (wpIn_mono (hg E a w ha hf hr) fun e a' w' hp => ?_))
          cases e <;> exact hp
        all_goals exact execK_soundA he hW (x := ⟨_, .normal, f, c, H⟩) h hg ha hf hr
      | blk id => exact pass h rfl
      | lp b =>
        cases h
        refine loopWp_round (wpIn_mono (hg E a w ha hf hr) fun e a' w' hp => ?_)
        cases e <;> exact hp
    | exit id' =>
      cases i with
      | code cd => exact pass h rfl
      | lp b => exact pass h rfl
      | blk id =>
        cases h
        have := hg E a w ha hf hr
        show if id' = id then post Fe n P Q k .normal a w else post Fe n P Q k (.exit id') a w
        simp only at this
        split at this <;> rename_i hi
        · rw [if_pos hi]; exact this
        · rw [if_neg hi]; exact this
    | goto l => cases i <;> exact pass h rfl
    | ret => cases i <;> exact pass h rfl
    | panic ch => cases i <;> exact pass h rfl
    | outgrown => cases i <;> exact pass h rfl
theorem ksteps_soundA [Den] {r : Rec} (he : ExecSnd P w0 F r) (hW : Wd Fe) : ∀ {m : Nat} {x y : Cfg}, ksteps r m x = some y → GoodA P w0 F Fe n Q an E0 y → GoodA P w0 F Fe n Q an E0 x
  | 0, x, y, h, hg => by cases h; exact hg
  | m + 1, x, y, h, hg => by
    simp only [ksteps] at h
    cases hk : kstep r x with
    | none => rw [hk] at h; cases h
    | some z => rw [hk] at h; exact kstep_soundA he hW hk (ksteps_soundA he hW h hg)
abbrev FV := List (Nat × Value)
noncomputable def ofV : FV → Tr Value
  | [] => .nil
  | (k, v) :: l => (ofV l).set k v
def lkV : FV → Nat → Option Value
  | [], _ => none
  | (i, v) :: l, k => bif Nat.beq i k then some v else lkV l k
theorem get_ofV : ∀ (l : FV) (k : Nat), (ofV l).get k = lkV l k
  | [], k => rfl
  | (i, o) :: l, k => by
    simp only [ofV, Tr.get_set, lkV, get_ofV l k]
    cases hb : Nat.beq i k with
    | true => have := beq_iff.1 hb; subst this; simp
    | false => rw [if_neg (fun e => by subst e; rw [Nat.beq_refl] at hb; cases hb)]; rfl
noncomputable def cvV [Den] (τ : Ren) (t : Tr Value) : List Nat → Option FV
  | [] => some []
  | k :: l => match t.get k with
    | none => none
    | some v => match cv τ DEP v, cvV τ t l with
      | some u, some r => some ((k, u) :: r)
      | _, _ => none
theorem cvV_get [Den] {τ : Ren} {t : Tr Value} : ∀ {l : List Nat} {V : FV}, cvV τ t l = some V → ∀ {k : Nat} {u : Value}, lkV V k = some u → ∃ v, t.get k = some v ∧ cv τ DEP v = some u
  | [], V, h, k, u, hu => by cases h; cases hu
  | j :: l, V, h, k, u, hu => by
    simp only [cvV] at h
    split at h
    · cases h
    · rename_i v hv
      split at h
      · rename_i u0 r h1 h2
        cases h
        simp only [lkV] at hu
        cases hb : Nat.beq j k with
        | true => rw [hb] at hu; cases hu; have := beq_iff.1 hb; subst this; exact ⟨v, hv, h1⟩
        | false => rw [hb] at hu; exact cvV_get h2 hu
      · cases h
theorem cvV_has [Den] {τ : Ren} {t : Tr Value} : ∀ {l : List Nat} {V : FV}, cvV τ t l = some V → ∀ {k : Nat}, k ∈ l → ∃ u, lkV V k = some u
  | [], V, h, k, hk => by cases hk
  | j :: l, V, h, k, hk => by
    simp only [cvV] at h
    split at h
    · cases h
    · rename_i v hv
      split at h
      · rename_i u0 r h1 h2
        cases h
        simp only [lkV]
        cases hb : Nat.beq j k with
        | true => exact ⟨_, rfl⟩
        | false =>
          rcases List.mem_cons.1 hk with rfl | hk
          · rw [Nat.beq_refl] at hb; cases hb
          · exact cvV_has h2 hk
      · cases h
theorem lkV_mem : ∀ {l : FV} {k : Nat} {v : Value}, lkV l k = some v → k ∈ l.map (·.1)
  | [], k, v, h => by cases h
  | (i, u) :: l, k, v, h => by
    simp only [lkV] at h
    cases hb : Nat.beq i k with
    | true => have := beq_iff.1 hb; subst this; simp
    | false => rw [hb] at h; exact List.mem_cons_of_mem _ (lkV_mem h)
structure Snap where
  k : List KI
  e : Exit
  n : Nat
  B : HL
  V : FV
noncomputable def snap [Den] (τ : Ren) (ros slots : List Nat) (x : Cfg) : Option Snap := match x.f with
  | ⟨t, n, none, []⟩ => (match cvH τ ros x.h τ, cvV τ t slots with
    | some B, some V => some ⟨x.k, x.e, n, B, V⟩
    | _, _ => none)
  | _ => none
noncomputable def headC (k : List KI) (e : Exit) (fv : FV) (n c : Nat) (A : HL) : Cfg := ⟨k, e, ⟨ofV fv, n, none, []⟩, c, ofL A⟩
theorem GoodA.rebase {d1 d2 : Den} {x : Cfg} {τ : Ren} {ros : List Nat} {k : List KI} {e : Exit} {fv : FV} {m c : Nat} {A : HL} {s : Snap} (h1 : @snap d1 τ ros (fv.map (·.1)) x = some s) (h2 : @snap d2 (idR A) [] (fv.map (·.1)) (headC k e fv m c A) = some s)
    (hb : (nodupB (A.map (·.1)) && injB τ && an.all (fun i => match lkR τ i with
      | some a => Nat.beq a i
      | none => false)) = true) (hg : @GoodA d2 P w0 F Fe n Q an E0 (headC k e fv m c A)) : @GoodA d1 P w0 F Fe n Q an E0 x := by
  simp only [Bool.and_eq_true, List.all_eq_true] at hb
  obtain ⟨⟨b1, b2⟩, b3⟩ := hb
  obtain ⟨xk, xe, ⟨xt, xn, xro, xds⟩, xc, xh⟩ := x
  intro E a w ha hf hr
  simp only [snap] at h1
  cases xro with
  | some l => cases h1
  | none =>
  cases xds with
  | cons y ys => cases h1
  | nil =>
  simp only at h1
  split at h1
  · rename_i B V hB hV
    cases h1
    simp only [snap, headC] at h2
    split at h2
    · rename_i B2 V2 hB2 hV2
      simp only [Option.some.injEq, Snap.mk.injEq] at h2
      obtain ⟨e1, e2, e3, e4, e5⟩ := h2
      subst e1 e2 e3 e4 e5
      have k1 := @HR.cv P w0 F E xh w d1 hr τ ros B2 b2 hB
      have k2 := @HR.vc P w0 F (envOf τ E) w d2 A B2 k1 b1 hB2
      have hsz : a.tmps.size = m := @TR.size d1 E ⟨xt, m, none, []⟩ a.tmps (@FR.tr d1 E Fe.round ⟨xt, m, none, []⟩ a hf)
      refine hg _ a w (fun i hi x hx => ?_) (@FR.mk d2 _ _ _ _ ?_ ?_ (@TR.mk d2 _ _ _ hsz fun j v hj => ?_)) k2
      · have := b3 i hi
        cases hl : lkR τ i with
        | none => rw [hl] at this; cases this
        | some a0 =>
          rw [hl] at this
          have h5 := beq_iff.1 this
          subst h5
          obtain ⟨o', ho'⟩ := @cvH_has d1 _ _ _ _ _ hB _ _ hl
          obtain ⟨a1, o1, g1, g2, _⟩ := @cvH_get d2 _ _ _ _ _ hB2 _ _ ho'
          have := lkR_id g1; subst this
          rw [get_ofL] at g2
          unfold envTo envOf
          rw [lk_id_of_get g2]
          simp only [Option.bind_some, hl]
          exact ha _ hi x hx
      · have h3 := @FR.defers d1 _ _ _ _ hf
        have hnil : ∀ {D : List Deferred}, DsR E [] D → D = [] := fun h => by cases h; rfl
        rw [hnil h3]
        exact .nil
      · have h3 := @FR.ro d1 _ _ _ _ hf
        have hnon : ∀ {R : Option Nat}, RoR E none R → R = none := fun h => by cases h; rfl
        rw [hnon h3]
        exact .none
      · simp only [headC] at hj
        rw [get_ofV] at hj
        obtain ⟨u, hu⟩ := @cvV_has d2 _ _ _ _ hV2 _ (lkV_mem hj)
        obtain ⟨v2, hv2, hc2⟩ := @cvV_get d2 _ _ _ _ hV2 _ _ hu
        rw [get_ofV, hj] at hv2; cases hv2
        obtain ⟨v1, hv1, hc1⟩ := @cvV_get d1 _ _ _ _ hV _ _ hu
        obtain ⟨q1, q2⟩ := @TR.val d1 _ _ _ (@FR.tr d1 _ _ _ _ hf) j v1 hv1
        exact ⟨q1, @VR.vc _ _ _ d2 same_to _ _ _ _ (@VR.cv _ _ _ d1 (same_of b2) _ _ _ _ q2 hc1) hc2⟩
    · cases h2
  · cases h1
end
end Go.Sx
namespace Go.Sx
def CtrPost (P : Program) (w : World) (F : Nat → Prop) (E : Env) (B : HL) (res : Value) : Ending → World → Prop := fun e w' =>
  ∃ v' E', e = .returned v' ∧ (∀ i x, E i = some x → (lkL B i).isSome = true → E' i = some x) ∧ HR0 P w F E' (ofL B) w' ∧ VR0 E' res v'
def GoodF (d : Den) (P : Program) (g : FuncId) (A : HL) (res : Value) (B : HL) (an : List Nat) (x : Cfg) : Prop :=
  ∀ fn, P.funcs[g]? = some fn → ∀ (w : World) (F : Nat → Prop) (E0 : Env) (Fe : Fence) (n : Nat), Wd Fe → (∀ i y, E0 i = some y → (lkL A i).isSome = true) →
    @GoodA d P w F Fe.plain n (bodyPostM Fe.plain n P fn (CtrPost P w F E0 B res)) an E0 x
noncomputable def codeOf (P : Program) (g : FuncId) : Code := match nthL P.funcs.toList g with
  | some fn => (match fn.body with
    | some c => c
    | none => .skip)
  | none => .skip
noncomputable def callB (P : Program) (g : FuncId) : Bool := match nthL P.funcs.toList g with
  | some fn => fn.body.isSome && !(fn.name == "runtime.NumGoroutine")
  | none => false
noncomputable def startC (P : Program) (g : FuncId) (args0 : List Value) (c0 : Nat) (A0 : HL) : Cfg :=
  ⟨[.code (codeOf P g)], .normal, Fr.init args0 (args0.length + ((match nthL P.funcs.toList g with
    | some fn => fn.ntmps
    | none => 0) - args0.length)), c0, ofL A0⟩
theorem callable_of {P : Program} {g : FuncId} (h : callB P g = true) : ∃ fn code, P.funcs[g]? = some fn ∧ (fn.name == "runtime.NumGoroutine") = false ∧ fn.body = some code ∧ nthL P.funcs.toList g = some fn ∧ codeOf P g = code := by
  unfold callB at h
  cases hf : nthL P.funcs.toList g with
  | none => rw [hf] at h; cases h
  | some fn =>
    rw [hf] at h
    simp only [Bool.and_eq_true, Bool.not_eq_true'] at h
    cases hb : fn.body with
    | none => rw [hb] at h; cases h.1
    | some code => exact ⟨fn, code, by rw [nthL_eq, Array.getElem?_toList] at hf; exact hf, h.2, hb, rfl, by unfold codeOf; rw [hf]; simp only [hb]⟩
theorem Ctr.of_good {d : Den} {P : Program} {g : FuncId} {c0 : Nat} {A0 : HL} {args0 : List Value} {args : List Value} {A : HL} {res : Value} {B : HL} (an : List Nat) (hc : callB P g = true) (h1 : (nodupB (A0.map (·.1)) && an.all (fun i => (lkL A0 i).isSome)) = true) (hin : @inOf d A0 args0 = some (args, A))
    (hg : GoodF d P g A res B an (startC P g args0 c0 A0)) : Ctr P g args A res B := by
  obtain ⟨fn, code, hfn, hname, hb, hnth, hcode⟩ := callable_of hc
  simp only [Bool.and_eq_true, List.all_eq_true] at h1
  obtain ⟨h1, h2⟩ := h1
  refine ⟨⟨fn, code, hfn, hname, hb⟩, fun w F E args' hh hl Fe n hW => ?_⟩
  unfold inOf at hin
  split at hin
  · rename_i as A' has hA
    cases hin
    have hH := @HR.vc P w F E w d A0 A hh h1 hA
    have hL := @LR.vc _ _ (idR A0) d same_to _ _ _ _ hl has
    have g0 := hg fn hfn w F E Fe n hW (fun i y hi => by
      have := @HR.dom den0 _ _ _ _ _ _ hh i y hi
      rw [get_ofL] at this
      cases hx : lkL A i with
      | none => exact absurd hx this
      | some o => rfl)
    have hf0 := @init_frame d _ _ _ hL fn.ntmps
    have key := g0 (envTo (idR A0) E) { tmps := args'.toArray ++ Array.replicate (fn.ntmps - args'.toArray.size) undef, defers := [] } w (fun i hi x hx => by
      have := h2 i hi
      cases ho : lkL A0 i with
      | none => rw [ho] at this; cases this
      | some o => unfold envTo; rw [lk_id_of_get ho]; exact hx) (by
        unfold startC
        simp only [hnth]
        exact hf0) hH
    have key2 : code.wpIn Fe.plain n P (bodyPostM Fe.plain n P fn (CtrPost P w F E B res)) { tmps := args'.toArray ++ Array.replicate (fn.ntmps - args'.toArray.size) undef, defers := [] } w := by
      have : (startC P g args0 c0 A0).k = [.code code] := by unfold startC; rw [hcode]
      rw [this] at key
      exact key
    exact callsIn_of_wp_marks (F := Fe.plain) hfn hb (hW.1 g) key2
  · cases hin
theorem GoodF.seg {d1 d2 : Den} {P : Program} (hm : P.follows .mixedOrders = true) (asm : Asm) (ents : List (FuncId × List Entry)) (hok : @AllOk d1 P asm.l) (hlds : @LdsOk d1 P asm.lds) (happs : @AppsOk d1 P asm.apps) (hent : @EntsOK d1 P ents) {N m : Nat} {g : FuncId} {A B : HL} {res : Value} {an : List Nat} {x : Cfg}
    {τ : Ren} {ros : List Nat} {k : List KI} {e : Exit} {fv : FV} {n c : Nat} {A2 : HL}
    (h1 : (ksteps (@rec asm P (tblE noTbl ents) N) m x).bind (@snap d1 τ ros (fv.map (·.1))) = @snap d2 (idR A2) [] (fv.map (·.1)) (headC k e fv n c A2)) (h2 : (@snap d2 (idR A2) [] (fv.map (·.1)) (headC k e fv n c A2)).isSome = true)
    (hb : (nodupB (A2.map (·.1)) && injB τ && an.all (fun i => match lkR τ i with
      | some a => Nat.beq a i
      | none => false)) = true) (hg : GoodF d2 P g A res B an (headC k e fv n c A2)) : GoodF d1 P g A res B an x := by
  intro fn hfn w F E0 Fe nn hW hE
  cases hs : @snap d2 (idR A2) [] (fv.map (·.1)) (headC k e fv n c A2) with
  | none => rw [hs] at h2; cases h2
  | some s =>
    rw [hs] at h1
    cases hk : ksteps (@rec asm P (tblE noTbl ents) N) m x with
    | none => rw [hk] at h1; cases h1
    | some y =>
      rw [hk] at h1
      have snd := @rec_sound P w F d1 asm (@asmOK_of d1 P asm.l asm.lds asm.apps hok hlds happs) hm _ (@tblE_snd P w F d1 _ (@noTbl_sound d1 P w F) _ (@EntsOK.all d1 P _ hent)) N
      exact @ksteps_soundA P w F Fe.plain nn _ an E0 d1 _ snd.1 hW _ _ _ hk (@GoodA.rebase P w F Fe.plain nn _ an E0 d1 d2 _ _ _ _ _ _ _ _ _ _ h1 hs hb (hg fn hfn w F E0 Fe nn hW hE))
noncomputable def endOf (d : Den) (P : Program) (g : FuncId) (τ : Ren) (ros : List Nat) (x : Cfg) : Option (Value × HL) := match x.k, nthL P.funcs.toList g with
  | [], some fn => (match x.e with
    | .ret => @outOf d τ ros (M.bind (takeL x.f.ds) (fun _ => resultsA P fn x.f) x.c x.h)
    | .normal => @outOf d τ ros (M.bind (takeL x.f.ds) (fun _ => resultsA P fn x.f) x.c x.h)
    | _ => none)
  | _, _ => none
theorem GoodF.fin {d : Den} {P : Program} (hm : P.follows .mixedOrders = true) (asm : Asm) (ents : List (FuncId × List Entry)) (hok : @AllOk d P asm.l) (hlds : @LdsOk d P asm.lds) (happs : @AppsOk d P asm.apps) (hent : @EntsOK d P ents) {N m : Nat} {g : FuncId} {A B : HL} {res : Value} {an : List Nat} {x : Cfg}
    {τ : Ren} {ros : List Nat} (h1 : (ksteps (@rec asm P (tblE noTbl ents) N) m x).bind (endOf d P g τ ros) = some (res, B))
    (hb : (injB τ && B.all (fun p => !(lkL A p.1).isSome || (an.any (Nat.beq p.1) && match lkR τ p.1 with
      | some a => Nat.beq a p.1
      | none => false))) = true) : GoodF d P g A res B an x := by
  intro fn hfn w F E0 Fe nn hW hE
  simp only [Bool.and_eq_true, List.all_eq_true] at hb
  obtain ⟨b1, b2⟩ := hb
  cases hk : ksteps (@rec asm P (tblE noTbl ents) N) m x with
  | none => rw [hk] at h1; cases h1
  | some y =>
    rw [hk] at h1
    have snd := @rec_sound P w F d asm (@asmOK_of d P asm.l asm.lds asm.apps hok hlds happs) hm _ (@tblE_snd P w F d _ (@noTbl_sound d P w F) _ hent.all) N
    refine @ksteps_soundA P w F Fe.plain nn _ an E0 d _ snd.1 hW _ _ _ hk ?_
    obtain ⟨yk, ye, yf, yc, yh⟩ := y
    have hnth : nthL P.funcs.toList g = some fn := by rw [nthL_eq, Array.getElem?_toList]; exact hfn
    have core : ∀ {R0 : R Value}, @outOf d τ ros R0 = some (res, B) → R0 = M.bind (takeL yf.ds) (fun _ => resultsA P fn yf) yc yh → ∀ (E : Env) (a : Act) (w1 : World), Anch an E0 E → @FR d E Fe.plain.round yf a → @HR d P w F E yh w1 →
        LeavesInM Fe.plain nn P fn a.tmps (CtrPost P w F E0 B res) a.defers .returning w1 := by
      intro R0 ho hR E a w1 ha hf hr
      cases R0 with
      | bad q => cases ho
      | ok v c' H' L =>
        simp only [outOf] at ho
        split at ho
        · rename_i r B' hv hB
          cases ho
          replace hR := bind_ok.1 hR.symm
          obtain ⟨u, c3, h3, _, _, htk, hres, _⟩ := hR
          refine @leaves_sound P w F d Fe.plain nn fn a.tmps _ E h3 c3 _ _ _ _ _ _ _ htk hr (@FR.defers d _ _ _ _ hf) fun w2 hr2 => ?_
          obtain ⟨_, q2, v', q3, q4⟩ := @results_sound P w F E h3 w2 Fe.plain.round d fn yf a hf hr2 v _ _ _ _ hres
          subst q2
          refine ⟨v', q3, v', envOf τ E, rfl, fun i x hi hbi => ?_, @HR.cv P w F E _ w2 d hr2 τ ros B b1 hB, @VR.cv _ _ _ d (same_of b1) _ _ _ _ q4 hv⟩
          cases ho : lkL B i with
          | none => rw [ho] at hbi; cases hbi
          | some o =>
            have := b2 _ (lkL_mem ho)
            simp only [hE i x hi, Bool.not_true, Bool.false_or, Bool.and_eq_true, List.any_eq_true] at this
            obtain ⟨⟨j, hj1, hj2⟩, h5⟩ := this
            have := beq_iff.1 hj2; subst this
            cases hl : lkR τ i with
            | none => rw [hl] at h5; cases h5
            | some a0 =>
              rw [hl] at h5
              have := beq_iff.1 h5; subst this
              unfold envOf
              rw [hl]
              exact ha _ hj1 x hi
        · cases ho
    intro E a w1 ha hf hr
    simp only [endOf, Option.bind_some, hnth] at h1
    simp only at hf hr ⊢
    cases yk with
    | cons i k => cases h1
    | nil =>
      cases ye with
      | ret => exact core h1 rfl E a w1 ha hf hr
      | normal => exact core h1 rfl E a w1 ha hf hr
      | exit id => cases h1
      | goto l => cases h1
      | panic ch => cases h1
      | outgrown => cases h1
end Go.Sx
namespace Go.Sx
def eqFs (P : Program) (eq : TypeId → Value → Value → Option Bool) (xs ys : Array Value) : List Field → Option Bool
  | [] => some true
  | f :: fs => bif f.name == "_" then eqFs P eq xs ys fs else match partA P f.type xs f.offset, partA P f.type ys f.offset with
    | some a, some b => (match eq f.type a b, eqFs P eq xs ys fs with
      | some r, some q => some (r && q)
      | _, _ => none)
    | _, _ => none
def eqIx (P : Program) (eq : Value → Value → Option Bool) (e : TypeId) (n : Nat) (xs ys : Array Value) : List Nat → Option Bool
  | [] => some true
  | i :: is => match partA P e xs (i * n), partA P e ys (i * n) with
    | some a, some b => (match eq a b, eqIx P eq e n xs ys is with
      | some r, some q => some (r && q)
      | _, _ => none)
    | _, _ => none
def eqT (P : Program) : Nat → TypeId → Value → Value → Option Bool
  | 0, _, _, _ => none
  | d + 1, t, x, y => match P.underlying t, x, y with
    | some .bool, .bool a, .bool b => some (a == b)
    | some (.int _), .int k a, .int k' b => bif decide (k = k') then some (a == b) else none
    | some (.struct fs), .agg xs, .agg ys => bif P.stoodInHeld t then none else eqFs P (eqT P d) xs ys fs.toList
    | some (.array n e), .agg xs, .agg ys => (match sizeB P e with
      | some s => eqIx P (eqT P d e) e s xs ys (List.range' 0 n)
      | none => none)
    | _, _, _ => none
section
variable {P : Program}
theorem run_part {t : TypeId} {cs : Array Value} {off : Nat} {v : Value} (h : partA P t cs off = some v) (w : World) : (part t cs off).run P w = .ok v w := by
  unfold partA at h
  split at h
  · rename_i n ha hn
    cases h
    simp only [part, Sem.run_bind, run_agg ha, Result.andThen_ok, if_true, run_size hn, Sem.run_pure]
  · rename_i n ha hn
    simp only [part, Sem.run_bind, run_agg ha, Result.andThen_ok, Bool.false_eq_true, if_false, h, Sem.run_pure]
  · cases h
theorem eqT_run : ∀ (d : Nat) {t : TypeId} {x y : Value} {b : Bool}, eqT P d t x y = some b → ∀ (k : Nat) (w : World), (Op.equalIn (d + k) t x y).run P w = .ok b w
  | 0, t, x, y, b, h, k, w => by cases h
  | d + 1, t, x, y, b, h, k, w => by
    rw [show d + 1 + k = (d + k) + 1 from by omega]
    unfold eqT at h
    split at h
    · rename_i hu; cases h
      unfold Op.equalIn
      simp only [Sem.run_bind, run_underlying hu, Result.andThen_ok, Sem.run_pure]
    · rename_i hu
      rename_i k1 a1 k2 b1
      cases hk : decide (k1 = k2) with
      | false => rw [hk] at h; cases h
      | true =>
        rw [hk] at h
        cases h
        unfold Op.equalIn
        simp only [Sem.run_bind, run_underlying hu, Result.andThen_ok, if_pos (of_decide_eq_true hk), Sem.run_pure]
    · rename_i fs xs ys hu
      cases hp : P.stoodInHeld t with
      | true => rw [hp] at h; cases h
      | false =>
        rw [hp] at h
        simp only [cond_false] at h
        have hf : P.fieldsOf t = fs := by unfold Program.fieldsOf; rw [hu]
        rw [run_equalIn_struct w (d + k) t xs ys (by rw [hf]; exact hu) hp, hf]
        generalize fs.toList = l at h
        clear hu hf
        induction l generalizing b with
        | nil => cases h; simp [Op.eqFields]
        | cons f l ih =>
          simp only [eqFs] at h
          simp only [Op.eqFields]
          cases hn : (f.name == "_") with
          | true =>
            rw [hn] at h
            have : f.name = "_" := by simpa using hn
            rw [if_neg (by simp [this])]
            exact ih _ h
          | false =>
            rw [hn] at h
            have hne : f.name ≠ "_" := by intro e; rw [e] at hn; simp at hn
            rw [if_pos hne]
            simp only [cond_false] at h
            split at h
            · rename_i a1 b1 ha hb
              split at h
              · rename_i r q hr hq
                cases h
                simp only [Sem.run_bind, run_part ha, run_part hb, Result.andThen_ok, eqT_run d hr k]
                cases r
                · simp
                · simp only [Bool.not_true, Bool.false_eq_true, if_false, Bool.true_and]; exact ih _ hq
              · cases h
            · cases h
    · rename_i n e xs ys hu
      split at h
      · rename_i s hs
        unfold Op.equalIn
        simp only [Sem.run_bind, run_underlying hu, Result.andThen_ok, run_size hs]
        rw [Std.Legacy.Range.forIn_eq_forIn_range']
        simp only [Std.Legacy.Range.size]
        have hsz : (n - 0 + 1 - 1) / 1 = n := by simp
        rw [hsz]
        generalize List.range' 0 n = l at h
        clear hu hsz
        induction l generalizing b with
        | nil => cases h; simp
        | cons i l ih =>
          simp only [eqIx] at h
          split at h
          · rename_i a1 b1 ha hb
            split at h
            · rename_i r q hr hq
              cases h
              simp only [List.forIn_cons, Sem.run_bind, run_part ha, run_part hb, Result.andThen_ok, eqT_run d hr k]
              cases r
              · simp
              · simp only [Bool.not_true, Bool.false_eq_true, if_false, Sem.run_pure, Result.andThen_ok, Bool.true_and]
                exact ih _ hq
            · cases h
          · cases h
      · cases h
    · cases h
def EQE [Den] (P : Program) (t : TypeId) (a b : Value) : Option Bool := match cv [] DEP a, cv [] DEP b with
  | some (.agg u), some (.agg v) => bif plainB (.agg u) && plainB (.agg v) && !(P.eqGuardType P.depth t) then eqT P 10 t (.agg u) (.agg v) else none
  | _, _ => none
theorem EQE_run {d : Den} {t : TypeId} {a b a' b' : Value} {E : Env} {c : Bool} (h : @EQE d P t a b = some c) (ha : @VR d E a a') (hb : @VR d E b b') : ∃ u v, a' = .agg u ∧ b' = .agg v ∧ P.eqGuardType P.depth t = false ∧ ∀ w, (Op.equal t a' b').run P w = .ok c w := by
  unfold EQE at h
  split at h
  · rename_i u v hu hv
    cases hp : (plainB (.agg u) && plainB (.agg v) && !(P.eqGuardType P.depth t)) with
    | false => rw [hp] at h; cases h
    | true =>
      rw [hp] at h
      simp only [cond_true] at h
      simp only [Bool.and_eq_true, Bool.not_eq_true'] at hp
      obtain ⟨⟨p1, p2⟩, p3⟩ := hp
      have ea := @VR.plain den0 E _ _ (ha.cv (E' := E) same_nil _ hu) p1
      have eb := @VR.plain den0 E _ _ (hb.cv (E' := E) same_nil _ hv) p2
      subst ea eb
      exact ⟨u, v, rfl, rfl, p3, fun w => eqT_run 10 h 9990 w⟩
  · cases h
theorem asEqA {d : Den} {t : TypeId} {a b : Value} {c r : Bool} (h : @EQE d P t a b = some c) (hc : c = r) : @AK.Ok d P (.bin .eql t a b) (.bool r) := by
  subst hc
  intro E a' b' ha hb x y w
  obtain ⟨u, v, rfl, rfl, hg, hr⟩ := EQE_run h ha hb
  refine ⟨_, .bool _, ?_⟩
  rw [Sem.run_bind, guard_run (by simp) (.inr hg) w, Result.andThen_ok]
  show (do let r ← Op.equal t (.agg u) (.agg v); pure (Value.bool r) : Sem Value).run P w = _
  rw [Sem.run_bind, hr]; rfl
theorem asNeA {d : Den} {t : TypeId} {a b : Value} {c r : Bool} (h : @EQE d P t a b = some c) (hc : (!c) = r) : @AK.Ok d P (.bin .neq t a b) (.bool r) := by
  subst hc
  intro E a' b' ha hb x y w
  obtain ⟨u, v, rfl, rfl, hg, hr⟩ := EQE_run h ha hb
  refine ⟨_, .bool _, ?_⟩
  rw [Sem.run_bind, guard_run (by simp) (.inr hg) w, Result.andThen_ok]
  show (do let r ← Op.equal t (.agg u) (.agg v); pure (Value.bool (!r)) : Sem Value).run P w = _
  rw [Sem.run_bind, hr]; rfl
end
end Go.Sx
namespace Go.Sx
section
variable {P : Program} {st xt e : TypeId} {size bytes : Nat} {z : Value}
theorem AppC.nil (ht : ElemT P st xt e size bytes z) {l : List Value} {m off cp : Nat} {T : TypeId} (hm : 1 ≤ m) (hl : off + m * size ≤ l.length) (hp : l.all plainS = true) (h1 : m * bytes ≤ 70368744177664) (h2 : m < HALF) :
    AppC P [st, xt] [.slice none 0 0, .slice (some ⟨1, off, none⟩) m cp] [(1, .row T (.lst l) true)] (.slice (some ⟨2, 0, none⟩) m INF) [(2, .row e (.lst ((l.drop off).take (m * size))) false)] := by
  refine AppC.of_run (app_nil (H := ofL [(1, .row T (.lst l) true)]) (c := 2) ht (by rw [get_ofL]; rfl) (by rw [get_ofL]; rfl) hm hl hp h1 h2) (fun b o hb => ?_) rfl
  simp only [lkL] at hb
  cases h : Nat.beq 2 b with
  | false => rw [h] at hb; cases hb
  | true =>
    rw [h] at hb
    cases hb
    have := beq_iff.1 h; subst this
    refine ⟨_, Tr.get_set_self _ _ _, .inr ⟨_, _, _, _, _, rfl, rfl, fun h => h, fun k v hk => by rw [mk_get]; exact hk, ?_⟩⟩
    rw [List.all_eq_true] at hp ⊢
    exact fun x hx => hp x (List.mem_of_mem_drop (List.mem_of_mem_take hx))
theorem AppC.inf (ht : ElemT P st xt e size bytes z) {bl l : List Value} {n m off cp : Nat} {T : TypeId} (hbl : bl.length = n * size) (hpb : bl.all plainS = true) (hm : 1 ≤ m) (hl : off + m * size ≤ l.length) (hp : l.all plainS = true) (h1 : (n + m) * bytes ≤ 70368744177664) (h2 : n + m < HALF) :
    AppC P [st, xt] [.slice (some ⟨0, 0, none⟩) n INF, .slice (some ⟨1, off, none⟩) m cp] [(0, .row e (.lst bl) false), (1, .row T (.lst l) true)] (.slice (some ⟨2, 0, none⟩) (n + m) INF) [(0, .dead), (2, .row e (.lst (bl ++ (l.drop off).take (m * size))) false)] := by
  refine AppC.of_run (app_inf (H := ofL [(0, .row e (.lst bl) false), (1, .row T (.lst l) true)]) (c := 2) ht (i := 1) (b := 0) (by rw [get_ofL]; rfl) (by rw [get_ofL]; rfl) (by rw [get_ofL]; rfl) hm hl hp hbl h1 h2) (fun b o hb => ?_) rfl
  simp only [lkL] at hb
  cases h0 : Nat.beq 0 b with
  | true =>
    rw [h0] at hb
    cases hb
    have := beq_iff.1 h0; subst this
    exact ⟨.dead, by rw [Tr.get_set_ne _ _ (by omega), Tr.get_set_self], .inl rfl⟩
  | false =>
    rw [h0] at hb
    simp only [cond_false] at hb
    cases h : Nat.beq 2 b with
    | false => rw [h] at hb; cases hb
    | true =>
      rw [h] at hb
      cases hb
      have := beq_iff.1 h; subst this
      refine ⟨_, Tr.get_set_self _ _ _, .inr ⟨_, _, _, _, _, rfl, rfl, fun h => h, fun k v hk => by rw [mk_get]; exact hk, ?_⟩⟩
      rw [List.all_append, hpb, Bool.true_and]
      rw [List.all_eq_true] at hp ⊢
      exact fun x hx => hp x (List.mem_of_mem_drop (List.mem_of_mem_take hx))
theorem AppC.cap (ht : ElemT P st xt e size bytes z) {bl l : List Value} {n m off cp : Nat} {T Tb : TypeId} (hbl : bl.length = n * size) (hpb : bl.all plainS = true) (hm : 1 ≤ m) (hl : off + m * size ≤ l.length) (hp : l.all plainS = true) (h1 : (n + m) * bytes ≤ 70368744177664) (h2 : n + m < HALF) :
    AppC P [st, xt] [.slice (some ⟨0, 0, none⟩) n n, .slice (some ⟨1, off, none⟩) m cp] [(0, .row Tb (.lst bl) true), (1, .row T (.lst l) true)] (.slice (some ⟨2, 0, none⟩) (n + m) INF) [(2, .row e (.lst (bl ++ (l.drop off).take (m * size))) false)] := by
  refine AppC.of_run (app_cap (H := ofL [(0, .row Tb (.lst bl) true), (1, .row T (.lst l) true)]) (c := 2) ht (i := 1) (b := 0) (by rw [get_ofL]; rfl) (by rw [get_ofL]; rfl) (by rw [get_ofL]; rfl) hm hl hp hpb hbl h1 h2) (fun b o hb => ?_) rfl
  simp only [lkL] at hb
  cases h : Nat.beq 2 b with
  | false => rw [h] at hb; cases hb
  | true =>
    rw [h] at hb
    cases hb
    have := beq_iff.1 h; subst this
    refine ⟨_, Tr.get_set_self _ _ _, .inr ⟨_, _, _, _, _, rfl, rfl, fun h => h, fun k v hk => by rw [mk_get]; exact hk, ?_⟩⟩
    rw [List.all_append, hpb, Bool.true_and]
    rw [List.all_eq_true] at hp ⊢
    exact fun x hx => hp x (List.mem_of_mem_drop (List.mem_of_mem_take hx))
theorem AppOk.mk {d : Den} {s1 s2 : TypeId} {e : Entry} {args : List Value} {A : HL} {res : Value} {B : HL} (h : AppC P [s1, s2] args A res B) (h1 : entB e = true) (h2 : @entOf d e = some (args, A, res, B)) (h3 : Nat.blt s2 1000000 = true) : @AppOk d P [s1, s2] e :=
  ⟨fun _ => @frameB P d [s1, s2] e args A res B h1 h2 h, fun t ht => by cases ht; exact absurd (blt_iff.1 h3) (by omega), fun t ht => by cases ht; exact absurd (blt_iff.1 h3) (by omega)⟩
theorem LdOk.mk {d : Den} {t : TypeId} {e : Entry} {a res : Value} {A : HL} (h : LdC P t a A res) (h1 : entB e = true) (h2 : @entOf d e = some ([a], A, res, A)) : @AppOk d P [t, 1000000] e :=
  ⟨fun hh => by simp at hh, fun t' ht => by cases ht; exact @frameL P d t e a res A h1 h2 h, (fun t' ht => by cases ht)⟩
theorem StOk.mk {d : Den} {t : TypeId} {e : Entry} {a v : Value} {A B : HL} (h : StC P t a v A B) (h1 : entB e = true) (h2 : @entOf d e = some ([a, v], A, .bool false, B)) : @AppOk d P [t, 1000001] e :=
  ⟨fun hh => by simp at hh, (fun t' ht => by cases ht), fun t' ht => by cases ht; exact @frameS P d t e a v A B h1 h2 h⟩
theorem LdC.cell {t T : TypeId} {l : List Value} {k : Nat} {v : Value} {ro : Bool} (rest : HL) (ha : aggB P t = some false) (hk : l[k]? = some v) : LdC P t (.pointer (some ⟨0, k, none⟩)) ((0, .row T (.lst l) ro) :: rest) v := by
  intro w F E a' hr hv
  have hrun : Run (loadA P t (.pointer (some ⟨0, k, none⟩))) 0 (ofL ((0, .row T (.lst l) ro) :: rest)) v 0 (ofL ((0, .row T (.lst l) ro) :: rest)) := by
    unfold loadA
    refine Run.bind (Run.opt ha) ?_
    simp only [cond_false]
    refine ⟨.one (.cell 0 k false), ?_⟩
    unfold rd
    rw [get_ofL]
    simp only [lkL, Nat.beq_refl, cond_true, get_lst, hk]
  obtain ⟨L, hrun⟩ := hrun
  obtain ⟨_, _, v', k1, k2⟩ := @load_sound P w F E _ w den0 t _ a' v _ _ _ _ hrun hr hv
  exact ⟨v', k1, k2⟩
theorem StC.cell {t T : TypeId} {l : List Value} {k : Nat} {v : Value} (rest : HL) (ha : sizeB P t = some 1) (hk : k < l.length) (hv1 : v.cells = #[v]) (ho : oneB v = true) : StC P t (.pointer (some ⟨0, k, none⟩)) v ((0, .row T (.lst l) false) :: rest) ((0, .row T (.lst (l.set k v)) false) :: rest) := by
  intro w F E a' v' hr hpa hv
  have hrun : Run (storeA P t (.pointer (some ⟨0, k, none⟩)) v) 0 (ofL ((0, .row T (.lst l) false) :: rest)) () 0 ((ofL ((0, .row T (.lst l) false) :: rest)).set 0 (.row T (.lst (l.set k v)) false)) := by
    unfold storeA
    refine Run.bind (Run.opt ha) (Run.bind (Run.guard (by rw [hv1]; rfl)) ?_)
    rw [wrB_eq, hv1]
    refine Run.bind (a := ()) ?_ Run.pure
    refine ⟨.app (.one (.info 0)) (.one (.cell 0 k true)), ?_⟩
    unfold wr
    rw [get_ofL]
    simp only [lkL, Nat.beq_refl, cond_true, get_lst, List.getElem?_eq_getElem hk, ho, Cells.set, setL_std]
  obtain ⟨L, hrun⟩ := hrun
  obtain ⟨_, w', k1, k2⟩ := @store_sound P w F E _ w den0 t _ a' v v' _ _ _ _ hrun hr hpa hv
  refine ⟨w', k1, ?_⟩
  have e1 : (ofL ((0, .row T (.lst l) false) :: rest)).set 0 (.row T (.lst (l.set k v)) false) = ofL ((0, .row T (.lst (l.set k v)) false) :: rest) := by
    simp only [ofL, Tr.set_set]
  rw [e1] at k2
  exact k2
end
end Go.Sx
namespace Go.Sx
theorem Ctr.addDead {P : Program} {g : FuncId} {args : List Value} {A : HL} {res : Value} {B : HL} (h : Ctr P g args A res B) (b : Nat) (hb : lkL B b = none) : Ctr P g args A res (B ++ [(b, .dead)]) := by
  refine ⟨h.1, fun w F E args' hr hl Fe n hW => (h.2 w F E args' hr hl Fe n hW).mono fun e w' ⟨v', E', k1, k2, k3, k4⟩ => ?_⟩
  have hdom := @HR.dom den0 _ _ _ _ _ _ k3
  have hobj := @HR.obj den0 _ _ _ _ _ _ k3
  have hinj := @HR.inj den0 _ _ _ _ _ _ k3
  have hown := @HR.own den0 _ _ _ _ _ _ k3
  have hEb : E' b = none := by
    cases hx : E' b with
    | none => rfl
    | some x => have := hdom b x hx; rw [get_ofL, hb] at this; exact absurd rfl this
  obtain ⟨E2, hE2⟩ : ∃ E2 : Env, E2 = fun i => if i = b then E b else E' i := ⟨_, rfl⟩
  have hle : E'.le E2 := fun i x hx => by
    rw [hE2]
    have : i ≠ b := fun e => by rw [e, hEb] at hx; cases hx
    simp only [this, if_false]; exact hx
  have hne : ∀ {i : Nat} {o : AObj}, lkL B i = some o → i ≠ b := fun h e => by rw [e, hb] at h; cases h
  have hget : ∀ i, (ofL (B ++ [(b, .dead)])).get i = (match lkL B i with
      | some o => some o
      | none => lkL [(b, .dead)] i) := fun i => by rw [get_ofL, lkL_app]; cases lkL B i <;> rfl
  have old : ∀ {i : Nat} {o : AObj}, (ofL (B ++ [(b, .dead)])).get i = some o → live o = true → (ofL B).get i = some o ∧ E2 i = E' i := by
    intro i o ho hlo
    rw [hget] at ho
    cases hx : lkL B i with
    | some p =>
      rw [hx] at ho
      cases ho
      refine ⟨by rw [get_ofL]; exact hx, ?_⟩
      rw [hE2]; simp only [hne hx, if_false]
    | none =>
      rw [hx] at ho
      simp only [lkL] at ho
      cases hb2 : Nat.beq b i with
      | false => rw [hb2] at ho; cases ho
      | true => rw [hb2] at ho; cases ho; cases hlo
  refine ⟨v', E2, k1, fun i x hi hbi => ?_, @HR.mk den0 _ _ _ _ _ _ (@HR.keeps den0 _ _ _ _ _ _ k3) (fun i x hx => ?_) (fun i o ho => ?_) (fun i j o p x y hne2 ho hp hlo hlp hw hx hy => ?_) (fun i o x ho hw hx => ?_), @VR.mono den0 _ _ hle _ _ k4⟩
  · rw [hE2]
    by_cases hib : i = b
    · simp only [hib, if_true]; rw [← hib]; exact hi
    · simp only [hib, if_false]
      refine k2 i x hi ?_
      rw [lkL_app] at hbi
      cases hx : lkL B i with
      | some o => rfl
      | none =>
        rw [hx] at hbi
        simp only [lkL] at hbi
        cases hb2 : Nat.beq b i with
        | true => exact absurd (beq_iff.1 hb2).symm hib
        | false => rw [hb2] at hbi; cases hbi
  · rw [hget]
    by_cases hib : i = b
    · subst hib; rw [hb]; simp [lkL]
    · rw [hE2] at hx
      simp only [hib, if_false] at hx
      have := hdom i x hx
      rw [get_ofL] at this
      cases h5 : lkL B i with
      | none => exact absurd h5 this
      | some o => simp
  · cases hlo : live o with
    | false => cases o <;> first | trivial | cases hlo
    | true =>
      obtain ⟨h1, _⟩ := old ho hlo
      exact @ObjR.mono P w' den0 _ _ hle i o (hobj i o h1)
  · obtain ⟨h1, h2⟩ := old ho hlo
    obtain ⟨h3, h4⟩ := old hp hlp
    exact hinj i j o p x y hne2 h1 h3 hlo hlp hw (h2 ▸ hx) (h4 ▸ hy)
  · have hlo : live o = true := by cases o <;> first | rfl | cases hw
    obtain ⟨h1, h2⟩ := old ho hlo
    exact hown i o x h1 hw (h2 ▸ hx)
theorem HR.congr [Den] {P : Program} {w0 : World} {F : Nat → Prop} {E : Env} {H H' : Heap} {w : World} (hr : HR P w0 F E H w) (h : ∀ i, H'.get i = H.get i) : HR P w0 F E H' w :=
  ⟨hr.keeps, fun i e he => by rw [h]; exact hr.dom i e he, fun i o ho => hr.obj i o (by rw [← h]; exact ho), fun i j o p e e' hne ho hp => hr.inj i j o p e e' hne (by rw [← h]; exact ho) (by rw [← h]; exact hp), fun i o e ho => hr.own i o e (by rw [← h]; exact ho)⟩
theorem Ctr.reB {P : Program} {g : FuncId} {args : List Value} {A : HL} {res : Value} {B B' : HL} (h : Ctr P g args A res B) (hB : ∀ i, lkL B' i = lkL B i) : Ctr P g args A res B' := by
  refine ⟨h.1, fun w F E args' hr hl Fe n hW => (h.2 w F E args' hr hl Fe n hW).mono fun e w' ⟨v', E', k1, k2, k3, k4⟩ => ⟨v', E', k1, fun i x hi hb => k2 i x hi (by rw [← hB]; exact hb), ?_, k4⟩⟩
  exact @HR.congr den0 _ _ _ _ _ _ _ k3 (fun i => by rw [get_ofL, get_ofL, hB])
end Go.Sx
namespace Go.Sx
structure GoodS (d : Den) (P : Program) (g : FuncId) (A : HL) (res : Value) (B : HL) (an : List Nat) (x : Cfg) : Prop where
  get : GoodF d P g A res B an x
theorem goodS_seg {d1 d2 : Den} {P : Program} (hm : P.follows .mixedOrders = true) (asm : Asm) (ents : List (FuncId × List Entry)) (hok : @AllOk d1 P asm.l) (hlds : @LdsOk d1 P asm.lds) (happs : @AppsOk d1 P asm.apps) (hent : @EntsOK d1 P ents) {N m : Nat} {g : FuncId} {A B : HL} {res : Value} {an : List Nat} {x : Cfg}
    {τ : Ren} {ros : List Nat} {k : List KI} {e : Exit} {fv : FV} {n c : Nat} {A2 : HL}
    (h1 : (ksteps (@rec asm P (tblE noTbl ents) N) m x).bind (@snap d1 τ ros (fv.map (·.1))) = @snap d2 (idR A2) [] (fv.map (·.1)) (headC k e fv n c A2)) (h2 : (@snap d2 (idR A2) [] (fv.map (·.1)) (headC k e fv n c A2)).isSome = true)
    (hb : (nodupB (A2.map (·.1)) && injB τ && an.all (fun i => match lkR τ i with
      | some a => Nat.beq a i
      | none => false)) = true) (hg : GoodS d2 P g A res B an (headC k e fv n c A2)) : GoodS d1 P g A res B an x := ⟨GoodF.seg hm asm ents hok hlds happs hent h1 h2 hb hg.get⟩
theorem goodS_fin {d : Den} {P : Program} (hm : P.follows .mixedOrders = true) (asm : Asm) (ents : List (FuncId × List Entry)) (hok : @AllOk d P asm.l) (hlds : @LdsOk d P asm.lds) (happs : @AppsOk d P asm.apps) (hent : @EntsOK d P ents) {N m : Nat} {g : FuncId} {A B : HL} {res : Value} {an : List Nat} {x : Cfg}
    {τ : Ren} {ros : List Nat} (h1 : (ksteps (@rec asm P (tblE noTbl ents) N) m x).bind (endOf d P g τ ros) = some (res, B))
    (hb : (injB τ && B.all (fun p => !(lkL A p.1).isSome || (an.any (Nat.beq p.1) && match lkR τ p.1 with
      | some a => Nat.beq a p.1
      | none => false))) = true) : GoodS d P g A res B an x := ⟨GoodF.fin hm asm ents hok hlds happs hent h1 hb⟩
theorem Ctr.of_goodS {d : Den} {P : Program} {g : FuncId} {c0 : Nat} {A0 : HL} {args0 : List Value} {args : List Value} {A : HL} {res : Value} {B : HL} (an : List Nat) (hc : callB P g = true) (h1 : (nodupB (A0.map (·.1)) && an.all (fun i => (lkL A0 i).isSome)) = true) (hin : @inOf d A0 args0 = some (args, A))
    (hg : GoodS d P g A res B an (startC P g args0 c0 A0)) : Ctr P g args A res B := Ctr.of_good an hc h1 hin hg.get
end Go.Sx

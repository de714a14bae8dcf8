import Derived.Test.YtpennfojidpmeaaQe
namespace Go.Sx
theorem Grow.refl {B : Nat} (A : World) : Grow B A A := ⟨rfl, rfl, rfl, Nat.le_refl _, fun _ _ => .inl rfl⟩
theorem Grow.trans {B : Nat} {A A' A'' : World} (h1 : Grow B A A') (h2 : Grow B A' A'') : Grow B A A'' := by
  refine ⟨h2.os.trans h1.os, h2.tape.trans h1.tape, h2.output.trans h1.output, Nat.le_trans h1.size h2.size, fun b hb => ?_⟩
  rcases h1.block b hb with e1 | e1
  · rcases h2.block b (Nat.lt_of_lt_of_le hb h1.size) with e2 | ⟨e2, o, e3, e4⟩
    · exact .inl (e2.trans e1)
    · exact .inr ⟨e2, o, e1.symm.trans e3, e4⟩
  · exact .inr e1
theorem leaves_marks {Fe : Fence} {n : Nat} {P : Program} {fn : Func} {tmps : Array Value} {Rr : Ending → World → Prop} {B : Nat} : ∀ (Ds : List Nat) (w : World), (∀ D ∈ Ds, B ≤ D ∧ w.heap[D]? = some (.deferred (some []))) → Ds.Nodup →
    (∀ w', Grow B w w' → ∃ v, (results fn tmps).run P w' = .ok v w' ∧ Rr (.returned v) w') → LeavesInM Fe n P fn tmps Rr (Ds.map mkD) .returning w
  | [], w, _, _, hk => hk w (Grow.refl w)
  | D :: Ds, w, h, hn, hk => by
    obtain ⟨h1, h2⟩ := h D List.mem_cons_self
    obtain ⟨n1, n2⟩ := List.nodup_cons.1 hn
    refine ⟨by simp, .inl ⟨D, _, rfl, run_takeDeferred h2, leaves_marks Ds _ (fun D' hD' => ?_) n2 fun w' hg => hk w' ((Grow.put (.deferred none) h1 h2 rfl).trans hg)⟩⟩
    obtain ⟨g1, g2⟩ := h D' (List.mem_cons_of_mem _ hD')
    exact ⟨g1, (World.putObj_heap_other (fun e => by subst e; exact n1 hD')).trans g2⟩
theorem HR.toBase [Den] {P : Program} {w00 w0 w : World} {F00 F0 : Nat → Prop} {E : Env} {H : Heap} {Ds : List Nat} (hr : HR P w0 F0 E H w) (hb : Base w00 F00 Ds w0 F0) : HR P w00 F00 E H w :=
  ⟨hb.keeps.trans hr.keeps hb.own, hr.dom, hr.obj, hr.inj, fun i o e h1 h2 h3 => (hr.own i o e h1 h2 h3).elim (fun h => .inl (Nat.le_trans hb.keeps.size h)) (hb.own _)⟩
noncomputable def resJ (d : Den) (P : Program) (g : FuncId) (x : Cfg) : Option Value := match nthL P.funcs.toList g with
  | some fn => (match resultsA P fn x.f x.c x.h with
    | .ok v _ _ _ => @cv d [] DEP v
    | .bad _ => none)
  | none => none
theorem GoodJ.fin {d : Den} {P : Program} {g : FuncId} {res : Value} {e : Exit} {fv : FV} {n c : Nat} {A : HL} (he : e = .ret ∨ e = .normal) (hn : A.all (fun p => noCtl p.2) = true) (hres : resJ d P g (headJ [] e fv n c A) = some res) (hbig : (lkL A bigD).isNone = true) : GoodJ d P g res (headJ [] e fv n c A) := by
  refine ⟨fun fn hfn w00 F00 E00 Fe nn hW Ds w0 F0 hb E a w _ hf hr => ?_⟩
  have hnth : nthL P.funcs.toList g = some fn := by rw [nthL_eq, Array.getElem?_toList]; exact hfn
  have hno : ∀ i o, (ofL A).get i = some o → noCtl o = true := fun i o h => by
    rw [get_ofL] at h
    exact List.all_eq_true.1 hn _ (lkL_mem h)
  have hr2 := @HR.toBase (d.wj (Ds.map mkD)) P w00 w0 w F00 F0 E (ofL A) Ds hr hb
  have hbE : E bigD = none := by
    cases hx : E bigD with
    | none => rfl
    | some x =>
      have := @HR.dom (d.wj (Ds.map mkD)) _ _ _ _ _ _ hr bigD x hx
      rw [show (headJ [] e fv n c A).h.get bigD = lkL A bigD from get_ofL A bigD] at this
      cases hy : lkL A bigD with
      | none => exact absurd hy this
      | some o => rw [hy] at hbig; cases hbig
  have hdef : a.defers = Ds.map mkD := @DsR.big E (d.wj (Ds.map mkD)) _ (@FR.defers (d.wj (Ds.map mkD)) _ _ _ _ hf) hbE
  have hk := @HR.keeps (d.wj (Ds.map mkD)) _ _ _ _ _ _ hr
  have key : LeavesInM Fe.plain nn P fn a.tmps (CtrPost P w00 F00 E00 [] res) a.defers .returning w := by
    rw [hdef]
    refine leaves_marks (B := w00.heap.size) Ds w (fun D hD => ?_) hb.nd fun w' hg => ?_
    · obtain ⟨j1, j2, j3, j4⟩ := hb.jk D hD
      exact ⟨j1, (hk.block D j2 j3).trans j4⟩
    · have hr3 := @HR.grow P w00 F00 E (ofL A) w w' (d.wj (Ds.map mkD)) w00.heap.size hr2 hno (Nat.le_refl _) hg
      unfold resJ at hres
      simp only [hnth] at hres
      split at hres
      · rename_i v c' H' L hR
        obtain ⟨_, _, v', q3, q4⟩ := @results_sound P w00 F00 E (ofL A) w' Fe.plain.round (d.wj (Ds.map mkD)) fn (headJ [] e fv n c A).f a hf hr3 v _ _ _ _ hR
        refine ⟨v', q3, v', fun _ => none, rfl, (fun i x h1 h2 => by simp [lkL] at h2), ?_, @VR.cv E (fun _ => none) [] (d.wj (Ds.map mkD)) (fun a b h => by cases h) _ _ _ _ q4 (by rw [cv_wj]; exact hres)⟩
        refine @HR.mk den0 _ _ _ _ _ _ (@HR.keeps (d.wj (Ds.map mkD)) _ _ _ _ _ _ hr3) (fun i x h => by cases h) (fun i o h => ?_) (fun i j o p x z _ hi _ _ _ _ hx _ => by cases hx) (fun i o x _ _ h => by cases h)
        rw [get_ofL] at h; cases h
      · cases hres
  rcases he with rfl | rfl
  · exact key
  · exact key
def YieldA (Fe : Fence) (m : Nat) (P : Program) (l : Nat) (args : Array Value) (W : World) (R : Ending → World → Prop) : Prop :=
  ∃ fn tmps assign body, (Instr.yield l args).run P W = .ok (.round l fn tmps assign body) W ∧ RoundIn Fe m P l fn tmps assign body W R
def Kept (B : Nat) (A A' : World) : Prop := A.heap.size ≤ A'.heap.size ∧ ∀ b, B ≤ b → b < A.heap.size → A'.heap[b]? = A.heap[b]?
def RoundP (B : Nat) (J Jx : Nat → World → Prop) (k : Nat) (A : World) : Ending → World → Prop := fun e A' =>
  Kept B A A' ∧ ((e = .returned (.bool true) ∧ J (k + 1) A') ∨ (e = .returned (.bool false) ∧ Jx k A'))
def Iter (P : Program) (gf : FuncId) (lb : Array Value) (N : Nat) (xs : Nat → Value) (Kf : World → Prop) : Prop :=
  ∀ (Fe : Fence) (n l : Nat) (J Jx : Nat → World → Prop) (W : World), Wd Fe → Fe.round = none →
    (∀ k A A', J k A → Grow W.heap.size A A' → J k A') → (∀ k A A', Jx k A → Grow W.heap.size A A' → Jx k A') → (∀ k A, J k A → Kf A) → (∀ k A, Jx k A → Kf A) → l < W.heap.size →
    (∀ k A m, k < N → J k A → YieldA Fe m P l #[xs k] A (RoundP W.heap.size J Jx k A)) → J 0 W →
    CallsIn Fe n P gf (#[.func (.yield l) #[] #[]] ++ lb) W fun e A' => (∃ v, e = .returned v) ∧ (J N A' ∨ ∃ k, k < N ∧ Jx k A')
theorem wp_yield {P : Program} {Fe : Fence} {n : Nat} {o : Oper} {a : Act} {next : Act → World → Prop} {Q : Exit → Act → World → Prop} {w : World} (hW : Wd Fe) {cl : Call} {g : Operand} (ho : o.op = .call cl) (hcl : cl.callee = .value g) {l : Nat} (hg : a.eval g = .func (.yield l) #[] #[]) {args : Array Value} (ha : cl.args.map a.eval = args) {R : Ending → World → Prop} (hy : YieldA Fe (n - 1) P l args w R) (hk : ∀ e w', R e w' → ∃ v, e = .returned v ∧ next (a.put o.dst v) w') : o.wpIn Fe n P a w next Q := by
  obtain ⟨fn, tmps, assign, body, hrun, hR⟩ := hy
  have hrun : (execOp a.eval o).run P w = .ok (.round l fn tmps assign body) w := by
    simp only [execOp, ho, resolve, hcl, hg, Deferred.ofValue, Sem.run_bind, Sem.run_pure, Result.andThen_ok, invoke]
    rw [show (#[] ++ cl.args.map a.eval : Array Value) = cl.args.map a.eval from by simp, ha]
    rw [hrun]
  refine ⟨fun f _ => hW.1 f, ?_⟩
  rw [Oper.semAt_eq _ _ _ (fun c e => by rw [ho] at e; cases e), hrun]
  rw [Oper.uponIn_round]
  refine ⟨(fun hd => by rw [hW.2] at hd; cases hd), ?_⟩
  exact hR.mono fun e w' h => by
    obtain ⟨v, rfl, h2⟩ := hk e w' h
    exact h2
end Go.Sx
namespace Go.Sx
section
variable {P : Program} {w0 : World} {F : Nat → Prop} {E : Env} {H : Heap} {w : World}
theorem HR.turnB [Den] (hr : HR P w0 F E H w) (hn : ∀ i o, H.get i = some o → noCtl o = true) {l : Nat} {o : Obj} (ho : w.heap[l]? = some o) (hc : ctl o = true) (o' : Obj) : HR P (w.putObj l o') (wb E H) E H (w.putObj l o') := by
  have hb := HR.base hr
  have h0 : HR P { w with heap := #[] } (fun _ => True) E H w := by
    refine ⟨⟨rfl, rfl, rfl, Nat.zero_le _, fun k hk => absurd hk (Nat.not_lt_zero _)⟩, hr.dom, hr.obj, hr.inj, fun _ _ _ _ _ _ => .inr trivial⟩
  have h1 := HR.grow (B := 0) h0 hn (Nat.le_refl _) (Grow.put o' (Nat.zero_le _) ho hc)
  exact HR.base h1
end
noncomputable def runR (r : Rec) (m1 m2 : Nat) (assign body : Code) (f : Fr) (c : Nat) (h : Heap) : Option Cfg := match ksteps r m1 ⟨[.code assign], .normal, f, c, h⟩ with
  | some ⟨[], .normal, f1, c1, h1⟩ => bif h1.all noCtl then ksteps r m2 ⟨[.code body], .normal, f1, c1, h1⟩ else none
  | _ => none
noncomputable def endR (d : Den) (τ : Ren) : Cfg → Option HL
  | ⟨[], .normal, _, _, h⟩ => @cvH d τ [] h τ
  | _ => none
structure RoundOK (d d2 : Den) (P : Program) (A : HL) (fv : FV) (n c : Nat) (ps : List Tmp) (x : Value) (assign body : Code) : Prop where
  ex : ∃ (asm : Asm) (ents : List (FuncId × List Entry)) (N m1 m2 : Nat) (τ : Ren) (elem : Value) (y : Nat) (B : HL),
    (∀ l, @AllOk (d.wj l) P asm.l) ∧ (∀ l, @LdsOk (d.wj l) P asm.lds) ∧ (∀ l, @AppsOk (d.wj l) P asm.apps) ∧ (∀ l, @EntsOK (d.wj l) P ents) ∧
    @cv d [] DEP elem = some x ∧ lkL A y = none ∧
    (runR (@Sx.rec asm P (tblE noTbl ents) N) m1 m2 assign body (Fr.puts ⟨ofV fv, n, some y, []⟩ ps [elem]) c ((ofL A).set y .dead)).bind (endR d τ) = some B ∧
    @cvH d2 (idR A) [] (ofL A) (idR A) = some B ∧
    (injB τ && A.all (fun p => match lkR τ p.1 with
      | some a => Nat.beq a p.1
      | none => false)) = true
theorem round_sound {d d2 : Den} {P : Program} (hm : P.follows .mixedOrders = true) {A : HL} {fv : FV} {n c : Nat} {ps : Array Tmp} {x : Value} {assign body : Code} (hx : cleanB x = true) (hn : A.all (fun p => noCtl p.2) = true) (hnd : nodupB (A.map (·.1)) = true)
    (h : RoundOK d d2 P A fv n c ps.toList x assign body) {jk : List Deferred} {Fe : Fence} {m : Nat} (hW : Wd Fe) {E : Env} {W : World} {tmps : Array Value} {l : Nat} {lr : Loop} {fn : FuncId}
    (hr : @HR (d.wj jk) P W (wb E (ofL A)) E (ofL A) W) (hT : @TR (d.wj jk) E ⟨ofV fv, n, none, [bigD]⟩ tmps) (hl : W.heap[l]? = some (.loop lr)) (hst : lr.state = .ready) (hpe : lr.pending = none) {R : Ending → World → Prop}
    (hk : ∀ E' W3, E.le E' → @HR (d2.wj jk) P W3 (wb E' (ofL A)) E' (ofL A) W3 → W3.os = W.os → W3.tape = W.tape → W3.output = W.output → W.heap.size ≤ W3.heap.size →
      (∀ b, b < W.heap.size → ¬ wb E (ofL A) b → b ≠ l → W3.heap[b]? = W.heap[b]?) → (∀ b, wb E' (ofL A) b → W.heap.size ≤ b ∨ wb E (ofL A) b) → W3.heap[l]? = some (.loop lr) → R (.returned (.bool true)) W3) :
    RoundIn Fe m P l fn ((ps.zip #[x]).foldl (fun t (p, v) => t.setIfInBounds p v) tmps) assign body W R := by
  obtain ⟨asm, ents, N, m1, m2, τ, elem, y, B, hok, hlds, happs, hent, helem, hy, hrun, hB, hτ⟩ := h
  simp only [Bool.and_eq_true, List.all_eq_true] at hτ
  obtain ⟨hτ1, hτ2⟩ := hτ
  have hno : ∀ i o, (ofL A).get i = some o → noCtl o = true := fun i o h => by
    rw [get_ofL] at h
    exact List.all_eq_true.1 hn _ (lkL_mem h)
  have snd := fun w0 F0 => @rec_sound P w0 F0 (d.wj jk) asm (@asmOK_of (d.wj jk) P asm.l asm.lds asm.apps (hok _) (hlds _) (happs _)) hm _ (@tblE_snd P w0 F0 (d.wj jk) _ (@noTbl_sound (d.wj jk) P w0 F0) _ (@EntsOK.all (d.wj jk) P _ (hent _))) N
  refine roundIn_of_wpIn (hW.1 _) ?_
  obtain ⟨hleY, hrY⟩ := @HR.addDead P W (wb E (ofL A)) E (ofL A) W (d.wj jk) hr y ⟨l, 0, 0⟩ ((get_ofL A y).trans hy)
  have hWl : Wd (Fe.inRound l) := hW
  have hEy : (E.upd y ⟨l, 0, 0⟩) y = some ⟨l, 0, 0⟩ := by simp [Env.upd]
  have hf0 : @FR (d.wj jk) (E.upd y ⟨l, 0, 0⟩) (Fe.inRound l).round ⟨ofV fv, n, some y, []⟩ { tmps := tmps, defers := [] } :=
    @FR.mk (d.wj jk) _ _ _ _ (@DsR.nil (d.wj jk) _) (.some hEy) (by
      have h2 := @TR.mono (d.wj jk) _ _ _ _ hT hleY
      have e1 : tmps.size = n := @TR.size (d.wj jk) _ _ _ h2
      exact @TR.mk (d.wj jk) _ _ _ e1 (fun k v hk => @TR.val (d.wj jk) _ _ _ h2 k v hk))
  have hargs : @LR (d.wj jk) (E.upd y ⟨l, 0, 0⟩) [elem] [x] :=
    @LR.cons (d.wj jk) _ _ _ _ _ (@VR.vc _ (fun _ => none) [] (d.wj jk) (fun a b h => by cases h) _ _ _ _ (VR0.clean hx) (by rw [cv_wj]; exact helem)) (@LR.nil (d.wj jk) _)
  have hf1 := @FR.puts (E.upd y ⟨l, 0, 0⟩) (Fe.inRound l).round (d.wj jk) ps.toList [elem] [x] ⟨ofV fv, n, some y, []⟩ tmps [] hf0 hargs
  have hfold : (ps.toList.zip [x]).foldl (fun t (p : Tmp × Value) => t.setIfInBounds p.1 p.2) tmps = (ps.zip #[x]).foldl (fun t (p, v) => t.setIfInBounds p v) tmps := by
    rw [← Array.foldl_toList, Array.toList_zip]
  rw [hfold] at hf1
  unfold runR at hrun
  split at hrun
  · rename_i f1 c1 h1 hk1
    cases hall : h1.all noCtl with
    | false => rw [hall] at hrun; cases hrun
    | true =>
    rw [hall] at hrun
    simp only [cond_true] at hrun
    have hno1 : ∀ i o, h1.get i = some o → noCtl o = true := fun i o h => Tr.all_get hall h
    cases hk2 : ksteps (@Sx.rec asm P (tblE noTbl ents) N) m2 ⟨[.code body], .normal, f1, c1, h1⟩ with
    | none => rw [hk2] at hrun; cases hrun
    | some z2 =>
    rw [hk2] at hrun
    obtain ⟨zk, ze, zf, zc, zh⟩ := z2
    have hz : zk = [] ∧ ze = .normal ∧ @cvH d τ [] zh τ = some B := by
      simp only [Option.bind_some, endR] at hrun
      split at hrun
      · rename_i heq; cases heq; exact ⟨rfl, rfl, hrun⟩
      · cases hrun
    obtain ⟨rfl, rfl, hzB⟩ := hz
    have hnl : ¬ wb E (ofL A) l := fun hw => by
      have := @HR.wb_ctl P W _ E (ofL A) W (d.wj jk) hr hno l hw _ hl
      cases this
    have hlt : l < W.heap.size := (Array.getElem?_eq_some_iff.1 hl).1
    refine @ksteps_soundA P W (wb E (ofL A)) (Fe.inRound l) m (Exit.then (fun a₁ w₁ => ∃ w₂, (Instr.beginRound l).run P w₁ = .ok () w₂ ∧ body.wpIn (Fe.inRound l) m P (roundPost P l R) a₁ w₂) (fun _ _ _ => False)) (A.map (·.1)) (E.upd y ⟨l, 0, 0⟩) (d.wj jk) _ (snd _ _).1 hWl _ _ _ hk1 ?_ _ _ _ (fun i hi x hx => hx) hf1 hrY
    intro E2 a2 w2 ha2 hf2 hr2
    have hk2' := @HR.keeps (d.wj jk) _ _ _ _ _ _ hr2
    have hl2 : w2.heap[l]? = some (.loop lr) := (hk2'.block l hlt hnl).trans hl
    refine ⟨_, run_beginRound hl2 hst, ?_⟩
    have hr3 := @HR.turnB P W (wb E (ofL A)) E2 h1 w2 (d.wj jk) hr2 hno1 l _ hl2 rfl (.loop { lr with state := .busy })
    have hl3 : (w2.putObj l (.loop { lr with state := .busy })).heap[l]? = some (.loop { lr with state := .busy }) := World.putObj_heap_same (Array.getElem?_eq_some_iff.1 hl2).1
    have hsz3 : (w2.putObj l (.loop { lr with state := .busy })).heap.size = w2.heap.size := World.putObj_size
    have hos3 : (w2.putObj l (.loop { lr with state := .busy })).os = w2.os ∧ (w2.putObj l (.loop { lr with state := .busy })).tape = w2.tape ∧ (w2.putObj l (.loop { lr with state := .busy })).output = w2.output := ⟨rfl, rfl, rfl⟩
    have hoth3 : ∀ b, b ≠ l → (w2.putObj l (.loop { lr with state := .busy })).heap[b]? = w2.heap[b]? := fun b hb => World.putObj_heap_other hb
    generalize w2.putObj l (.loop { lr with state := .busy }) = w3 at hr3 hl3 hsz3 hos3 hoth3 ⊢
    refine @ksteps_soundA P w3 (wb E2 h1) (Fe.inRound l) m (roundPost P l R) (A.map (·.1)) E2 (d.wj jk) _ (snd _ _).1 hWl _ _ _ hk2 ?_ _ _ _ (fun i hi x hx => hx) hf2 hr3
    intro E3 a3 w4 ha3 hf3 hr4
    have hk4 := @HR.keeps (d.wj jk) _ _ _ _ _ _ hr4
    have hnl3 : ¬ wb E2 h1 l := fun hw => by
      have := @HR.wb_ctl P w3 _ E2 h1 w3 (d.wj jk) hr3 hno1 l hw _ hl3
      cases this
    have hl4 : w4.heap[l]? = some (.loop { lr with state := .busy }) := (hk4.block l (by rw [hsz3]; exact Nat.lt_of_lt_of_le hlt hk2'.size) hnl3).trans hl3
    have hr5 := HR.swap (d1 := d.wj jk) (d2 := d2.wj jk) hr4 hτ1 (by rw [cvH_wj]; exact hzB) (by rw [cvH_wj]; exact hB) hnd
    have hr6 := @HR.turnB P _ _ _ (ofL A) w4 (d2.wj jk) hr5 hno l _ hl4 rfl (.loop lr)
    have hend := run_endRound (P := P) none hl4
    have hlr : ({ ({ lr with state := .busy } : Loop) with state := if (none : Option Code).isNone then .ready else .done, pending := none } : Loop) = lr := by
      cases lr
      simp only at hst hpe
      subst hst hpe
      rfl
    rw [hlr] at hend
    refine ⟨_, _, hend, ?_⟩
    refine hk _ _ (fun i e hi => ?_) hr6 ?_ ?_ ?_ ?_ (fun b hb h1' h2' => ?_) (fun b hb => ?_) (World.putObj_heap_same (Array.getElem?_eq_some_iff.1 hl4).1)
    · have hmem : (lkL A i).isSome = true := by
        have := @HR.dom (d.wj jk) _ _ _ _ _ _ hr i e hi
        rw [get_ofL] at this
        cases hx : lkL A i with
        | none => exact absurd hx this
        | some o => rfl
      obtain ⟨o, ho⟩ := Option.isSome_iff_exists.1 hmem
      have hin : i ∈ A.map (·.1) := List.mem_map.2 ⟨_, lkL_mem ho, rfl⟩
      have e3 := ha3 i hin _ (ha2 i hin _ (hleY _ _ hi))
      have := hτ2 _ (lkL_mem ho)
      simp only at this
      cases hlk : lkR τ i with
      | none => rw [hlk] at this; cases this
      | some a0 =>
        rw [hlk] at this
        have := beq_iff.1 this; subst this
        unfold envTo envOf
        rw [lk_id_of_get ho]
        simp only [Option.bind_some, hlk]
        exact e3
    · exact hk4.os.trans (hos3.1.trans hk2'.os)
    · exact hk4.tape.trans (hos3.2.1.trans hk2'.tape)
    · exact hk4.output.trans (hos3.2.2.trans hk2'.output)
    · rw [World.putObj_size]
      exact Nat.le_trans hk2'.size (by rw [← hsz3]; exact hk4.size)
    · rw [World.putObj_heap_other h2']
      rw [hk4.block b (by rw [hsz3]; exact Nat.lt_of_lt_of_le hb hk2'.size) (fun hw => by
        rcases @HR.wb_old P W (wb E (ofL A)) E2 h1 w2 (d.wj jk) hr2 b hw with h | h
        · omega
        · exact h1' h)]
      rw [hoth3 b h2']
      exact hk2'.block b hb h1'
    · rcases @HR.wb_old P w3 (wb E2 h1) _ (ofL A) w4 (d2.wj jk) hr5 b hb with h | h
      · rw [hsz3] at h; exact .inl (Nat.le_trans hk2'.size h)
      · exact @HR.wb_old P W (wb E (ofL A)) E2 h1 w2 (d.wj jk) hr2 b h
  · cases hrun
end Go.Sx
namespace Go.Sx
theorem GoodJ.range {P : Program} (hm : P.follows .mixedOrders = true) {g : FuncId} {res : Value} {dK : Nat → Den} {N : Nat} {xs : Nat → Value} {A : HL} {fv : FV} {n c : Nat} {k : List KI} {gop : Operand} {ps : Array Tmp} {assign body : Code} {gf : FuncId} {lbA : Array Value}
    (hgf : callB P gf = true) (hps : ps.size = 1) (hval : (Fr.eval ⟨ofV fv, n, none, [bigD]⟩ gop c (ofL A) : R Value) = .ok (.func (.func gf) #[] lbA) c (ofL A) .nil)
    (hn : A.all (fun p => noCtl p.2) = true) (hnd : nodupB (A.map (·.1)) = true) (hbig : (lkL A bigD).isNone = true) (hxs : ∀ i, cleanB (xs i) = true)
    (hV : ∀ i, i ≤ N → @cvV (dK i) (idR A) (ofV fv) (fv.map (·.1)) = @cvV (dK 0) (idR A) (ofV fv) (fv.map (·.1))) (hV0 : (@cvV (dK 0) (idR A) (ofV fv) (fv.map (·.1))).isSome = true) (hA : ∀ i, i ≤ N → (@cvH (dK i) (idR A) [] (ofL A) (idR A)).isSome = true)
    (hid : injB (idR A) = true) (hne : 0 < N → ∀ i T j, lkL A i = some (.mrow T j false) → (dK 0).row j ≠ [])
    (hit : ∀ (jk : List Deferred) (E : Env) (w : World) (lb' : Array Value), @LR ((dK 0).wj jk) E lbA.toList lb'.toList → @HR ((dK 0).wj jk) P w (wb E (ofL A)) E (ofL A) w →
      ∃ Kf, Iter P gf lb' N xs Kf ∧ ∀ i E' A', i ≤ N → E.le E' → @HR ((dK i).wj jk) P A' (wb E' (ofL A)) E' (ofL A) A' → Kf A')
    (hround : ∀ i, i < N → RoundOK (dK i) (dK (i + 1)) P A fv n c ps.toList (xs i) assign body)
    (hend : GoodJ (dK N) P g res (headJ k .normal fv n c A)) : GoodJ (dK 0) P g res (headJ (.code (.rangeFunc gop ps assign body) :: k) .normal fv n c A) := by
  refine ⟨fun fn hfn w00 F00 E00 Fe nn hW Ds w0 F0 hb E a w _ hf hr => ?_⟩
  have hno : ∀ i o, (ofL A).get i = some o → noCtl o = true := fun i o h => by
    rw [get_ofL] at h
    exact List.all_eq_true.1 hn _ (lkL_mem h)
  obtain ⟨jk, hjk⟩ : ∃ jk, jk = Ds.map mkD := ⟨_, rfl⟩
  rw [← hjk] at hf hr
  have hr : @HR ((dK 0).wj jk) P w0 F0 E (ofL A) w := hr
  have hr1 : @HR ((dK 0).wj jk) P w (wb E (ofL A)) E (ofL A) w := @HR.base P w0 F0 E (ofL A) w ((dK 0).wj jk) hr
  have hk0 := @HR.keeps ((dK 0).wj jk) _ _ _ _ _ _ hr
  have hbE : E bigD = none := by
    cases hx : E bigD with
    | none => rfl
    | some x =>
      have := @HR.dom ((dK 0).wj jk) _ _ _ _ _ _ hr bigD x hx
      rw [get_ofL] at this
      cases hy : lkL A bigD with
      | none => exact absurd hy this
      | some o => rw [hy] at hbig; cases hbig
  have hdef : a.defers = jk := @DsR.big E ((dK 0).wj jk) _ (@FR.defers ((dK 0).wj jk) _ _ _ _ hf) hbE
  have hT : @TR ((dK 0).wj jk) E ⟨ofV fv, n, none, [bigD]⟩ a.tmps := @FR.tr ((dK 0).wj jk) _ _ _ _ hf
  have hro := @FR.ro ((dK 0).wj jk) _ _ _ _ hf
  obtain ⟨V, hVs⟩ := Option.isSome_iff_exists.1 hV0
  -- the frame's temporaries under other symbols
  have hTi : ∀ i, i ≤ N → ∀ E', E.le E' → @TR ((dK i).wj jk) E' ⟨ofV fv, n, none, [bigD]⟩ a.tmps := fun i hi E' hle =>
    @TR.mono ((dK i).wj jk) _ _ _ _ (TR.swap (d1 := (dK 0).wj jk) (d2 := (dK i).wj jk) (A := A) (f := ⟨ofV fv, n, none, [bigD]⟩) hT hid (by rw [cvV_wj]; exact hVs) (by rw [cvV_wj, hV i hi]; exact hVs)) (Env.le_trans env_id hle)
  show (Code.rangeFunc gop ps assign body).wpIn Fe.plain nn P (post Fe.plain nn P _ k) a w
  refine wpIn_rangeFunc fun fn' hfn' => ?_
  have hgv := @eval_sound E Fe.plain.round ((dK 0).wj jk) _ a hf gop _ _ _ _ _ _ hval
  generalize hga : a.eval gop = gv at hgv
  have hgv : ∃ cs : Array Value, gv = .func (.func gf) #[] cs ∧ @LR ((dK 0).wj jk) E lbA.toList cs.toList := by
    cases hgv with
    | fn hf1 p1 hc1 p2 =>
      rename_i fs cs
      have : fs = #[] := by
        have : fs.toList.length = 0 := hf1.symm
        apply Array.toList_inj.1
        exact List.eq_nil_of_length_eq_zero this
      subst this
      exact ⟨cs, rfl, hc1, p2⟩
  obtain ⟨cs, rfl, hcs⟩ := hgv
  obtain ⟨gfn, gcode, hgfn, hgname, hgbody, _, _⟩ := callable_of hgf
  obtain ⟨rec0, hrec⟩ : ∃ r : Loop, r = { state := .ready, pending := none, fn := fn', tmps := a.tmps, params := ps, assign, body, defers := w.heap.size } := ⟨_, rfl⟩
  obtain ⟨W1, hW1⟩ : ∃ W1, W1 = (w.alloc (.deferred (some []))).alloc (.loop rec0) := ⟨_, rfl⟩
  have hsz1 : W1.heap.size = w.heap.size + 2 := by rw [hW1, World.size_alloc, World.size_alloc]
  have hgrow : Grow w.heap.size w W1 := by rw [hW1]; exact (Grow.alloc _ _).trans (Grow.alloc _ _)
  have hL1 : W1.heap[w.heap.size + 1]? = some (.loop rec0) := by
    rw [hW1]; have := World.alloc_heap_new (w.alloc (.deferred (some []))) (.loop rec0); rwa [World.size_alloc] at this
  have hD1 : W1.heap[w.heap.size]? = some (.deferred (some [])) := by
    rw [hW1]
    have h1 := World.alloc_heap_new w (.deferred (some []))
    rcases (Grow.alloc (B := (w.alloc (.deferred (some []))).heap.size) (w.alloc (.deferred (some []))) (.loop rec0)).block w.heap.size (by rw [World.size_alloc]; omega) with h | h
    · rw [h]; exact h1
    · have := h.1; rw [World.size_alloc] at this; omega
  have henter := run_enterLoop_outer (P := P) (w := w) fn' a.tmps ps assign body
  rw [← hrec, ← hW1] at henter
  obtain ⟨Kf, hIt, hKf⟩ := hit jk E w cs hcs hr1
  -- what is so between two rounds
  obtain ⟨J, hJ⟩ : ∃ J : Nat → World → Prop, J = fun i A' => i ≤ N ∧ ∃ E', E.le E' ∧ @HR ((dK i).wj jk) P A' (wb E' (ofL A)) E' (ofL A) A' ∧ Keeps w (wb E (ofL A)) A' ∧ (∀ b, wb E' (ofL A) b → w.heap.size ≤ b ∨ wb E (ofL A) b) ∧
      A'.heap[w.heap.size + 1]? = some (.loop rec0) ∧ A'.heap[w.heap.size]? = some (.deferred (some [])) := ⟨_, rfl⟩
  have grow2 : ∀ {i E' A' A'' B}, @HR ((dK i).wj jk) P A' (wb E' (ofL A)) E' (ofL A) A' → Grow B A' A'' → @HR ((dK i).wj jk) P A'' (wb E' (ofL A)) E' (ofL A) A'' := fun {i E' A' A'' B} h1 h2 => by
    have h0 : @HR ((dK i).wj jk) P { A' with heap := #[] } (fun _ => True) E' (ofL A) A' :=
      @HR.mk ((dK i).wj jk) _ _ _ _ _ _ ⟨rfl, rfl, rfl, Nat.zero_le _, fun k hk => absurd hk (Nat.not_lt_zero _)⟩ (@HR.dom ((dK i).wj jk) _ _ _ _ _ _ h1) (@HR.obj ((dK i).wj jk) _ _ _ _ _ _ h1) (@HR.inj ((dK i).wj jk) _ _ _ _ _ _ h1) fun _ _ _ _ _ _ => .inr trivial
    exact @HR.base P _ _ _ _ _ ((dK i).wj jk) (@HR.grow P _ _ _ _ _ _ ((dK i).wj jk) 0 h0 hno (Nat.le_refl _) (h2.mono (Nat.zero_le _)))
  have keeps2 : ∀ {A' A''}, Keeps w (wb E (ofL A)) A' → Grow w.heap.size A' A'' → Keeps w (wb E (ofL A)) A'' := fun {A' A''} h1 h2 => by
    refine ⟨h2.os.trans h1.os, h2.tape.trans h1.tape, h2.output.trans h1.output, Nat.le_trans h1.size h2.size, fun b hb hn => ?_⟩
    rcases h2.block b (Nat.lt_of_lt_of_le hb h1.size) with e | ⟨e, _⟩
    · exact e.trans (h1.block b hb hn)
    · omega
  have hJab : ∀ i A' A'', J i A' → Grow W1.heap.size A' A'' → J i A'' := fun i A' A'' h hg => by
    rw [hJ] at h ⊢
    obtain ⟨hi, E', h1, h2, h3, h4, h5, h6⟩ := h
    have hg' := hg.mono (B := w.heap.size) (by omega)
    exact ⟨hi, E', h1, grow2 h2 hg, keeps2 h3 hg', h4, hg.same h5 (.inl (by omega)), hg.same h6 (.inl (by omega))⟩
  have hJ0 : J 0 W1 := by
    rw [hJ]
    exact ⟨Nat.zero_le _, E, fun _ _ h => h, grow2 hr1 hgrow, keeps2 (Keeps.refl' _ _) hgrow, fun b h => .inr h, hL1, hD1⟩
  -- the blocks that a round may write
  have hwr : 0 < N → ∀ {E' : Env} {b : Nat}, E.le E' → wb E' (ofL A) b → b < w.heap.size := fun hN E' b hle ⟨i, o, e, h1, h2, h3, h4⟩ => by
    have hlive : live o = true := by cases o <;> first | rfl | cases h2
    have hE : ∃ e0, E i = some e0 := by
      have hob := @HR.obj ((dK 0).wj jk) _ _ _ _ _ _ hr1 i o h1
      have hno' := hno i o h1
      cases o with
      | row T cs ro => obtain ⟨e0, _, h, _⟩ := hob; exact ⟨e0, h⟩
      | map es => obtain ⟨e0, _, _, h, _⟩ := hob; exact ⟨e0, h⟩
      | orow T j ro => obtain ⟨e0, _, h, _⟩ := hob; exact ⟨e0, h⟩
      | mrow T j ro =>
        cases ro with
        | true => cases h2
        | false =>
          rcases hob with ⟨_, h⟩ | ⟨e0, _, h, _⟩
          · rw [get_ofL] at h1
            exact absurd h (hne hN i T j h1)
          · exact ⟨e0, h⟩
      | dead => cases h2
      | defd => cases hno'
      | loop _ _ _ _ _ _ _ => cases hno'
    obtain ⟨e0, he0⟩ := hE
    have := hle _ _ he0
    rw [h3] at this; cases this
    rw [← h4]
    exact @HR.blk_lt P w (wb E (ofL A)) E (ofL A) w ((dK 0).wj jk) hr1 i o e h1 hlive he0
  have hcall := hIt Fe.plain (nn - 1) (w.heap.size + 1) J (fun _ _ => False) W1 hW rfl hJab (fun _ _ _ h _ => h) (fun i A' h => by
    rw [hJ] at h
    obtain ⟨hi, E', h1, h2, _⟩ := h
    exact hKf i E' A' hi h1 h2) (fun _ _ h => h.elim) (by omega) (fun i A' m hi h => by
    rw [hJ] at h
    obtain ⟨_, E', h1, h2, h3, h4, h5, h6⟩ := h
    have hy := run_yield (P := P) (args := #[xs i]) h5 (by rw [hrec]; exact hps.symm)
    refine ⟨_, _, _, _, hy, ?_⟩
    rw [hrec]
    simp only
    have hst : rec0.state = .ready := by rw [hrec]
    have hpe : rec0.pending = none := by rw [hrec]
    have hl1 : w.heap.size + 1 < A'.heap.size := (Array.getElem?_eq_some_iff.1 h5).1
    refine round_sound hm (hxs i) hn hnd (hround i hi) (jk := jk) (E := E') (tmps := a.tmps) (lr := rec0) hW h2 (hTi i (by omega) E' h1) h5 hst hpe fun E'' W3 g1 g2 g3 g4 g5 g6 g7 g8 g9 => ?_
    have hN : 0 < N := by omega
    refine ⟨⟨g6, fun b hb hb2 => g7 b hb2 (fun hw => by have := hwr hN h1 hw; omega) (by omega)⟩, .inl ⟨rfl, ?_⟩⟩
    rw [hJ]
    refine ⟨by omega, E'', Env.le_trans h1 g1, g2, ⟨g3.trans h3.os, g4.trans h3.tape, g5.trans h3.output, Nat.le_trans h3.size g6, fun b hb hnb => ?_⟩, fun b hb => ?_, g9, ?_⟩
    · rw [g7 b (Nat.lt_of_lt_of_le hb h3.size) (fun hw => (h4 b hw).elim (fun h => by omega) hnb) (by omega)]
      exact h3.block b hb hnb
    · rcases g8 b hb with h | h
      · exact .inl (Nat.le_trans h3.size h)
      · exact h4 b h
    · rw [g7 w.heap.size (by omega) (fun hw => by have := hwr hN h1 hw; omega) (by omega)]
      exact h6) hJ0
  refine ⟨w.heap.size + 1, [mkD w.heap.size], W1, { target := .fn (.func gf) cs, args := #[.func (.yield (w.heap.size + 1)) #[] #[]] }, W1, gf, #[.func (.yield (w.heap.size + 1)) #[] #[]] ++ cs, W1, henter, ?_, fun f' _ => hW.1 f', ?_, (fun hd => by rw [show Fe.plain.depth = none from hW.2] at hd; cases hd), ?_⟩
  · simp only [resolve, hga, Deferred.ofValue, Sem.run_pure]
    simp [Act.eval]
  · simp only [invoke, callFunc, Sem.run_bind, run_program, Result.andThen_ok, hgfn, hgname, hgbody]
    simp
  · refine hcall.mono fun e W2 ⟨⟨v, hv⟩, hjj⟩ => ?_
    subst hv
    rcases hjj with hjj | ⟨_, _, h⟩
    · rw [hJ] at hjj
      obtain ⟨_, E', h1, h2, h3, h4, h5, h6⟩ := hjj
      have hst : rec0.state ≠ .busy := by rw [hrec]; simp
      have hpe : rec0.pending = none := by rw [hrec]
      have hg3 : Grow w.heap.size W2 (W2.putObj (w.heap.size + 1) (.loop { rec0 with state := .exhausted })) := Grow.put _ (by omega) h5 rfl
      have hk3 := keeps2 h3 hg3
      have hD3 : (W2.putObj (w.heap.size + 1) (.loop { rec0 with state := .exhausted })).heap[w.heap.size]? = some (.deferred (some [])) := (World.putObj_heap_other (by omega)).trans h6
      have hr3 := grow2 h2 hg3
      have hend' : (Instr.endLoop (w.heap.size + 1)).run P W2 = .ok none (W2.putObj (w.heap.size + 1) (.loop { rec0 with state := .exhausted })) := by
        rw [run_endLoop (P := P) h5 hst, hpe]
      generalize W2.putObj (w.heap.size + 1) (.loop { rec0 with state := .exhausted }) = W3 at hg3 hk3 hD3 hr3 hend'
      refine ⟨none, W3, hend', ?_⟩
      have hds : ({ a with defers := [mkD w.heap.size] ++ a.defers } : Act) = { a with defers := (w.heap.size :: Ds).map mkD } := by
        rw [hdef, hjk]; rfl
      show post Fe.plain nn P _ k .normal { a with defers := [mkD w.heap.size] ++ a.defers } W3
      rw [hds]
      have hbs := hb.keeps.size
      have hks := hk0.size
      obtain ⟨BN, hBN⟩ := Option.isSome_iff_exists.1 (hA N (Nat.le_refl _))
      have hr4 : @HR ((dK N).wj ((w.heap.size :: Ds).map mkD)) P W3 (wb E' (ofL A)) (envTo (idR A) (envOf (idR A) E')) (ofL A) W3 := HR.swap (d1 := (dK N).wj jk) (d2 := (dK N).wj ((w.heap.size :: Ds).map mkD)) hr3 hid (by rw [cvH_wj]; exact hBN) (by rw [cvH_wj]; exact hBN) hnd
      refine hend.get fn hfn w00 F00 E00 Fe nn hW (w.heap.size :: Ds) W3 (wb E' (ofL A)) ⟨(hb.keeps.trans hk0 hb.own).trans hk3 (fun b hw => (@HR.wb_old P w0 F0 E (ofL A) w ((dK 0).wj jk) hr b hw).elim (fun h => .inl (by omega)) (hb.own b)), fun b hw => (h4 b hw).elim (fun h => .inl (by omega)) (fun h => (@HR.wb_old P w0 F0 E (ofL A) w ((dK 0).wj jk) hr b h).elim (fun h => .inl (by omega)) (hb.own b)), ?_, ?_⟩ _ _ W3 (fun i hi => by cases hi) ?_ hr4
      · refine List.nodup_cons.2 ⟨fun hmem => ?_, hb.nd⟩
        have := (hb.jk _ hmem).2.1
        omega
      · intro D hD
        rcases List.mem_cons.1 hD with rfl | hD
        · refine ⟨by omega, (Array.getElem?_eq_some_iff.1 hD3).1, fun hw => ?_, hD3⟩
          have := @HR.wb_ctl P W3 _ E' (ofL A) W3 ((dK N).wj jk) hr3 hno _ hw _ hD3
          cases this
        · obtain ⟨j1, j2, j3, j4⟩ := hb.jk D hD
          have e1 : w.heap[D]? = some (.deferred (some [])) := (hk0.block D j2 j3).trans j4
          have e2 : W3.heap[D]? = some (.deferred (some [])) := (hk3.block D (by omega) (fun hw => by
            have := @HR.wb_ctl P w _ E (ofL A) w ((dK 0).wj jk) hr1 hno _ hw _ e1
            cases this)).trans e1
          refine ⟨j1, (Array.getElem?_eq_some_iff.1 e2).1, fun hw => ?_, e2⟩
          have := @HR.wb_ctl P W3 _ E' (ofL A) W3 ((dK N).wj jk) hr3 hno _ hw _ e2
          cases this
      · refine @FR.mk ((dK N).wj ((w.heap.size :: Ds).map mkD)) _ _ _ _ (@DsR.rest ((dK N).wj ((w.heap.size :: Ds).map mkD)) _) ?_ ?_
        · have hnon : ∀ {R : Option Nat}, RoR E none R → R = none := fun h => by cases h; rfl
          rw [hnon hro]
          exact .none
        · exact TR.swap (d1 := (dK N).wj jk) (d2 := (dK N).wj ((w.heap.size :: Ds).map mkD)) (f := ⟨ofV fv, n, none, [bigD]⟩) (hTi N (Nat.le_refl _) E' h1) hid (by rw [cvV_wj, hV N (Nat.le_refl _)]; exact hVs) (by rw [cvV_wj, hV N (Nat.le_refl _)]; exact hVs)
    · exact h.elim
end Go.Sx
namespace Go.Sx
section
variable {P : Program} {w0 : World} {F : Nat → Prop} {R : Option Nat}
theorem opsL_pre [Den] [Asm] [AsmOK P] {Fe : Fence} {n : Nat} {r : Rec} {ops : Array Oper} {Q : Exit → Act → World → Prop} (hW : Wd Fe) (hcs : CallSnd P w0 F r) (he : ExecSnd P w0 F r) : ∀ (l : List Oper) (k : Nat) (rest : List Nat), (∀ j, j < l.length → l[j]? = ops[k + j]?) →
    ∀ {E : Env} {H : Heap} {w : World} {f f' : Fr} {a : Act} {c c' : Nat} {H' : Heap} {L : Lg}, regionL P r ops l f c H = .ok f' c' H' L → FR E R f a → HR P w0 F E H w →
    (∀ E' a' w', E.le E' → HR P w0 F E' H' w' → FR E' R f' a' → wpOpsIn Fe n P ops Q rest a' w') → wpOpsIn Fe n P ops Q (List.range' k l.length ++ rest) a w
  | [], k, rest, _, E, H, w, f, f', a, c, c', H', L, h, hf, hr, hk => by
    obtain ⟨q1, q2, q3, _⟩ := pure_ok.1 h
    subst q1 q2 q3
    exact hk E a w E.le_refl hr hf
  | o :: l, k, rest, hl, E, H, w, f, f', a, c, c', H', L, h, hf, hr, hk => by
    have h0 : ops[k]? = some o := by have := hl 0 (by simp); simpa using this.symm
    replace h := bind_ok.1 h
    obtain ⟨f1, c1, h1, _, _, hst, h, _⟩ := h
    rw [List.length_cons, List.range'_succ, List.cons_append, wpOpsIn_cons]
    refine step_sound hW hcs he h0 hst hf hr fun E1 a1 w1 hle hr1 hf1 => ?_
    exact opsL_pre hW hcs he l (k + 1) rest (fun j hj => by have := hl (j + 1) (by rw [List.length_cons]; omega); simpa [Nat.add_assoc, Nat.add_comm 1 j] using this) h hf1 hr1 fun E' a' w' hle' hr' hf' => hk E' a' w' (Env.le_trans hle hle') hr' hf'
theorem region_yield [Den] [Asm] [AsmOK P] {Fe : Fence} {n : Nat} {r : Rec} {Q : Exit → Act → World → Prop} (hW : Wd Fe) (hcs : CallSnd P w0 F r) (he : ExecSnd P w0 F r) {id : Nat} {ops : Array Oper} {pre suf : List Oper} {o : Oper} (hops : ops.toList = pre ++ o :: suf) {cl : Call} {g : Operand} (ho : o.op = .call cl) (hcl : cl.callee = .value g) (hgd : o.guard = none) {k : List KI}
    {f f1 : Fr} {c c1 : Nat} {h h1 : Heap} {L L2 L3 : Lg} (hpre : regionL P r ops pre f c h = .ok f1 c1 h1 L) {yl : Nat} (hg : f1.eval g c1 h1 = .ok (.func (.yield yl) #[] #[]) c1 h1 L2) {elem : Value} (hargs : evalL f1 cl.args.toList c1 h1 = .ok [elem] c1 h1 L3)
    {E : Env} {a : Act} {w : World} (hf : FR E Fe.round f a) (hr : HR P w0 F E h w) {Rr : World → Ending → World → Prop}
    (hy : ∀ E1 w1, E.le E1 → HR P w0 F E1 h1 w1 → ∀ e xv, E1 yl = some e → VR E1 elem xv → YieldA Fe (n - 1) P e.blk #[xv] w1 (Rr w1))
    (hk : ∀ E1 a1 w1 e w2, E.le E1 → FR E1 Fe.round f1 a1 → HR P w0 F E1 h1 w1 → Rr w1 e w2 → ∃ v, e = .returned v ∧ wpOpsIn Fe n P ops (post Fe n P Q k) (List.range' (pre.length + 1) suf.length) (a1.put o.dst v) w2) :
    post Fe n P Q (.code (.region id ops false) :: k) .normal a w := by
  show (Code.region id ops false).wpIn Fe n P (post Fe n P Q k) a w
  refine wpIn_region ?_
  have hlen : ops.size = pre.length + (suf.length + 1) := by rw [← Array.length_toList, hops]; simp
  have hr1 : List.range ops.size = List.range' 0 pre.length ++ (pre.length :: List.range' (pre.length + 1) suf.length) := by
    rw [List.range_eq_range', hlen, ← List.range'_append_1, Nat.zero_add, List.range'_succ]
  rw [hr1]
  have hat : ∀ j, ops[j]? = (pre ++ o :: suf)[j]? := fun j => by rw [← hops, Array.getElem?_toList]
  refine opsL_pre hW hcs he pre 0 _ (fun j hj => by rw [hat, Nat.zero_add, List.getElem?_append_left hj]) hpre hf hr fun E1 a1 w1 hle hr1 hf1 => ?_
  rw [wpOpsIn_cons]
  unfold wpOpIn
  have ho1 : ops[pre.length]? = some o := by rw [hat, List.getElem?_append_right (Nat.le_refl _), Nat.sub_self]; rfl
  simp only [ho1]
  have hw : Region.wanted o (yielded ops a1.tmps) = true := by unfold Region.wanted; rw [hgd]
  rw [hw]
  simp only [if_true]
  have e1 := eval_sound hf1 hg
  obtain ⟨_, _, e2⟩ := evalL_sound hf1 hargs
  generalize hga : a1.eval g = gv at e1
  cases e1 with
  | yl hyl =>
    rename_i e
    obtain ⟨xv, vs, hvs, hxv, hl⟩ := e2.cons_inv
    have := hl.nil_inv
    subst this
    exact wp_yield hW ho hcl hga (args := #[xv]) (by apply Array.toList_inj.1; rw [Array.toList_map]; exact hvs) (hy E1 w1 hle hr1 e xv hyl hxv) fun e' w' hR => hk E1 a1 w1 e' w' hle hf1 hr1 hR
end
end Go.Sx
namespace Go.Sx
theorem VR0.agg_plain {E : Env} {l : List Value} {y : Value} (hl : l.all plainS = true) (h : VR0 E (.agg l.toArray) y) : y = .agg l.toArray := by
  cases h with
  | agg h1 h2 =>
    rename_i f'
    have hlen : l.length = f'.toList.length := h1
    have : f'.toList = l := by
      apply List.ext_getElem?
      intro k
      by_cases hk : k < l.length
      · have e1 : l[k]? = some l[k] := List.getElem?_eq_getElem hk
        have e2 : f'.toList[k]? = some f'.toList[k] := List.getElem?_eq_getElem (by omega)
        have h3 := h2 k _ _ e1 e2
        have hp : plainS l[k] = true := List.all_eq_true.1 hl _ (List.getElem_mem hk)
        rw [e1, e2]
        generalize l[k] = u at h3 hp ⊢
        generalize f'.toList[k] = v at h3 ⊢
        cases u <;> first | (simp [plainS] at hp; done) | (cases h3; rfl)
      · rw [List.getElem?_eq_none (by omega), List.getElem?_eq_none (by omega)]
    congr 1
    apply Array.toList_inj.1
    rw [this]
structure YPt where
  id : Nat
  ops : Array Oper
  pre : List Oper
  o : Oper
  suf : List Oper
  k : List KI
  cl : Call
  g : Operand
  f : Fr
  c : Nat
  h : Heap
  f1 : Fr
  c1 : Nat
  h1 : Heap
  yl : Nat
  elem : Value
noncomputable def stepY [Asm] (P : Program) (r : Rec) (m p : Nat) (x : Cfg) : Option YPt := match ksteps r m x with
  | some ⟨.code (.region id ops false) :: k, .normal, f, c, h⟩ => (match ops.toList.drop p with
    | o :: suf => (match o.op, o.guard with
      | .call cl, none => (match cl.callee with
        | .value g => (match regionL P r ops (ops.toList.take p) f c h with
          | .ok f1 c1 h1 _ => (match f1.eval g c1 h1, evalL f1 cl.args.toList c1 h1 with
            | .ok (.func (.yield yl) fs cs) _ _ _, .ok [elem] _ _ _ => (match fs.toList, cs.toList with
              | [], [] => some ⟨id, ops, ops.toList.take p, o, suf, k, cl, g, f, c, h, f1, c1, h1, yl, elem⟩
              | _, _ => none)
            | _, _ => none)
          | .bad _ => none)
        | _ => none)
      | _, _ => none)
    | [] => none)
  | _ => none
theorem evalL_ok {f : Fr} : ∀ {l : List Operand} {vs : List Value} {c : Nat} {h : Heap} {c' : Nat} {h' : Heap} {L : Lg}, evalL f l c h = .ok vs c' h' L → c' = c ∧ h' = h
  | [], vs, c, h, c', h', L, hh => by obtain ⟨_, rfl, rfl, _⟩ := pure_ok.1 hh; exact ⟨rfl, rfl⟩
  | x :: xs, vs, c, h, c', h', L, hh => by
    replace hh := beval hh
    obtain ⟨v, _, hv, hh⟩ := hh
    replace hh := bind_ok.1 hh
    obtain ⟨us, c1, h1, _, _, hu, hh, _⟩ := hh
    obtain ⟨e1, e2⟩ := evalL_ok hu
    obtain ⟨_, e3, e4, _⟩ := pure_ok.1 hh
    subst e1 e2 e3 e4
    exact ⟨rfl, rfl⟩
structure YPt.Ok [Asm] (P : Program) (r : Rec) (m : Nat) (x : Cfg) (z : YPt) : Prop where
  run : ksteps r m x = some ⟨.code (.region z.id z.ops false) :: z.k, .normal, z.f, z.c, z.h⟩
  ops : z.ops.toList = z.pre ++ z.o :: z.suf
  op : z.o.op = .call z.cl
  gd : z.o.guard = none
  cal : z.cl.callee = .value z.g
  pre : ∃ L, regionL P r z.ops z.pre z.f z.c z.h = .ok z.f1 z.c1 z.h1 L
  eg : ∃ L, z.f1.eval z.g z.c1 z.h1 = .ok (.func (.yield z.yl) #[] #[]) z.c1 z.h1 L
  ea : ∃ L, evalL z.f1 z.cl.args.toList z.c1 z.h1 = .ok [z.elem] z.c1 z.h1 L
theorem stepY_ok [Asm] {P : Program} {r : Rec} {m p : Nat} {x : Cfg} {z : YPt} (h : stepY P r m p x = some z) : z.Ok P r m x := by
  unfold stepY at h
  split at h
  · rename_i id ops k f c hh hrun
    split at h
    · rename_i o suf hdrop
      split at h
      · rename_i cl hop hgd
        split at h
        · rename_i g hcal
          split at h
          · rename_i f1 c1 h1 L hpre
            split at h
            · rename_i yl fs cs _ _ _ elem _ _ _ heg hea
              split at h
              · rename_i hfs hcs
                cases h
                have e1 : fs = #[] := by apply Array.toList_inj.1; rw [hfs]
                have e2 : cs = #[] := by apply Array.toList_inj.1; rw [hcs]
                subst e1 e2
                obtain ⟨q1, q2, _⟩ := eval_ok heg
                obtain ⟨q3, q4⟩ := evalL_ok hea
                subst q1 q2 q3 q4
                exact ⟨hrun, by rw [← hdrop, List.take_append_drop], hop, hgd, hcal, ⟨_, hpre⟩, ⟨_, heg⟩, ⟨_, hea⟩⟩
              · cases h
            · cases h
          · cases h
        · cases h
      · cases h
    · cases h
  · cases h
noncomputable def contY [Asm] (P : Program) (r : Rec) (m : Nat) (z : YPt) (b : Bool) (f : Fr) (c : Nat) (h : Heap) : Option Cfg := match regionL P r z.ops z.suf (f.put z.o.dst (.bool b)) c h with
  | .ok f2 c2 h2 _ => ksteps r m ⟨z.k, .normal, f2, c2, h2⟩
  | .bad _ => none
noncomputable def endL (P : Program) (g : FuncId) : Cfg → Option Unit
  | ⟨[], e, f, c, h⟩ => (match e, f.ds, nthL P.funcs.toList g with
    | .normal, [], some fn => (match resultsA P fn f c h with
      | .ok _ _ _ _ => some ()
      | .bad _ => none)
    | .ret, [], some fn => (match resultsA P fn f c h with
      | .ok _ _ _ _ => some ()
      | .bad _ => none)
    | _, _, _ => none)
  | _ => none
end Go.Sx
namespace Go.Sx
noncomputable def leafStep (d : Den) (P : Program) (asm : Asm) (gf : FuncId) (N m1 p m2 m3 : Nat) (fvM : FV) (slotsH : List Nat) (nH cH : Nat) (Ay : HL) (x : Cfg) : Option (Value × FV × Snap) := match @stepY asm P (@Sx.rec asm P (tblE noTbl []) N) m1 p x with
  | some z => bif Nat.beq z.yl 0 then (match @cv d [] DEP z.elem, @cvV d (idR Ay) z.f1.t (fvM.map (·.1)), (@contY asm P (@Sx.rec asm P (tblE noTbl []) N) m2 z true ⟨ofV fvM, nH, none, []⟩ cH (ofL Ay)).bind (@snap d (idR Ay) [] slotsH), (@contY asm P (@Sx.rec asm P (tblE noTbl []) N) m3 z false ⟨ofV fvM, nH, none, []⟩ cH (ofL Ay)).bind (endL P gf), z.f1.ro, z.f1.ds, Nat.beq z.f1.n nH with
    | some v, some V, some s, some _, none, [], true => some (v, V, s)
    | _, _, _, _, _, _, _ => none) else none
  | none => none
def isRow : AObj → Bool
  | .row _ _ _ => true
  | _ => false
theorem results_end {P : Program} {gf : FuncId} {fn : Func} {w0 : World} {F : Nat → Prop} [Den] {Fe : Fence} {n : Nat} {Rr : Ending → World → Prop} {z : Cfg} (hz : endL P gf z = some ()) (hfn : P.funcs[gf]? = some fn) {E : Env} {a : Act} {w : World} (hf : FR E Fe.round z.f a) (hr : HR P w0 F E z.h w) (hk : ∀ v, Rr (.returned v) w) :
    post Fe n P (bodyPostM Fe n P fn Rr) z.k z.e a w := by
  have hnth : nthL P.funcs.toList gf = some fn := by rw [nthL_eq, Array.getElem?_toList]; exact hfn
  obtain ⟨k, e, f, c, h⟩ := z
  cases k with
  | cons i k => cases hz
  | nil =>
    simp only [endL, hnth] at hz
    have core : ∀ {v : Value} {c' : Nat} {H' : Heap} {L : Lg}, f.ds = [] → resultsA P fn f c h = .ok v c' H' L → LeavesInM Fe n P fn a.tmps Rr a.defers .returning w := fun {v c' H' L} hds hR => by
      have hd := hf.defers
      simp only [hds] at hd
      have hnil : ∀ {D : List Deferred}, DsR E [] D → D = [] := fun h => by cases h; rfl
      rw [hnil hd]
      obtain ⟨_, _, v', q3, _⟩ := results_sound hf hr hR
      exact ⟨v', q3, hk v'⟩
    split at hz
    · rename_i hds hnn
      cases hnn
      split at hz
      · rename_i hR; exact core hds hR
      · cases hz
    · rename_i hds hnn
      cases hnn
      split at hz
      · rename_i hR; exact core hds hR
      · cases hz
    · cases hz
theorem noEnt (d : Den) (P : Program) : ∀ p ∈ ([] : List (FuncId × List Entry)), ∀ e ∈ p.2, @EntryOK d P p.1 e := fun p hp => by cases hp
theorem lkL_ne_none : ∀ {l : HL} {k : Nat}, k ∈ l.map (·.1) → lkL l k ≠ none
  | [], k, h => by cases h
  | (i, o) :: l, k, h => by
    simp only [lkL]
    cases hb : Nat.beq i k with
    | true => exact fun h => by cases h
    | false =>
      rcases List.mem_cons.1 h with h | h
      · simp only at h; subst h; rw [Nat.beq_refl] at hb; cases hb
      · exact lkL_ne_none h
theorem iter_leaf {P : Program} (hm : P.follows .mixedOrders = true) {gf : FuncId} (hc : callB P gf = true) {N : Nat} {xs : Nat → List Value} (hxs : ∀ k, (xs k).all plainS = true) {dL : Nat → Den} {A B : HL} {E0 : Env} {lb : Array Value} {lbA : List Value} {fvH fvM : FV} {kH : List KI} {nH cH Nf m0 m1 p m2 m3 m4 : Nat} {asmS asmA asmE : Asm}
    (hS : @AllOk (dL 0) P asmS.l ∧ @LdsOk (dL 0) P asmS.lds ∧ @AppsOk (dL 0) P asmS.apps) (hAa : ∀ k, k < N → @AllOk (dL k) P asmA.l ∧ @LdsOk (dL k) P asmA.lds ∧ @AppsOk (dL k) P asmA.apps) (hEe : @AllOk (dL N) P asmE.l ∧ @LdsOk (dL N) P asmE.lds ∧ @AppsOk (dL N) P asmE.apps)
    (hA0 : lkL A 0 = none) (hnd : (nodupB (A.map (·.1)) && (nodupB (((0, AObj.dead) :: A).map (·.1)) && injB (idR ((0, AObj.dead) :: A)))) = true) (hB : ∀ k, k ≤ N → @cvH (dL k) (idR A) [] (ofL A) (idR A) = some B) (hBrow : 0 < N → B.all (fun p => isRow p.2) = true) (hBid : B.map (·.1) = A.map (·.1))
    (hlb : ∀ (d : Den) (E : Env), (envTo (idR A) E0).le E → @LR d E lbA lb.toList)
    (h0 : (ksteps (@Sx.rec asmS P (tblE noTbl []) Nf) m0 (startC P gf (.func (.yield 0) #[] #[] :: lbA) cH ((0, .dead) :: A))).bind (@snap (dL 0) (idR ((0, .dead) :: A)) [] (fvH.map (·.1))) = @snap (dL 0) (idR ((0, .dead) :: A)) [] (fvH.map (·.1)) (headC kH .normal fvH nH cH ((0, .dead) :: A)))
    (h0s : (@snap (dL 0) (idR ((0, .dead) :: A)) [] (fvH.map (·.1)) (headC kH .normal fvH nH cH ((0, .dead) :: A))).isSome = true)
    (hstep : ∀ k, k < N → ∃ V s, leafStep (dL k) P asmA gf Nf m1 p m2 m3 fvM (fvH.map (·.1)) nH cH ((0, .dead) :: A) (headC kH .normal fvH nH cH ((0, .dead) :: A)) = some (.agg (xs k).toArray, V, s) ∧ @cvV (dL k) (idR ((0, .dead) :: A)) (ofV fvM) (fvM.map (·.1)) = some V ∧ @snap (dL (k + 1)) (idR ((0, .dead) :: A)) [] (fvH.map (·.1)) (headC kH .normal fvH nH cH ((0, .dead) :: A)) = some s)
    (hend : (ksteps (@Sx.rec asmE P (tblE noTbl []) Nf) m4 (headC kH .normal fvH nH cH ((0, .dead) :: A))).bind (endL P gf) = some ()) :
    Iter P gf lb N (fun k => .agg (xs k).toArray) (fun W => HR0 P W (fun _ => False) E0 (ofL B) W) := by
  intro Fe n l J Jx W hW hro hJ hJx hKf hKx hl hY hJ0
  obtain ⟨fn, code, hfn, hname, hb, hnth, hcode⟩ := callable_of hc
  simp only [Bool.and_eq_true] at hnd
  obtain ⟨nd1, nd2, nd3⟩ := hnd
  obtain ⟨Rr, hRr⟩ : ∃ Rr : Ending → World → Prop, Rr = fun e A' => (∃ v, e = .returned v) ∧ (J N A' ∨ ∃ k, k < N ∧ Jx k A') := ⟨_, rfl⟩
  rw [← hRr]
  obtain ⟨EA, hEA⟩ : ∃ EA, EA = (envTo (idR A) E0).upd 0 ⟨l, 0, 0⟩ := ⟨_, rfl⟩
  have hEA0 : EA 0 = some ⟨l, 0, 0⟩ := by rw [hEA]; simp [Env.upd]
  -- the world told from itself
  have told : ∀ k, k ≤ N → ∀ {W'}, HR0 P W' (fun _ => False) E0 (ofL B) W' → (envTo (idR A) E0).le EA ∧ @HR (dL k) P W' (fun _ => False) EA (ofL ((0, .dead) :: A)) W' := fun k hk {W'} h => by
    have h1 := @HR.vc P W' (fun _ => False) E0 W' (dL k) A B h nd1 (hB k hk)
    have h2 := @HR.addDead P W' (fun _ => False) _ (ofL A) W' (dL k) h1 0 ⟨l, 0, 0⟩ ((get_ofL A 0).trans hA0)
    rw [← hEA] at h2
    exact h2
  have kept : ∀ {W' w}, Keeps W' (fun _ => False) w → Grow W.heap.size W' w := fun h => Grow.of_keeps h
  have main : ∀ j k, k + j = N → ∀ W', J k W' → @GoodA (dL k) P W' (fun _ => False) Fe n (bodyPostM Fe n P fn Rr) (((0, AObj.dead) :: A).map (·.1)) EA (headC kH .normal fvH nH cH ((0, .dead) :: A)) := by
    intro j
    induction j with
    | zero =>
      intro k hk W' hJk
      have hkN : k = N := by omega
      subst hkN
      cases hrun : ksteps (@Sx.rec asmE P (tblE noTbl []) Nf) m4 (headC kH .normal fvH nH cH ((0, .dead) :: A)) with
      | none => rw [hrun] at hend; cases hend
      | some z =>
        rw [hrun] at hend
        have snd := @rec_sound P W' (fun _ => False) (dL k) asmE (@asmOK_of (dL k) P asmE.l asmE.lds asmE.apps hEe.1 hEe.2.1 hEe.2.2) hm _ (@tblE_snd P W' (fun _ => False) (dL k) _ (@noTbl_sound (dL k) P W' (fun _ => False)) _ (noEnt _ P)) Nf
        refine @ksteps_soundA P W' (fun _ => False) Fe n _ _ EA (dL k) _ snd.1 hW _ _ _ hrun ?_
        intro E a w ha hf hr
        refine @results_end P gf fn W' (fun _ => False) (dL k) Fe n Rr z hend hfn E a w hf hr fun v => ?_
        rw [hRr]
        exact ⟨⟨v, rfl⟩, .inl (hJ _ _ _ hJk (kept (@HR.keeps (dL k) _ _ _ _ _ _ hr)))⟩
    | succ j ih =>
      intro k hk W' hJk
      have hkN : k < N := by omega
      obtain ⟨V, s, hs1, hs2, hs3⟩ := hstep k hkN
      unfold leafStep at hs1
      split at hs1
      · rename_i z hz
        cases hyl : Nat.beq z.yl 0 with
        | false => rw [hyl] at hs1; cases hs1
        | true =>
        rw [hyl] at hs1
        simp only [cond_true] at hs1
        split at hs1
        · rename_i v V' s' u' helem hV hcT hcF hfro hfds hfn1
          cases hs1
          have hyl0 := beq_iff.1 hyl
          have hz := @stepY_ok asmA P _ _ _ _ _ hz
          obtain ⟨Lp, hpre⟩ := @YPt.Ok.pre asmA _ _ _ _ _ hz
          obtain ⟨Lg', heg⟩ := @YPt.Ok.eg asmA _ _ _ _ _ hz
          obtain ⟨La, hea⟩ := @YPt.Ok.ea asmA _ _ _ _ _ hz
          have hrun := @YPt.Ok.run asmA _ _ _ _ _ hz
          have aok : @AsmOK (dL k) P asmA := @asmOK_of (dL k) P asmA.l asmA.lds asmA.apps (hAa k hkN).1 (hAa k hkN).2.1 (hAa k hkN).2.2
          have snd := fun w0 => @rec_sound P w0 (fun _ => False) (dL k) asmA aok hm _ (@tblE_snd P w0 (fun _ => False) (dL k) _ (@noTbl_sound (dL k) P w0 (fun _ => False)) _ (noEnt _ P)) Nf
          refine @ksteps_soundA P W' (fun _ => False) Fe n _ _ EA (dL k) _ (snd W').1 hW _ _ _ hrun ?_
          intro E a w ha hf hr
          refine @region_yield P W' (fun _ => False) (dL k) asmA aok Fe n _ _ hW (snd W').2 (snd W').1 z.id z.ops z.pre z.suf z.o (@YPt.Ok.ops asmA _ _ _ _ _ hz) z.cl z.g (@YPt.Ok.op asmA _ _ _ _ _ hz) (@YPt.Ok.cal asmA _ _ _ _ _ hz) (@YPt.Ok.gd asmA _ _ _ _ _ hz) z.k z.f z.f1 z.c z.c1 z.h z.h1 Lp Lg' La hpre z.yl heg z.elem hea E a w hf hr (fun w1 => RoundP W.heap.size J Jx k w1) ?_ ?_
          · intro E1 w1 hle hr1 e xv hey hxv
            have hE1 : E1 0 = some ⟨l, 0, 0⟩ := hle _ _ (ha 0 List.mem_cons_self _ hEA0)
            rw [hyl0, hE1] at hey
            cases hey
            have hx0 := @VR.cv E1 (fun _ => none) [] (dL k) (fun a b h => by cases h) _ _ _ _ hxv helem
            rw [VR0.agg_plain (hxs k) hx0]
            exact hY k w1 (n - 1) hkN (hJ _ _ _ hJk (kept (@HR.keeps (dL k) _ _ _ _ _ _ hr1)))
          · intro E1 a1 w1 e w2 hle hf1 hr1 hR
            -- behind the call
            have hB2 : HR0 P w2 (fun _ => False) E0 (ofL B) w2 → (e = .returned (.bool true) ∨ e = .returned (.bool false)) → ∀ b, @FR (dL k) EA Fe.round (Fr.put ⟨ofV fvM, nH, none, []⟩ z.o.dst (.bool b)) (a1.put z.o.dst (.bool b)) := fun h0 _ b => by
              have hT1 := TR.swap (d1 := dL k) (d2 := dL k) (A := (0, .dead) :: A) (fv := fvM) (ro := none) (ds := []) (@FR.tr (dL k) _ _ _ _ hf1) nd3 hV hs2
              have hN : z.f1.n = nH := beq_iff.1 hfn1
              rw [hN] at hT1
              have hT2 : @TR (dL k) EA ⟨ofV fvM, nH, none, []⟩ a1.tmps := @TR.mono (dL k) _ _ _ _ hT1 (fun i x hi => by
                have hi1 := env_id i x hi
                have hin : i ∈ ((0, AObj.dead) :: A).map (·.1) := by
                  unfold envTo at hi
                  cases h1 : lk (idR ((0, AObj.dead) :: A)) i with
                  | none => rw [h1] at hi; cases hi
                  | some b0 =>
                    have := lk_mem h1
                    simp only [idR, List.mem_map] at this
                    obtain ⟨p, hp, hpe⟩ := this
                    simp only [Prod.mk.injEq] at hpe
                    exact List.mem_map.2 ⟨p, hp, hpe.1⟩
                -- what is there in EA is there in E1
                have hEAs : ∃ y, EA i = some y := by
                  rcases List.mem_cons.1 hin with rfl | hin2
                  · exact ⟨_, hEA0⟩
                  · have hbm : i ∈ B.map (·.1) := by rw [hBid]; exact hin2
                    obtain ⟨q, hq, hq2⟩ := List.mem_map.1 hbm
                    have hlk : ∃ o, lkL B i = some o := by
                      cases hx : lkL B i with
                      | some o => exact ⟨o, rfl⟩
                      | none =>
                        exfalso
                        exact absurd hx (lkL_ne_none (hq2 ▸ List.mem_map.2 ⟨q, hq, rfl⟩))
                    obtain ⟨o, ho⟩ := hlk
                    have hrow := List.all_eq_true.1 (hBrow (by omega)) _ (lkL_mem ho)
                    have hob := @HR.obj den0 _ _ _ _ _ _ h0 i o ((get_ofL B i).trans ho)
                    have hE0 : ∃ y, E0 i = some y := by
                      cases o with
                      | row T cs ro => obtain ⟨y, _, hy, _⟩ := hob; exact ⟨y, hy⟩
                      | _ => cases hrow
                    obtain ⟨y, hy⟩ := hE0
                    refine ⟨y, ?_⟩
                    have hne : i ≠ 0 := fun h => by
                      subst h
                      exact absurd hA0 (lkL_ne_none hin2)
                    rw [hEA]
                    unfold Env.upd
                    rw [if_neg hne]
                    unfold envTo
                    have : ∃ o', lkL A i = some o' := by
                      cases hx : lkL A i with
                      | some o => exact ⟨o, rfl⟩
                      | none => exact absurd hx (lkL_ne_none hin2)
                    obtain ⟨o', ho'⟩ := this
                    rw [lk_id_of_get ho']
                    exact hy
                obtain ⟨y, hy⟩ := hEAs
                have hE1 : E1 i = some y := hle _ _ (ha i hin _ hy)
                rw [hi1] at hE1
                cases hE1
                exact hy)
              have hro1 := @FR.ro (dL k) _ _ _ _ hf1
              have hds1 := @FR.defers (dL k) _ _ _ _ hf1
              rw [hfro] at hro1
              rw [hfds] at hds1
              have hnon : ∀ {R : Option Nat}, RoR E1 none R → R = none := fun h => by cases h; rfl
              have hnil : ∀ {D : List Deferred}, @DsR (dL k) E1 [] D → D = [] := fun h => by cases h; rfl
              have hf2 : @FR (dL k) EA Fe.round ⟨ofV fvM, nH, none, []⟩ a1 := @FR.mk (dL k) _ _ _ _ (by rw [hnil hds1]; exact @DsR.nil (dL k) _) (by rw [hnon hro1]; exact .none) hT2
              exact @FR.put EA Fe.round (dL k) _ _ _ _ hf2 (@VR.bool (dL k) _ b) z.o.dst
            have hsuf : ∀ j, z.suf[j]? = z.ops[z.pre.length + 1 + j]? := fun j => by
              rw [← Array.getElem?_toList, @YPt.Ok.ops asmA _ _ _ _ _ hz, List.getElem?_append_right (by omega), show z.pre.length + 1 + j - z.pre.length = j + 1 from by omega, List.getElem?_cons_succ]
            obtain ⟨_, hR⟩ := hR
            rcases hR with ⟨rfl, hJ2⟩ | ⟨rfl, hJ2⟩
            · refine ⟨_, rfl, ?_⟩
              have hk2 := hKf _ _ hJ2
              obtain ⟨_, hr2⟩ := told k (by omega) hk2
              have hf2 := hB2 hk2 (.inl rfl) true
              unfold contY at hcT
              split at hcT
              · rename_i f2 c2 h2 L2 hreg
                cases hrn : ksteps (@Sx.rec asmA P (tblE noTbl []) Nf) m2 ⟨z.k, .normal, f2, c2, h2⟩ with
                | none => rw [hrn] at hcT; cases hcT
                | some y =>
                  rw [hrn] at hcT
                  have G2 := @ksteps_soundA P w2 (fun _ => False) Fe n (bodyPostM Fe n P fn Rr) (((0, AObj.dead) :: A).map (·.1)) EA (dL k) _ (snd w2).1 hW _ _ _ hrn (GoodA.rebase (d1 := dL k) (d2 := dL (k + 1)) hcT hs3 (by
                    simp only [Bool.and_eq_true, List.all_eq_true]
                    refine ⟨⟨nd2, nd3⟩, fun i hi => ?_⟩
                    cases hlr : lkR (idR ((0, AObj.dead) :: A)) i with
                    | none =>
                      exfalso
                      obtain ⟨q, hq, rfl⟩ := List.mem_map.1 hi
                      have := lkR_of_mem (τ := idR ((0, AObj.dead) :: A)) (a := q.1) (b := q.1) (by
                        have := nd3; simp only [injB, Bool.and_eq_true] at this; exact this.2) (by unfold idR; exact List.mem_map.2 ⟨q, hq, rfl⟩)
                      rw [this] at hlr; cases hlr
                    | some a0 => rw [lkR_id hlr]; exact Nat.beq_refl i) (ih (k + 1) (by omega) w2 hJ2))
                  exact @regionL_sound P w2 (fun _ => False) Fe.round (dL k) asmA aok Fe n _ z.ops _ hW (snd w2).2 (snd w2).1 z.suf _ hsuf EA (ofL ((0, .dead) :: A)) w2 _ _ _ _ _ _ _ hreg hf2 hr2 fun E' a' w' hle' hr' hf' => G2 E' a' w' (fun i hi x hx => hle' _ _ hx) hf' hr'
              · cases hcT
            · refine ⟨_, rfl, ?_⟩
              have hk2 : HR0 P w2 (fun _ => False) E0 (ofL B) w2 := hKx _ _ hJ2
              obtain ⟨_, hr2⟩ := told k (by omega) hk2
              have hf2 := hB2 hk2 (.inr rfl) false
              unfold contY at hcF
              split at hcF
              · rename_i f2 c2 h2 L2 hreg
                cases hrn : ksteps (@Sx.rec asmA P (tblE noTbl []) Nf) m3 ⟨z.k, .normal, f2, c2, h2⟩ with
                | none => rw [hrn] at hcF; cases hcF
                | some y =>
                  rw [hrn] at hcF
                  have G2 : @GoodA (dL k) P w2 (fun _ => False) Fe n (bodyPostM Fe n P fn Rr) (((0, AObj.dead) :: A).map (·.1)) EA ⟨z.k, .normal, f2, c2, h2⟩ := @ksteps_soundA P w2 (fun _ => False) Fe n (bodyPostM Fe n P fn Rr) (((0, AObj.dead) :: A).map (·.1)) EA (dL k) _ (snd w2).1 hW _ _ _ hrn (fun E a w ha hf hr => @results_end P gf fn w2 (fun _ => False) (dL k) Fe n Rr y hcF hfn E a w hf hr fun v => by
                    rw [hRr]
                    exact ⟨⟨v, rfl⟩, .inr ⟨k, hkN, hJx _ _ _ hJ2 (kept (@HR.keeps (dL k) _ _ _ _ _ _ hr))⟩⟩)
                  exact @regionL_sound P w2 (fun _ => False) Fe.round (dL k) asmA aok Fe n _ z.ops _ hW (snd w2).2 (snd w2).1 z.suf _ hsuf EA (ofL ((0, .dead) :: A)) w2 _ _ _ _ _ _ _ hreg hf2 hr2 fun E' a' w' hle' hr' hf' => G2 E' a' w' (fun i hi x hx => hle' _ _ hx) hf' hr'
              · cases hcF
        · cases hs1
      · cases hs1
  -- the start
  have hk0 := hKf _ _ hJ0
  obtain ⟨hle0, hr0⟩ := told 0 (Nat.zero_le _) hk0
  have hargs : @LR (dL 0) EA (.func (.yield 0) #[] #[] :: lbA) (.func (.yield l) #[] #[] :: lb.toList) := @LR.cons (dL 0) _ _ _ _ _ (@VR.yl (dL 0) _ _ ⟨l, 0, 0⟩ hEA0) (hlb (dL 0) EA hle0)
  cases hrun : ksteps (@Sx.rec asmS P (tblE noTbl []) Nf) m0 (startC P gf (.func (.yield 0) #[] #[] :: lbA) cH ((0, .dead) :: A)) with
  | none => rw [hrun] at h0; rw [← h0] at h0s; cases h0s
  | some y =>
    rw [hrun] at h0
    obtain ⟨s, hs⟩ := Option.isSome_iff_exists.1 h0s
    rw [hs] at h0
    have snd := @rec_sound P W (fun _ => False) (dL 0) asmS (@asmOK_of (dL 0) P asmS.l asmS.lds asmS.apps hS.1 hS.2.1 hS.2.2) hm _ (@tblE_snd P W (fun _ => False) (dL 0) _ (@noTbl_sound (dL 0) P W (fun _ => False)) _ (noEnt _ P)) Nf
    have G0 := @ksteps_soundA P W (fun _ => False) Fe n (bodyPostM Fe n P fn Rr) (((0, AObj.dead) :: A).map (·.1)) EA (dL 0) _ snd.1 hW _ _ _ hrun (GoodA.rebase (d1 := dL 0) (d2 := dL 0) h0 hs (by
      simp only [Bool.and_eq_true, List.all_eq_true]
      refine ⟨⟨nd2, nd3⟩, fun i hi => ?_⟩
      cases hlr : lkR (idR ((0, AObj.dead) :: A)) i with
      | none =>
        exfalso
        obtain ⟨q, hq, rfl⟩ := List.mem_map.1 hi
        have := lkR_of_mem (τ := idR ((0, AObj.dead) :: A)) (a := q.1) (b := q.1) (by
          have := nd3; simp only [injB, Bool.and_eq_true] at this; exact this.2) (by unfold idR; exact List.mem_map.2 ⟨q, hq, rfl⟩)
        rw [this] at hlr; cases hlr
      | some a0 => rw [lkR_id hlr]; exact Nat.beq_refl i) (main N 0 (Nat.zero_add _) W hJ0))
    have hf0 := @init_frame (dL 0) _ _ _ hargs fn.ntmps
    have harr : (Value.func (.yield l) #[] #[] :: lb.toList).toArray = #[Value.func (.yield l) #[] #[]] ++ lb := by apply Array.toList_inj.1; simp
    rw [harr] at hf0
    have key := G0 EA { tmps := (#[Value.func (.yield l) #[] #[]] ++ lb) ++ Array.replicate (fn.ntmps - (#[Value.func (.yield l) #[] #[]] ++ lb).size) undef, defers := [] } W (fun i hi x hx => hx) (by
      unfold startC
      simp only [hnth]
      rw [hro]
      exact hf0) hr0
    have key2 : code.wpIn Fe n P (bodyPostM Fe n P fn Rr) { tmps := (#[Value.func (.yield l) #[] #[]] ++ lb) ++ Array.replicate (fn.ntmps - (#[Value.func (.yield l) #[] #[]] ++ lb).size) undef, defers := [] } W := by
      have : (startC P gf (.func (.yield 0) #[] #[] :: lbA) cH ((0, .dead) :: A)).k = [.code code] := by unfold startC; rw [hcode]
      rw [this] at key
      exact key
    exact callsIn_of_wp_marks (F := Fe) hfn hb (hW.1 gf) key2 hro
end Go.Sx
namespace Go.Sx
noncomputable def rngs : Code → List KI → List (Operand × Array Tmp × Code × Code × List KI)
  | .seq a b, k => rngs a (.code b :: k) ++ rngs b k
  | .block id b, k => rngs b (.blk id :: k)
  | .loop b, k => rngs b (.lp b :: k)
  | .cond _ a b, k => rngs a k ++ rngs b k
  | .scope b, k => rngs b (.scp :: k)
  | .rangeFunc g ps a b, k => [(g, ps, a, b, k)]
  | _, _ => []
noncomputable def rng (P : Program) (g n : Nat) : Operand × Array Tmp × Code × Code × List KI := ((rngs (codeOf P g) [])[n]?).getD (.const undef, #[], .skip, .skip, [])
theorem row_same {P : Program} {E : Env} {w w' : World} {i : Nat} {o : AObj} [Den] (ho : ObjR P E w i o) {e : EI} (he : E i = some e) (hrow : isRow o = true) (hs : w'.heap[e.blk]? = w.heap[e.blk]?) : ObjR P E w' i o := by
  cases o with
  | row T cs ro =>
    obtain ⟨e', cells, h1, h2, h3⟩ := ho
    rw [he] at h1; cases h1
    exact ⟨e, cells, he, h2.congr hs, h3⟩
  | _ => cases hrow
theorem HR0.mix {P : Program} {E0 E : Env} {B B2 : HL} {own : List Nat} {S : Nat} {w w' : World} (h1 : HR0 P w (fun _ => False) E (ofL B2) w) (h2 : HR0 P w' (fun _ => False) E0 (ofL B) w') (hle : ∀ i x, E0 i = some x → E i = some x)
    (hB : ∀ i o, lkL B2 i = some o → o = .dead ∨ (lkL B i = some o ∧ isRow o = true) ∨ (i ∈ own ∧ isRow o = true)) (hown : ∀ i ∈ own, ∀ e, E i = some e → S ≤ e.blk) (hk : Kept S w w') (hwr : ∀ i o, lkL B2 i = some o → writable o = false) :
    HR0 P w' (fun _ => False) E (ofL B2) w' := by
  refine @HR.mk den0 _ _ _ _ _ _ (Keeps.refl' _ _) (@HR.dom den0 _ _ _ _ _ _ h1) (fun i o hi => ?_) (@HR.inj den0 _ _ _ _ _ _ h1) (fun i o e hi hw _ => ?_)
  · have hob := @HR.obj den0 _ _ _ _ _ _ h1 i o hi
    have hi0 := hi
    rw [get_ofL] at hi
    rcases hB i o hi with rfl | ⟨hb, hrow⟩ | ⟨ho, hrow⟩
    · trivial
    · have h3 := @HR.obj den0 _ _ _ _ _ _ h2 i o ((get_ofL B i).trans hb)
      cases o with
      | row T cs ro =>
        obtain ⟨e, cells, g1, g2, g3⟩ := h3
        exact @ObjR.mono P w' den0 E0 E hle i (.row T cs ro) (fun h => by rw [g1] at h; cases h) ⟨e, cells, g1, g2, g3⟩
      | _ => cases hrow
    · have hE : ∃ e, E i = some e := by
        cases o with
        | row T cs ro => obtain ⟨e, _, h, _⟩ := hob; exact ⟨e, h⟩
        | _ => cases hrow
      obtain ⟨e, he⟩ := hE
      have hlive : live o = true := by cases o <;> first | rfl | cases hrow
      exact @row_same P E w w' i o den0 hob e he hrow (hk.2 _ (hown i ho e he) (@HR.blk_lt P w (fun _ => False) E (ofL B2) w den0 h1 i o e hi0 hlive he))
  · rw [get_ofL] at hi
    rw [hwr i o hi] at hw; cases hw
end Go.Sx
namespace Go.Sx
theorem HR.roBase [Den] {P : Program} {w0 w : World} {F : Nat → Prop} {E : Env} {H : Heap} (hr : HR P w0 F E H w) (hwr : ∀ i o, H.get i = some o → writable o = false) : HR P w (fun _ => False) E H w :=
  ⟨Keeps.refl' _ _, hr.dom, hr.obj, hr.inj, fun i o e h1 h2 _ => by rw [hwr i o h1] at h2; cases h2⟩
theorem HR.swapRo {P : Program} {w0 w : World} {F : Nat → Prop} {E : Env} {d1 d2 : Den} {H : Heap} {τ : Ren} {ros : List Nat} {A B : HL} (hr : @HR d1 P w0 F E H w) (hi : injB τ = true) (h1 : @cvH d1 τ ros H τ = some B) (h2 : @cvH d2 (idR A) [] (ofL A) (idR A) = some B) (hn : nodupB (A.map (·.1)) = true) :
    HR0 P w0 F (envOf τ E) (ofL B) w ∧ @HR d2 P w0 F (envTo (idR A) (envOf τ E)) (ofL A) w :=
  ⟨@HR.cv P w0 F E H w d1 hr τ ros B hi h1, @HR.vc P w0 F (envOf τ E) w d2 A B (@HR.cv P w0 F E H w d1 hr τ ros B hi h1) hn h2⟩
noncomputable def ownB (τ : Ren) (H : Heap) (own : List Nat) : Bool := own.all fun p => match lkR τ p with
  | some a => (match H.get a with
    | some o => writable o
    | none => false)
  | none => false
noncomputable def startN (d : Den) (P : Program) (asm : Asm) (ents : List (FuncId × List Entry)) (Nf m : Nat) (own : List Nat) (τ : Ren) (ros slots : List Nat) (x : Cfg) : Option Snap := match ksteps (@Sx.rec asm P (tblE noTbl ents) Nf) m x with
  | some y => bif ownB τ y.h own then @snap d τ ros slots y else none
  | none => none
noncomputable def nestStep (d : Den) (P : Program) (asm : Asm) (Nf m1 m2 p m3 m4 : Nat) (assign body : Code) (ps : List Tmp) (elem : Value) (y : Nat) (fvR fvA : FV) (nR cR cA : Nat) (τA : Ren) (rosA : List Nat) (A2y A3 : HL) : Option (Value × Value × HL × FV) :=
  match ksteps (@Sx.rec asm P (tblE noTbl []) Nf) m1 ⟨[.code assign], .normal, Fr.puts ⟨ofV fvR, nR, some y, []⟩ ps [elem], cR, (ofL A2y).set y .dead⟩ with
  | some ⟨[], .normal, f1, _, h1⟩ => (match @cvH d τA rosA h1 τA, @cvV d τA f1.t (fvA.map (·.1)), @stepY asm P (@Sx.rec asm P (tblE noTbl []) Nf) m2 p ⟨[.code body], .normal, ⟨ofV fvA, nR, some y, []⟩, cA, ofL A3⟩, f1.ro, f1.ds, Nat.beq f1.n nR with
    | some B3, some VA, some z, some y1, [], true => bif Nat.beq z.yl 0 && Nat.beq y1 y && Nat.beq z.f1.n nR then (match @contY asm P (@Sx.rec asm P (tblE noTbl []) Nf) m3 z true ⟨.nil, nR, some y, []⟩ cR ((ofL A2y).set y .dead), @contY asm P (@Sx.rec asm P (tblE noTbl []) Nf) m4 z false ⟨.nil, nR, some y, []⟩ cR ((ofL A2y).set y .dead), @cv d [] DEP elem, @cv d [] DEP z.elem, z.f1.ro, z.f1.ds with
      | some ⟨[], .normal, _, _, _⟩, some ⟨[], .ret, _, _, _⟩, some u, some v, some y2, [] => bif Nat.beq y2 y then some (u, v, B3, VA) else none
      | _, _, _, _, _, _ => none) else none
    | _, _, _, _, _, _ => none)
  | _ => none
end Go.Sx
namespace Go.Sx
theorem env_of_in {A : HL} {E : Env} {i : Nat} (h : i ∈ A.map (·.1)) : (envTo (idR A) E) i = E i := by
  cases hx : lkL A i with
  | none => exact absurd hx (lkL_ne_none h)
  | some o =>
    unfold envTo
    rw [lk_id_of_get hx]; rfl
theorem FR.of_ids [Den] {E : Env} {R : Option Nat} {f : Fr} {a : Act} (h : FR E R f a) (hds : f.ds = []) : a.defers = [] := by
  have h1 := h.defers
  rw [hds] at h1
  have hnil : ∀ {D : List Deferred}, DsR E [] D → D = [] := fun h => by cases h; rfl
  exact hnil h1
theorem clean_agg {l : List Value} (h : l.all plainS = true) : cleanB (.agg l.toArray) = true := by
  show l.all cleanS = true
  rw [List.all_eq_true] at h ⊢
  intro x hx
  have := h x hx
  cases x <;> first | rfl | (simp [plainS] at this)
section
variable {P : Program} {dK : Den} {asm : Asm} {Nf m1 m2 p m3 m4 : Nat} {assign body : Code} {ps : Array Tmp} {elem xv : Value} {y : Nat} {fvR fvA : FV} {nR cR cA : Nat} {τA : Ren} {rosA : List Nat} {A2y A3 B2 : HL} {V : FV}
theorem nest_round (hm : P.follows .mixedOrders = true) {l : List Value} (hl : l.all plainS = true) (hxv : xv = .agg l.toArray) (hok : @AllOk dK P asm.l ∧ @LdsOk dK P asm.lds ∧ @AppsOk dK P asm.apps) {VA : FV} {B3 : HL}
    (hst : nestStep dK P asm Nf m1 m2 p m3 m4 assign body ps.toList elem y fvR fvA nR cR cA τA rosA A2y A3 = some (xv, xv, B3, VA))
    (hA3 : @cvH dK (idR A3) [] (ofL A3) (idR A3) = some B3) (hVA : @cvV dK (idR A3) (ofV fvA) (fvA.map (·.1)) = some VA) (hA3n : (nodupB (A3.map (·.1)) && injB τA) = true) (hA3w : A3.all (fun q => !(writable q.2) && noCtl q.2) = true) (hA30 : lkR τA 0 = some 0) (hA3y : lkR τA y = some y) (hA3i : 0 ∈ A3.map (·.1) ∧ y ∈ A3.map (·.1))
    (hy2 : lkL A2y y = none) (hA2 : @cvH dK (idR A2y) [] (ofL A2y) (idR A2y) = some B2) (hA2n : nodupB (A2y.map (·.1)) = true) (hA2w : B2.all (fun q => !(writable q.2) && noCtl q.2) = true)
    {Fe : Fence} {n l1 l2 S S' : Nat} (hW : Wd Fe) {J Jx : Nat → World → Prop} {k : Nat} {E0 E2 : Env} {B : HL} {own : List Nat} {A : World} {rec2 : Loop} {fn : FuncId} {tmps : Array Value}
    (hJab : ∀ k A A', J k A → Grow S A A' → J k A') (hJxab : ∀ k A A', Jx k A → Grow S A A' → Jx k A') (hKf : ∀ k A, J k A → HR0 P A (fun _ => False) E0 (ofL B) A) (hKx : ∀ k A, Jx k A → HR0 P A (fun _ => False) E0 (ofL B) A)
    (hY : ∀ A m, J k A → YieldA Fe m P l1 #[xv] A (RoundP S J Jx k A))
    (hle : ∀ i x, E0 i = some x → E2 i = some x) (hB : ∀ i o, lkL B2 i = some o → o = .dead ∨ (lkL B i = some o ∧ isRow o = true) ∨ (i ∈ own ∧ isRow o = true)) (hown : ∀ i ∈ own, ∀ e, E2 i = some e → S ≤ e.blk) (hE20 : E2 0 = some ⟨l1, 0, 0⟩) (h0in : 0 ∈ A2y.map (·.1))
    (hS : S ≤ l2) (hS' : l2 < S') (hSS : S ≤ S') (hJ : J k A) (hr : HR0 P A (fun _ => False) E2 (ofL B2) A) (hl2 : A.heap[l2]? = some (.loop rec2)) (hst2 : rec2.state = .ready) (hpe2 : rec2.pending = none)
    (hT : @TR dK (envTo (idR A2y) E2) ⟨ofV fvR, nR, none, []⟩ tmps) (m : Nat) {Rr : Ending → World → Prop}
    (hk : ∀ b W', Kept S' A W' → Kept S A (W'.putObj l2 (.loop rec2)) → HR0 P W' (fun _ => False) E2 (ofL B2) W' →
      (b = true → J (k + 1) W' ∧ W'.heap[l2]? = some (.loop rec2)) → (b = false → Jx k W' ∧ W'.heap[l2]? = some (.loop { rec2 with state := .done, pending := some .ret })) → Rr (.returned (.bool b)) W') :
    RoundIn Fe m P l2 fn ((ps.zip #[xv]).foldl (fun t (p, v) => t.setIfInBounds p v) tmps) assign body A Rr := by
  have aok : @AsmOK dK P asm := @asmOK_of dK P asm.l asm.lds asm.apps hok.1 hok.2.1 hok.2.2
  have snd := fun w0 => @rec_sound P w0 (fun _ => False) dK asm aok hm _ (@tblE_snd P w0 (fun _ => False) dK _ (@noTbl_sound dK P w0 (fun _ => False)) _ (noEnt _ P)) Nf
  have hWl : Wd (Fe.inRound l2) := hW
  have hno2 : ∀ i o, (ofL B2).get i = some o → writable o = false ∧ noCtl o = true := fun i o h => by
    rw [get_ofL] at h
    have := List.all_eq_true.1 hA2w _ (lkL_mem h)
    simpa using this
  have hno3 : ∀ i o, (ofL A3).get i = some o → writable o = false ∧ noCtl o = true := fun i o h => by
    rw [get_ofL] at h
    have := List.all_eq_true.1 hA3w _ (lkL_mem h)
    simpa using this
  -- the iterator's objects under these symbols, with its own loop's block
  have told : ∀ {W'}, HR0 P W' (fun _ => False) E2 (ofL B2) W' → (envTo (idR A2y) E2).le ((envTo (idR A2y) E2).upd y ⟨l2, 0, 0⟩) ∧ @HR dK P W' (fun _ => False) ((envTo (idR A2y) E2).upd y ⟨l2, 0, 0⟩) ((ofL A2y).set y .dead) W' := fun {W'} h =>
    @HR.addDead P W' (fun _ => False) _ (ofL A2y) W' dK (@HR.vc P W' (fun _ => False) E2 W' dK A2y B2 h hA2n hA2) y ⟨l2, 0, 0⟩ ((get_ofL A2y y).trans hy2)
  have hEy : ((envTo (idR A2y) E2).upd y ⟨l2, 0, 0⟩) y = some ⟨l2, 0, 0⟩ := by simp [Env.upd]
  obtain ⟨hleY, hrY⟩ := told hr
  refine roundIn_of_wpIn (hW.1 _) ?_
  unfold nestStep at hst
  split at hst
  · rename_i f1 c1 h1 hrun1
    split at hst
    · rename_i B3' VA' z y1 hB3 hVA3 hz hro1 hds1 hn1
      cases hcc : (Nat.beq z.yl 0 && Nat.beq y1 y && Nat.beq z.f1.n nR) with
      | false => rw [hcc] at hst; cases hst
      | true =>
      rw [hcc] at hst
      simp only [cond_true] at hst
      simp only [Bool.and_eq_true] at hcc
      obtain ⟨⟨hyl0, hy1⟩, hzn⟩ := hcc
      have hyl0 := beq_iff.1 hyl0
      have hy1 := beq_iff.1 hy1
      have hzn := beq_iff.1 hzn
      subst hy1
      split at hst
      · rename_i fT cT hT' fF cF hF' u v y2 hcT hcF helem hzelem hzro hzds
        cases hy2' : Nat.beq y2 y1 with
        | false => rw [hy2'] at hst; cases hst
        | true =>
        rw [hy2'] at hst
        simp only [cond_true, Option.some.injEq, Prod.mk.injEq] at hst
        obtain ⟨e1, e2, e3, e4⟩ := hst
        rw [e1] at helem
        rw [e2] at hzelem
        rw [e3] at hB3
        rw [e4] at hVA3
        have hy2' := beq_iff.1 hy2'
        subst hy2'
        -- the assignment
        have hf0 : @FR dK ((envTo (idR A2y) E2).upd y2 ⟨l2, 0, 0⟩) (Fe.inRound l2).round ⟨ofV fvR, nR, some y2, []⟩ { tmps := tmps, defers := [] } :=
          @FR.mk dK _ _ _ _ (@DsR.nil dK _) (.some hEy) (by
            have h2 := @TR.mono dK _ _ _ _ hT hleY
            have e1 : tmps.size = nR := @TR.size dK _ _ _ h2
            exact @TR.mk dK _ _ _ e1 (fun k v hk => @TR.val dK _ _ _ h2 k v hk))
        have hargs : @LR dK ((envTo (idR A2y) E2).upd y2 ⟨l2, 0, 0⟩) [elem] [xv] :=
          @LR.cons dK _ _ _ _ _ (@VR.vc _ (fun _ => none) [] dK (fun a b h => by cases h) _ _ _ _ (VR0.clean (by rw [hxv]; exact clean_agg hl)) helem) (@LR.nil dK _)
        have hf1 := @FR.puts ((envTo (idR A2y) E2).upd y2 ⟨l2, 0, 0⟩) (Fe.inRound l2).round dK ps.toList [elem] [xv] ⟨ofV fvR, nR, some y2, []⟩ tmps [] hf0 hargs
        have hfold : (ps.toList.zip [xv]).foldl (fun t (p : Tmp × Value) => t.setIfInBounds p.1 p.2) tmps = (ps.zip #[xv]).foldl (fun t (p, v) => t.setIfInBounds p v) tmps := by
          rw [← Array.foldl_toList, Array.toList_zip]
        rw [hfold] at hf1
        have hl2lt : l2 < A.heap.size := (Array.getElem?_eq_some_iff.1 hl2).1
        refine @ksteps_soundA P A (fun _ => False) (Fe.inRound l2) m (Exit.then (fun a₁ w₁ => ∃ w₂, (Instr.beginRound l2).run P w₁ = .ok () w₂ ∧ body.wpIn (Fe.inRound l2) m P (roundPost P l2 Rr) a₁ w₂) (fun _ _ _ => False)) [0, y2] ((envTo (idR A2y) E2).upd y2 ⟨l2, 0, 0⟩) dK _ (snd A).1 hWl _ _ _ hrun1 ?_ _ _ _ (fun i hi x hx => hx) hf1 hrY
        intro E1 a1 w1 ha1 hf1' hr1
        have hk1 := @HR.keeps dK _ _ _ _ _ _ hr1
        have hg1 : ∀ {S}, Grow S A w1 := fun {S} => Grow.of_keeps hk1
        have hl1' : w1.heap[l2]? = some (.loop rec2) := (hk1.block l2 hl2lt (fun f => f)).trans hl2
        refine ⟨_, run_beginRound hl1' hst2, ?_⟩
        simp only [Bool.and_eq_true] at hA3n
        obtain ⟨_, hr3⟩ := HR.swapRo (d1 := dK) (d2 := dK) hr1 hA3n.2 hB3 hA3 hA3n.1
        have hr4 := @HR.turnB P _ _ _ (ofL A3) w1 dK hr3 (fun i o h => (hno3 i o h).2) l2 _ hl1' rfl (.loop { rec2 with state := .busy })
        have hr5 := @HR.roBase dK P _ _ _ _ (ofL A3) hr4 (fun i o h => (hno3 i o h).1)
        have hg2 : Grow S w1 (w1.putObj l2 (.loop { rec2 with state := .busy })) := Grow.put _ hS hl1' rfl
        have hl2' : (w1.putObj l2 (.loop { rec2 with state := .busy })).heap[l2]? = some (.loop { rec2 with state := .busy }) := World.putObj_heap_same (Array.getElem?_eq_some_iff.1 hl1').1
        have hoth2 : ∀ b, b ≠ l2 → (w1.putObj l2 (.loop { rec2 with state := .busy })).heap[b]? = w1.heap[b]? := fun b hb => World.putObj_heap_other hb
        have hsz2 : (w1.putObj l2 (.loop { rec2 with state := .busy })).heap.size = w1.heap.size := World.putObj_size
        generalize w1.putObj l2 (.loop { rec2 with state := .busy }) = w2 at hr5 hg2 hl2' hoth2 hsz2 ⊢
        -- the frame behind the assignment
        have hE3 : ∀ i, i = 0 ∨ i = y2 → ∀ x, ((envTo (idR A2y) E2).upd y2 ⟨l2, 0, 0⟩) i = some x → (envTo (idR A3) (envOf τA E1)) i = some x := fun i hi x hx => by
          have h1 := ha1 i (by rcases hi with rfl | rfl <;> simp) x hx
          have hin : i ∈ A3.map (·.1) := by
            rcases hi with rfl | rfl
            · exact hA3i.1
            · exact hA3i.2
          rw [env_of_in hin]
          have hlr : lkR τA i = some i := by
            rcases hi with rfl | rfl
            · exact hA30
            · exact hA3y
          unfold envOf
          rw [hlr]
          exact h1
        have hT3 := TR.swap (d1 := dK) (d2 := dK) (A := A3) (fv := fvA) (ro := some y2) (ds := []) (@FR.tr dK _ _ _ _ hf1') hA3n.2 hVA3 hVA
        rw [beq_iff.1 hn1] at hT3
        have hds1' := @FR.of_ids dK _ _ _ _ hf1' hds1
        have hf3 : @FR dK (envTo (idR A3) (envOf τA E1)) (Fe.inRound l2).round ⟨ofV fvA, nR, some y2, []⟩ a1 := @FR.mk dK _ _ _ _ (by rw [hds1']; exact @DsR.nil dK _) (.some (hE3 y2 (.inr rfl) _ hEy)) hT3
        have hz := @stepY_ok asm P _ _ _ _ _ hz
        obtain ⟨Lp, hpre⟩ := @YPt.Ok.pre asm _ _ _ _ _ hz
        obtain ⟨Lg', heg⟩ := @YPt.Ok.eg asm _ _ _ _ _ hz
        obtain ⟨La, hea⟩ := @YPt.Ok.ea asm _ _ _ _ _ hz
        have hrunz := @YPt.Ok.run asm _ _ _ _ _ hz
        refine @ksteps_soundA P w2 (fun _ => False) (Fe.inRound l2) m (roundPost P l2 Rr) [0, y2] (envTo (idR A3) (envOf τA E1)) dK _ (snd w2).1 hWl _ _ _ hrunz ?_ _ _ _ (fun i hi x hx => hx) hf3 hr5
        intro E4 a4 w4 ha4 hf4 hr4'
        have hE0y : ((envTo (idR A2y) E2).upd y2 ⟨l2, 0, 0⟩) 0 = some ⟨l1, 0, 0⟩ := by
          unfold Env.upd
          by_cases h : (0 : Nat) = y2
          · exfalso
            rw [← h] at hy2
            exact absurd hy2 (lkL_ne_none h0in)
          · rw [if_neg h, env_of_in h0in]; exact hE20
        refine @region_yield P w2 (fun _ => False) dK asm aok (Fe.inRound l2) m _ _ hWl (snd w2).2 (snd w2).1 z.id z.ops z.pre z.suf z.o (@YPt.Ok.ops asm _ _ _ _ _ hz) z.cl z.g (@YPt.Ok.op asm _ _ _ _ _ hz) (@YPt.Ok.cal asm _ _ _ _ _ hz) (@YPt.Ok.gd asm _ _ _ _ _ hz) z.k z.f z.f1 z.c z.c1 z.h z.h1 Lp Lg' La hpre z.yl heg z.elem hea E4 a4 w4 hf4 hr4' (fun w3 e w => (∃ Wp, Grow S w2 w3 ∧ Wp = w3) ∧ Keeps w2 (fun _ => False) w3 ∧ RoundP S J Jx k w3 e w) ?_ ?_
        · intro E5 w5 hle5 hr5' e xv' hey hxv'
          have hE5 : E5 0 = some ⟨l1, 0, 0⟩ := hle5 _ _ (ha4 0 (by simp) _ (hE3 0 (.inl rfl) _ hE0y))
          rw [hyl0, hE5] at hey
          cases hey
          have hx0 := @VR.cv E5 (fun _ => none) [] dK (fun a b h => by cases h) _ _ _ _ hxv' hzelem
          have hxe : xv' = xv := by
            rw [hxv] at hx0
            rw [hxv]
            exact VR0.agg_plain hl hx0
          rw [hxe]
          have hk5 := @HR.keeps dK _ _ _ _ _ _ hr5'
          have hJ5 : J k w5 := hJab _ _ _ (hJab _ _ _ (hJab _ _ _ hJ hg1) hg2) (Grow.of_keeps hk5)
          obtain ⟨gfn, gt, ga, gb, g1, g2⟩ := hY w5 (m - 1) hJ5
          exact ⟨gfn, gt, ga, gb, g1, RoundIn.mono g2 fun e w h => ⟨⟨_, Grow.of_keeps hk5, rfl⟩, hk5, h⟩⟩
        · intro E5 a5 w5 e w6 hle5 hf5 hr5' hR
          obtain ⟨_, hk5, hkept, hR⟩ := hR
          have hl5 : w5.heap[l2]? = some (.loop { rec2 with state := .busy }) := (hk5.block l2 (Array.getElem?_eq_some_iff.1 hl2').1 (fun f => f)).trans hl2'
          have hl6 : w6.heap[l2]? = some (.loop { rec2 with state := .busy }) := (hkept.2 l2 hS (Array.getElem?_eq_some_iff.1 hl5).1).trans hl5
          have hrA5 : HR0 P w5 (fun _ => False) E2 (ofL B2) w5 := by
            have g1 := @HR.roBase den0 P _ _ _ _ (ofL B2) (@HR.grow P A (fun _ => False) E2 (ofL B2) A w1 den0 A.heap.size hr (fun i o h => (hno2 i o h).2) (Nat.le_refl _) hg1) (fun i o h => (hno2 i o h).1)
            have h0 : HR0 P { w1 with heap := #[] } (fun _ => True) E2 (ofL B2) w1 :=
              @HR.mk den0 _ _ _ _ _ _ ⟨rfl, rfl, rfl, Nat.zero_le _, fun k hk => absurd hk (Nat.not_lt_zero _)⟩ (@HR.dom den0 _ _ _ _ _ _ g1) (@HR.obj den0 _ _ _ _ _ _ g1) (@HR.inj den0 _ _ _ _ _ _ g1) fun _ _ _ _ _ _ => .inr trivial
            have g2 := @HR.grow P _ _ E2 (ofL B2) w1 w2 den0 0 h0 (fun i o h => (hno2 i o h).2) (Nat.le_refl _) (hg2.mono (Nat.zero_le _))
            have g3 := @HR.roBase den0 P _ _ _ _ (ofL B2) g2 (fun i o h => (hno2 i o h).1)
            have g4 := @HR.grow P w2 (fun _ => False) E2 (ofL B2) w2 w5 den0 w2.heap.size g3 (fun i o h => (hno2 i o h).2) (Nat.le_refl _) (Grow.of_keeps hk5)
            exact @HR.roBase den0 P _ _ _ _ (ofL B2) g4 (fun i o h => (hno2 i o h).1)
          have hKf6 : HR0 P w6 (fun _ => False) E0 (ofL B) w6 := by
            rcases hR with ⟨_, h⟩ | ⟨_, h⟩
            · exact hKf _ _ h
            · exact hKx _ _ h
          have hr6 : HR0 P w6 (fun _ => False) E2 (ofL B2) w6 := HR0.mix hrA5 hKf6 hle hB hown hkept (fun i o h => (hno2 i o ((get_ofL B2 i).trans h)).1)
          obtain ⟨_, hr6Y⟩ := told hr6
          -- sizes
          have hsA : A.heap.size ≤ w6.heap.size := Nat.le_trans (Nat.le_trans hk1.size (Nat.le_trans (by rw [hsz2]; exact Nat.le_refl _) hk5.size)) hkept.1
          have hsame6 : ∀ b, S ≤ b → b < A.heap.size → b ≠ l2 → w6.heap[b]? = A.heap[b]? := fun b h1 h2 h3 => by
            have q1 : b < w1.heap.size := Nat.lt_of_lt_of_le h2 hk1.size
            have q2 : b < w2.heap.size := by rw [hsz2]; exact q1
            have q5 : b < w5.heap.size := Nat.lt_of_lt_of_le q2 hk5.size
            rw [hkept.2 b h1 q5, hk5.block b q2 (fun f => f), hoth2 b h3, hk1.block b h2 (fun f => f)]
          have hds5 := @FR.of_ids dK _ _ _ _ hf5 hzds
          have hsz5 : a5.tmps.size = nR := (@FR.size E5 _ dK _ _ hf5).trans hzn
          have hfb : ∀ b, @FR dK ((envTo (idR A2y) E2).upd y2 ⟨l2, 0, 0⟩) (Fe.inRound l2).round (Fr.put ⟨.nil, nR, some y2, []⟩ z.o.dst (.bool b)) (a5.put z.o.dst (.bool b)) := fun b => by
            have h0 : @FR dK ((envTo (idR A2y) E2).upd y2 ⟨l2, 0, 0⟩) (Fe.inRound l2).round ⟨.nil, nR, some y2, []⟩ a5 := @FR.mk dK _ _ _ _ (by rw [hds5]; exact @DsR.nil dK _) (.some hEy) (@TR.mk dK _ _ _ hsz5 (fun k v hk => by simp [Tr.get] at hk))
            exact @FR.put _ _ dK _ _ _ _ h0 (@VR.bool dK _ b) z.o.dst
          have hsuf : ∀ j, z.suf[j]? = z.ops[z.pre.length + 1 + j]? := fun j => by
            rw [← Array.getElem?_toList, @YPt.Ok.ops asm _ _ _ _ _ hz, List.getElem?_append_right (by omega), show z.pre.length + 1 + j - z.pre.length = j + 1 from by omega, List.getElem?_cons_succ]
          -- behind the body
          have hfin : ∀ (w7 : World) (jump : Option Code), Keeps w6 (fun _ => False) w7 → (jump = none → J (k + 1) w6) → (jump.isSome = true → jump = some .ret ∧ Jx k w6) →
              ∃ v w', (Instr.endRound l2 jump).run P w7 = .ok v w' ∧ Rr (.returned v) w' := fun w7 jump hk7 hj1 hj2 => by
            have hl7 : w7.heap[l2]? = some (.loop { rec2 with state := .busy }) := (hk7.block l2 (Array.getElem?_eq_some_iff.1 hl6).1 (fun f => f)).trans hl6
            refine ⟨_, _, run_endRound jump hl7, ?_⟩
            have hgP : ∀ o', Grow S w7 (w7.putObj l2 o') := fun o' => Grow.put o' hS hl7 rfl
            have hg67 : Grow S w6 w7 := Grow.of_keeps hk7
            have hsame : ∀ o' b, S ≤ b → b < A.heap.size → b ≠ l2 → (w7.putObj l2 o').heap[b]? = A.heap[b]? := fun o' b h1 h2 h3 => by
              rw [World.putObj_heap_other h3, hk7.block b (Nat.lt_of_lt_of_le h2 hsA) (fun f => f)]
              exact hsame6 b h1 h2 h3
            have hr7 : ∀ o', HR0 P (w7.putObj l2 o') (fun _ => False) E2 (ofL B2) (w7.putObj l2 o') := fun o' => by
              have g1 := @HR.grow P w6 (fun _ => False) E2 (ofL B2) w6 w7 den0 w6.heap.size hr6 (fun i o h => (hno2 i o h).2) (Nat.le_refl _) (Grow.of_keeps hk7)
              have g2 := @HR.turnB P _ _ E2 (ofL B2) w7 den0 g1 (fun i o h => (hno2 i o h).2) l2 _ hl7 rfl o'
              exact @HR.roBase den0 P _ _ _ _ (ofL B2) g2 (fun i o h => (hno2 i o h).1)
            have hszP : ∀ o', A.heap.size ≤ (w7.putObj l2 o').heap.size := fun o' => by rw [World.putObj_size]; exact Nat.le_trans hsA hk7.size
            refine hk _ _ ⟨hszP _, fun b h1 h2 => hsame _ b (by omega) h2 (by omega)⟩ ⟨by rw [World.putObj_size]; exact hszP _, fun b h1 h2 => ?_⟩ (hr7 _) (fun hb => ?_) (fun hb => ?_)
            · by_cases hbl : b = l2
              · subst hbl
                rw [hl2]
                exact World.putObj_heap_same (by rw [World.putObj_size]; exact (Array.getElem?_eq_some_iff.1 hl7).1)
              · rw [World.putObj_heap_other hbl]; exact hsame _ b h1 h2 hbl
            · cases jump with
              | some c => cases hb
              | none =>
                refine ⟨hJab _ _ _ (hJab _ _ _ (hj1 rfl) hg67) (hgP _), ?_⟩
                rw [World.putObj_heap_same (Array.getElem?_eq_some_iff.1 hl7).1]
                have hlr : ({ ({ rec2 with state := .busy } : Loop) with state := if (none : Option Code).isNone then .ready else .done, pending := none } : Loop) = rec2 := by
                  cases rec2
                  simp only at hst2 hpe2
                  subst hst2 hpe2
                  rfl
                rw [hlr]
            · cases jump with
              | none => cases hb
              | some c =>
                obtain ⟨hc, hjx⟩ := hj2 rfl
                cases hc
                refine ⟨hJxab _ _ _ (hJxab _ _ _ hjx hg67) (hgP _), ?_⟩
                rw [World.putObj_heap_same (Array.getElem?_eq_some_iff.1 hl7).1]
                rfl
          rcases hR with ⟨rfl, hJ6⟩ | ⟨rfl, hJ6⟩
          · refine ⟨_, rfl, ?_⟩
            unfold contY at hcT
            split at hcT
            · rename_i f2 c2 h2 L2 hreg
              refine @regionL_sound P w6 (fun _ => False) (Fe.inRound l2).round dK asm aok (Fe.inRound l2) m _ z.ops _ hWl (snd w6).2 (snd w6).1 z.suf _ hsuf _ _ w6 _ _ _ _ _ _ _ hreg (hfb true) hr6Y fun E' a' w' hle' hr' hf' => ?_
              refine @ksteps_soundA P w6 (fun _ => False) (Fe.inRound l2) m (roundPost P l2 Rr) [] E' dK _ (snd w6).1 hWl _ _ _ hcT ?_ _ _ _ (fun i hi x hx => by cases hi) hf' hr'
              intro E7 a7 w7 _ hf7 hr7
              exact hfin w7 none (@HR.keeps dK _ _ _ _ _ _ hr7) (fun _ => hJ6) (fun h => by cases h)
            · cases hcT
          · refine ⟨_, rfl, ?_⟩
            unfold contY at hcF
            split at hcF
            · rename_i f2 c2 h2 L2 hreg
              refine @regionL_sound P w6 (fun _ => False) (Fe.inRound l2).round dK asm aok (Fe.inRound l2) m _ z.ops _ hWl (snd w6).2 (snd w6).1 z.suf _ hsuf _ _ w6 _ _ _ _ _ _ _ hreg (hfb false) hr6Y fun E' a' w' hle' hr' hf' => ?_
              refine @ksteps_soundA P w6 (fun _ => False) (Fe.inRound l2) m (roundPost P l2 Rr) [] E' dK _ (snd w6).1 hWl _ _ _ hcF ?_ _ _ _ (fun i hi x hx => by cases hi) hf' hr'
              intro E7 a7 w7 _ hf7 hr7
              exact hfin w7 (some .ret) (@HR.keeps dK _ _ _ _ _ _ hr7) (fun h => by cases h) (fun _ => ⟨rfl, hJ6⟩)
            · cases hcF
      · cases hst
    · cases hst
  · cases hst
end
end Go.Sx
namespace Go.Sx
noncomputable def resN (P : Program) (gf : FuncId) (n : Nat) : Option Value := match nthL P.funcs.toList gf with
  | some fn => (match resultsA P fn ⟨.nil, n, none, []⟩ 0 .nil with
    | .ok v _ _ _ => some v
    | .bad _ => none)
  | none => none
theorem iter_nest {P : Program} (hm : P.follows .mixedOrders = true) {gf gi : FuncId} (hc : callB P gf = true) (hci : callB P gi = true) {N : Nat} {xs : Nat → List Value} (hxs : ∀ k, (xs k).all plainS = true) {dS : Den} {dR : Nat → Den} {A A2y A3 B B2 : HL} {E0 : Env} {lb lbI : Array Value} {lbA : List Value} {fvR fvA V : FV} {b nR cR cA Nf m0 m1 m2 p m3 m4 y : Nat} {asmS asmR : Asm} {entsS : List (FuncId × List Entry)} {gop : Operand} {ps : Array Tmp} {assign body : Code} {own : List Nat} {τ τA : Ren} {ros rosA : List Nat} {elem : Value}
    (hS : @AllOk dS P asmS.l ∧ @LdsOk dS P asmS.lds ∧ @AppsOk dS P asmS.apps ∧ @EntsOK dS P entsS) (hR : ∀ k, k < N → @AllOk (dR k) P asmR.l ∧ @LdsOk (dR k) P asmR.lds ∧ @AppsOk (dR k) P asmR.apps)
    (hA0 : lkL A 0 = none) (hnd : (nodupB (A.map (·.1)) && nodupB (A2y.map (·.1)) && injB (idR A2y) && injB τ) = true) (hBs : @cvH dS (idR A) [] (ofL A) (idR A) = some B) (hBid : B.map (·.1) = A.map (·.1))
    (hlb : ∀ (d : Den) (E : Env), (envTo (idR A) E0).le E → @LR d E lbA lb.toList)
    (h0 : startN dS P asmS entsS Nf m0 own τ ros (fvR.map (·.1)) (startC P gf (.func (.yield 0) #[] #[] :: lbA) cR ((0, .dead) :: A)) = some ⟨.code (.rangeFunc gop ps assign body) :: [.blk b], .normal, nR, B2, V⟩)
    (hA2 : ∀ k, k ≤ N → @cvH (dR k) (idR A2y) [] (ofL A2y) (idR A2y) = some B2) (hV : ∀ k, k ≤ N → @cvV (dR k) (idR A2y) (ofV fvR) (fvR.map (·.1)) = some V)
    (hτ : (((0, AObj.dead) :: A).all fun q => match lkR τ q.1 with
      | some a => Nat.beq a q.1
      | none => false) = true)
    (hB2w : B2.all (fun q => !(writable q.2) && noCtl q.2) = true) (hmix : 0 < N → ∀ i o, lkL B2 i = some o → o = .dead ∨ (lkL B i = some o ∧ isRow o = true) ∨ (i ∈ own ∧ isRow o = true))
    (h0in : 0 ∈ A2y.map (·.1)) (hps : ps.size = 1) (hval : ∀ c h, (Fr.eval ⟨ofV fvR, nR, none, []⟩ gop c h : R Value) = .ok (.func (.func gi) #[] lbI) c h .nil)
    (hstep : ∀ k, k < N → ∃ VA B3, nestStep (dR k) P asmR Nf m1 m2 p m3 m4 assign body ps.toList elem y fvR fvA nR cR cA τA rosA A2y A3 = some (.agg (xs k).toArray, .agg (xs k).toArray, B3, VA) ∧ @cvH (dR k) (idR A3) [] (ofL A3) (idR A3) = some B3 ∧ @cvV (dR k) (idR A3) (ofV fvA) (fvA.map (·.1)) = some VA)
    (hA3n : (nodupB (A3.map (·.1)) && injB τA) = true) (hA3w : A3.all (fun q => !(writable q.2) && noCtl q.2) = true) (hA30 : lkR τA 0 = some 0) (hA3y : lkR τA y = some y) (hA3i : 0 ∈ A3.map (·.1) ∧ y ∈ A3.map (·.1)) (hy2 : lkL A2y y = none)
    (hres : (resN P gf nR).isSome = true)
    (hit : ∀ (E2 : Env) (w : World) (lb' : Array Value), @LR (dR 0) (envTo (idR A2y) E2) lbI.toList lb'.toList → HR0 P w (fun _ => False) E2 (ofL B2) w → ∃ Kf, Iter P gi lb' N (fun k => .agg (xs k).toArray) Kf ∧ ∀ A', HR0 P A' (fun _ => False) E2 (ofL B2) A' → Kf A') :
    Iter P gf lb N (fun k => .agg (xs k).toArray) (fun W => HR0 P W (fun _ => False) E0 (ofL B) W) := by
  intro Fe n l J Jx W hW hro hJ hJx hKf hKx hl hY hJ0
  obtain ⟨fn, code, hfn, hname, hb, hnth, hcode⟩ := callable_of hc
  simp only [Bool.and_eq_true] at hnd
  obtain ⟨⟨⟨nd1, nd2⟩, nd3⟩, nd4⟩ := hnd
  obtain ⟨Rr, hRr⟩ : ∃ Rr : Ending → World → Prop, Rr = fun e A' => (∃ v, e = .returned v) ∧ (J N A' ∨ ∃ k, k < N ∧ Jx k A') := ⟨_, rfl⟩
  rw [← hRr]
  obtain ⟨EA, hEA⟩ : ∃ EA, EA = (envTo (idR A) E0).upd 0 ⟨l, 0, 0⟩ := ⟨_, rfl⟩
  have hEA0 : EA 0 = some ⟨l, 0, 0⟩ := by rw [hEA]; simp [Env.upd]
  have hK0 := hKf _ _ hJ0
  have h1 := @HR.vc P W (fun _ => False) E0 W dS A B hK0 nd1 hBs
  obtain ⟨hleA, hr0⟩ := @HR.addDead P W (fun _ => False) _ (ofL A) W dS h1 0 ⟨l, 0, 0⟩ ((get_ofL A 0).trans hA0)
  rw [← hEA] at hleA hr0
  have hno2 : ∀ i o, (ofL B2).get i = some o → writable o = false ∧ noCtl o = true := fun i o h => by
    rw [get_ofL] at h
    have := List.all_eq_true.1 hB2w _ (lkL_mem h)
    simpa using this
  have hargs : @LR dS EA (.func (.yield 0) #[] #[] :: lbA) (.func (.yield l) #[] #[] :: lb.toList) := @LR.cons dS _ _ _ _ _ (@VR.yl dS _ _ ⟨l, 0, 0⟩ hEA0) (hlb dS EA hleA)
  unfold startN at h0
  split at h0
  · rename_i yc hrun
    cases hown : ownB τ yc.h own with
    | false => rw [hown] at h0; cases h0
    | true =>
    rw [hown] at h0
    simp only [cond_true] at h0
    have snd := @rec_sound P W (fun _ => False) dS asmS (@asmOK_of dS P asmS.l asmS.lds asmS.apps hS.1 hS.2.1 hS.2.2.1) hm _ (@tblE_snd P W (fun _ => False) dS _ (@noTbl_sound dS P W (fun _ => False)) _ (@EntsOK.all dS P _ hS.2.2.2)) Nf
    have G0 : @GoodA dS P W (fun _ => False) Fe n (bodyPostM Fe n P fn Rr) (((0, AObj.dead) :: A).map (·.1)) EA yc := by
      obtain ⟨yk, ye, ⟨yt, yn, yro, yds⟩, ycc, yh⟩ := yc
      intro E a w ha hf hr
      simp only [snap] at h0
      cases yro with
      | some l => cases h0
      | none =>
      cases yds with
      | cons q qs => cases h0
      | nil =>
      simp only at h0
      split at h0
      · rename_i B2' V' hB2 hV2
        simp only [Option.some.injEq, Snap.mk.injEq] at h0
        obtain ⟨e1, e2, e3, e4, e5⟩ := h0
        subst e1 e2 e3 e4 e5
        obtain ⟨hr2, hr3⟩ := HR.swapRo (d1 := dS) (d2 := dR 0) hr nd4 hB2 (hA2 0 (Nat.zero_le _)) nd2
        have hrw : HR0 P w (fun _ => False) (envOf τ E) (ofL B2') w := @HR.roBase den0 P _ _ _ _ (ofL B2') hr2 (fun i o h => (hno2 i o h).1)
        have hτi : ∀ i, i ∈ ((0, AObj.dead) :: A).map (·.1) → lkR τ i = some i := fun i hi => by
          obtain ⟨q, hq, rfl⟩ := List.mem_map.1 hi
          have := List.all_eq_true.1 hτ q hq
          cases hx : lkR τ q.1 with
          | none => rw [hx] at this; cases this
          | some a0 => rw [hx] at this; rw [beq_iff.1 this]
        have hE20 : envOf τ E 0 = some ⟨l, 0, 0⟩ := by
          unfold envOf
          rw [hτi 0 List.mem_cons_self]
          exact ha 0 List.mem_cons_self _ hEA0
        have hle : ∀ i x, E0 i = some x → envOf τ E i = some x := fun i x hi => by
          have hin : i ∈ A.map (·.1) := by
            have := @HR.dom den0 _ _ _ _ _ _ hK0 i x hi
            rw [get_ofL] at this
            rw [← hBid]
            cases hx : lkL B i with
            | none => exact absurd hx this
            | some o => exact List.mem_map.2 ⟨_, lkL_mem hx, rfl⟩
          have hne : i ≠ 0 := fun h => by subst h; exact absurd hA0 (lkL_ne_none hin)
          have hEi : EA i = some x := by
            rw [hEA]; unfold Env.upd
            rw [if_neg hne, env_of_in hin]; exact hi
          unfold envOf
          rw [hτi i (List.mem_cons_of_mem _ hin)]
          exact ha i (List.mem_cons_of_mem _ hin) _ hEi
        have hownE : ∀ i ∈ own, ∀ e, envOf τ E i = some e → W.heap.size ≤ e.blk := fun i hi e he => by
          unfold ownB at hown
          have hw := List.all_eq_true.1 hown i hi
          unfold envOf at he
          cases hx : lkR τ i with
          | none => rw [hx] at hw; cases hw
          | some a0 =>
            rw [hx] at hw he
            simp only at hw
            cases hy : yh.get a0 with
            | none => rw [hy] at hw; cases hw
            | some o =>
              rw [hy] at hw
              exact (@HR.own dS _ _ _ _ _ _ hr a0 o e hy hw he).elim id (fun f => f.elim)
        have hkw := @HR.keeps dS _ _ _ _ _ _ hr
        have hT0 : @TR (dR 0) (envTo (idR A2y) (envOf τ E)) ⟨ofV fvR, yn, none, []⟩ a.tmps := TR.swap (d1 := dS) (d2 := dR 0) (f := ⟨yt, yn, none, []⟩) (@FR.tr dS _ _ _ _ hf) nd4 hV2 (hV 0 (Nat.zero_le _))
        have hTk : ∀ k, k ≤ N → @TR (dR k) (envTo (idR A2y) (envOf τ E)) ⟨ofV fvR, yn, none, []⟩ a.tmps := fun k hk =>
          @TR.mono (dR k) _ _ _ _ (TR.swap (d1 := dR 0) (d2 := dR k) (A := A2y) (f := ⟨ofV fvR, yn, none, []⟩) hT0 nd3 (hV 0 (Nat.zero_le _)) (hV k hk)) env_id
        have hdef : a.defers = [] := @FR.of_ids dS _ _ _ _ hf rfl
        have hfR : @FR (dR 0) (envTo (idR A2y) (envOf τ E)) Fe.round ⟨ofV fvR, yn, none, []⟩ a := @FR.mk (dR 0) _ _ _ _ (by rw [hdef]; exact @DsR.nil (dR 0) _) (by rw [hro]; exact .none) hT0
        show (Code.rangeFunc gop ps assign body).wpIn Fe n P (post Fe n P (bodyPostM Fe n P fn Rr) [.blk b]) a w
        refine wpIn_rangeFunc fun fn' hfn' => ?_
        have hgv := @eval_sound _ Fe.round (dR 0) _ a hfR gop _ _ _ _ _ _ (hval 0 .nil)
        generalize hga : a.eval gop = gv at hgv
        have hgv : ∃ cs : Array Value, gv = .func (.func gi) #[] cs ∧ @LR (dR 0) (envTo (idR A2y) (envOf τ E)) lbI.toList cs.toList := by
          cases hgv with
          | fn hf1 p1 hc1 p2 =>
            rename_i fs cs
            have : fs = #[] := by
              have : fs.toList.length = 0 := hf1.symm
              apply Array.toList_inj.1
              exact List.eq_nil_of_length_eq_zero this
            subst this
            exact ⟨cs, rfl, hc1, p2⟩
        obtain ⟨cs, rfl, hcs⟩ := hgv
        obtain ⟨gfn, gcode, hgfn, hgname, hgbody, _, _⟩ := callable_of hci
        obtain ⟨E2, hE2⟩ : ∃ E2, E2 = envOf τ E := ⟨_, rfl⟩
        rw [← hE2] at hrw hE20 hle hownE hT0 hTk hfR hcs
        obtain ⟨rec2, hrec⟩ : ∃ r : Loop, r = { state := .ready, pending := none, fn := fn', tmps := a.tmps, params := ps, assign, body, defers := w.heap.size } := ⟨_, rfl⟩
        obtain ⟨W1, hW1⟩ : ∃ W1, W1 = (w.alloc (.deferred (some []))).alloc (.loop rec2) := ⟨_, rfl⟩
        have hsz1 : W1.heap.size = w.heap.size + 2 := by rw [hW1, World.size_alloc, World.size_alloc]
        have hgrow : ∀ {S}, Grow S w W1 := fun {S} => by rw [hW1]; exact (Grow.alloc _ _).trans (Grow.alloc _ _)
        have hL1 : W1.heap[w.heap.size + 1]? = some (.loop rec2) := by
          rw [hW1]; have := World.alloc_heap_new (w.alloc (.deferred (some []))) (.loop rec2); rwa [World.size_alloc] at this
        have hD1 : W1.heap[w.heap.size]? = some (.deferred (some [])) := by
          rw [hW1]
          have h1 := World.alloc_heap_new w (.deferred (some []))
          rcases (Grow.alloc (B := (w.alloc (.deferred (some []))).heap.size) (w.alloc (.deferred (some []))) (.loop rec2)).block w.heap.size (by rw [World.size_alloc]; omega) with h | h
          · rw [h]; exact h1
          · have := h.1; rw [World.size_alloc] at this; omega
        have henter := run_enterLoop_outer (P := P) (w := w) fn' a.tmps ps assign body
        rw [← hrec, ← hW1] at henter
        have hWw := hkw.size
        obtain ⟨Kf', hIt, hKf'⟩ := hit E2 w cs hcs hrw
        have growR : ∀ {B' A' A''}, HR0 P A' (fun _ => False) E2 (ofL B2') A' → Grow B' A' A'' → HR0 P A'' (fun _ => False) E2 (ofL B2') A'' := fun {B' A' A''} h1 h2 => by
          have h0 : HR0 P { A' with heap := #[] } (fun _ => True) E2 (ofL B2') A' :=
            @HR.mk den0 _ _ _ _ _ _ ⟨rfl, rfl, rfl, Nat.zero_le _, fun k hk => absurd hk (Nat.not_lt_zero _)⟩ (@HR.dom den0 _ _ _ _ _ _ h1) (@HR.obj den0 _ _ _ _ _ _ h1) (@HR.inj den0 _ _ _ _ _ _ h1) fun _ _ _ _ _ _ => .inr trivial
          exact @HR.roBase den0 P _ _ _ _ (ofL B2') (@HR.grow P _ _ _ _ _ _ den0 0 h0 (fun i o h => (hno2 i o h).2) (Nat.le_refl _) (h2.mono (Nat.zero_le _))) (fun i o h => (hno2 i o h).1)
        obtain ⟨J', hJ'⟩ : ∃ J' : Nat → World → Prop, J' = fun k A' => J k A' ∧ HR0 P A' (fun _ => False) E2 (ofL B2') A' ∧ A'.heap[w.heap.size + 1]? = some (.loop rec2) ∧ A'.heap[w.heap.size]? = some (.deferred (some [])) := ⟨_, rfl⟩
        obtain ⟨Jx', hJx'⟩ : ∃ J' : Nat → World → Prop, J' = fun k A' => Jx k A' ∧ HR0 P A' (fun _ => False) E2 (ofL B2') A' ∧ A'.heap[w.heap.size + 1]? = some (.loop { rec2 with state := .done, pending := some .ret }) ∧ A'.heap[w.heap.size]? = some (.deferred (some [])) := ⟨_, rfl⟩
        have hst2 : rec2.state = .ready := by rw [hrec]
        have hpe2 : rec2.pending = none := by rw [hrec]
        have hJ1 : J' 0 W1 := by
          rw [hJ']
          exact ⟨hJ _ _ _ (hJ _ _ _ hJ0 (Grow.of_keeps hkw)) hgrow, growR (B' := 0) hrw hgrow, hL1, hD1⟩
        have hcall := hIt Fe (n - 1) (w.heap.size + 1) J' Jx' W1 hW hro (fun k A' A'' h hg => by
            rw [hJ'] at h ⊢
            obtain ⟨h1, h2, h3, h4⟩ := h
            exact ⟨hJ _ _ _ h1 (hg.mono (by omega)), growR h2 hg, hg.same h3 (.inl (by omega)), hg.same h4 (.inl (by omega))⟩) (fun k A' A'' h hg => by
            rw [hJx'] at h ⊢
            obtain ⟨h1, h2, h3, h4⟩ := h
            exact ⟨hJx _ _ _ h1 (hg.mono (by omega)), growR h2 hg, hg.same h3 (.inl (by omega)), hg.same h4 (.inl (by omega))⟩)
          (fun k A' h => by rw [hJ'] at h; exact hKf' _ h.2.1) (fun k A' h => by rw [hJx'] at h; exact hKf' _ h.2.1) (by omega) (fun k A' m hk h => by
            rw [hJ'] at h
            obtain ⟨g1, g2, g3, g4⟩ := h
            obtain ⟨VA, B3, s1, s2, s3⟩ := hstep k hk
            have hy := run_yield (P := P) (args := #[Value.agg (xs k).toArray]) g3 (by rw [hrec]; exact hps.symm)
            refine ⟨_, _, _, _, hy, ?_⟩
            rw [hrec]
            simp only
            rw [← hrec] at *
            refine nest_round (n := 0) (S' := W1.heap.size) hm (hxs k) rfl (hR k hk) s1 s2 s3 hA3n hA3w hA30 hA3y hA3i hy2 (hA2 k (by omega)) nd2 hB2w hW hJ hJx hKf hKx (fun A m hJA => hY k A m hk hJA) hle (hmix (by omega)) hownE hE20 h0in (by omega) (by omega) (by omega) g1 g2 g3 hst2 hpe2 (hTk k (by omega)) m fun bb W' q1 q2 q3 q4 q5 => ?_
            have hD : W'.heap[w.heap.size]? = some (.deferred (some [])) := by
              have h1 := q2.2 w.heap.size (by omega) (Array.getElem?_eq_some_iff.1 g4).1
              rw [World.putObj_heap_other (by omega)] at h1
              exact h1.trans g4
            refine ⟨q1, ?_⟩
            cases bb with
            | true =>
              obtain ⟨z1, z2⟩ := q4 rfl
              refine .inl ⟨rfl, ?_⟩
              rw [hJ']
              exact ⟨z1, q3, z2, hD⟩
            | false =>
              obtain ⟨z1, z2⟩ := q5 rfl
              refine .inr ⟨rfl, ?_⟩
              rw [hJx']
              exact ⟨z1, q3, z2, hD⟩) hJ1
        refine ⟨w.heap.size + 1, [mkD w.heap.size], W1, { target := .fn (.func gi) cs, args := #[.func (.yield (w.heap.size + 1)) #[] #[]] }, W1, gi, #[.func (.yield (w.heap.size + 1)) #[] #[]] ++ cs, W1, by rw [hro]; exact henter, ?_, fun f' _ => hW.1 f', ?_, (fun hd => by rw [hW.2] at hd; cases hd), ?_⟩
        · simp only [resolve, hga, Deferred.ofValue, Sem.run_pure]
          simp [Act.eval]
        · simp only [invoke, callFunc, Sem.run_bind, run_program, Result.andThen_ok, hgfn, hgname, hgbody]
          simp
        · -- behind the range
          have hend : ∀ (W2 : World) (rc : Loop), W2.heap[w.heap.size + 1]? = some (.loop rc) → rc.state ≠ .busy → W2.heap[w.heap.size]? = some (.deferred (some [])) → (∀ W3, Grow W.heap.size W2 W3 → ∀ v, Rr (.returned v) W3) →
              ∃ W3, (Instr.endLoop (w.heap.size + 1)).run P W2 = .ok rc.pending W3 ∧ LeavesInM Fe n P fn a.tmps Rr ([mkD w.heap.size] ++ a.defers) .returning W3 := fun W2 rc hl3 hbz hd3 hk => by
            refine ⟨_, run_endLoop (P := P) hl3 hbz, ?_⟩
            rw [hdef]
            have hg3 : Grow W.heap.size W2 (W2.putObj (w.heap.size + 1) (.loop { rc with state := .exhausted })) := Grow.put _ (by omega) hl3 rfl
            refine leaves_marks (B := W.heap.size) [w.heap.size] _ (fun D hD => ?_) (by simp) fun w' hg => ?_
            · obtain rfl : D = w.heap.size := by simpa using hD
              exact ⟨hWw, (World.putObj_heap_other (by omega)).trans hd3⟩
            · unfold resN at hres
              rw [hnth] at hres
              simp only at hres
              split at hres
              case h_2 => cases hres
              rename_i v cv' Hv Lv hv
              have hsz : a.tmps.size = yn := @TR.size (dR 0) _ _ _ hT0
              have hfr : @FR den0 (fun _ => none) none ⟨.nil, yn, none, []⟩ { a with defers := [] } := @FR.mk den0 _ _ _ _ (@DsR.nil den0 _) .none (@TR.mk den0 _ _ _ hsz (fun k v hk => by simp [Tr.get] at hk))
              have hhr : HR0 P w' (fun _ => False) (fun _ => none) (ofL []) w' := @HR.mk den0 _ _ _ _ _ _ (Keeps.refl' _ _) (fun i x h => by cases h) (fun i o h => by rw [get_ofL] at h; cases h) (fun i j o p x z _ hi _ _ _ _ hx _ => by cases hx) (fun i o x _ _ h => by cases h)
              obtain ⟨_, _, v', q3, _⟩ := @results_sound P w' (fun _ => False) (fun _ => none) (ofL []) w' none den0 fn _ _ hfr hhr v _ _ _ _ hv
              exact ⟨v', q3, hk w' (hg3.trans hg) v'⟩
          refine hcall.mono fun e W2 ⟨⟨v, hv⟩, hjj⟩ => ?_
          subst hv
          rcases hjj with hjj | ⟨k, hk, hjj⟩
          · rw [hJ'] at hjj
            obtain ⟨g1, g2, g3, g4⟩ := hjj
            obtain ⟨W3, h3, h4⟩ := hend W2 rec2 g3 (by rw [hst2]; simp) g4 (fun W3 hg v => by rw [hRr]; exact ⟨⟨v, rfl⟩, .inl (hJ _ _ _ g1 hg)⟩)
            rw [hpe2] at h3
            exact ⟨none, W3, h3, h4⟩
          · rw [hJx'] at hjj
            obtain ⟨g1, g2, g3, g4⟩ := hjj
            obtain ⟨W3, h3, h4⟩ := hend W2 _ g3 (by simp) g4 (fun W3 hg v => by rw [hRr]; exact ⟨⟨v, rfl⟩, .inr ⟨k, hk, hJx _ _ _ g1 hg⟩⟩)
            exact ⟨some .ret, W3, h3, wpIn_ret h4⟩
      · cases h0
    have hargs2 := hargs
    have hf0 := @init_frame dS _ _ _ hargs2 fn.ntmps
    have harr : (Value.func (.yield l) #[] #[] :: lb.toList).toArray = #[Value.func (.yield l) #[] #[]] ++ lb := by apply Array.toList_inj.1; simp
    rw [harr] at hf0
    have key := @ksteps_soundA P W (fun _ => False) Fe n (bodyPostM Fe n P fn Rr) (((0, AObj.dead) :: A).map (·.1)) EA dS _ snd.1 hW _ _ _ hrun G0 EA { tmps := (#[Value.func (.yield l) #[] #[]] ++ lb) ++ Array.replicate (fn.ntmps - (#[Value.func (.yield l) #[] #[]] ++ lb).size) undef, defers := [] } W (fun i hi x hx => hx) (by
      unfold startC
      simp only [hnth]
      rw [hro]
      exact hf0) hr0
    have key2 : code.wpIn Fe n P (bodyPostM Fe n P fn Rr) { tmps := (#[Value.func (.yield l) #[] #[]] ++ lb) ++ Array.replicate (fn.ntmps - (#[Value.func (.yield l) #[] #[]] ++ lb).size) undef, defers := [] } W := by
      have : (startC P gf (.func (.yield 0) #[] #[] :: lbA) cR ((0, .dead) :: A)).k = [.code code] := by unfold startC; rw [hcode]
      rw [this] at key
      exact key
    exact callsIn_of_wp_marks (F := Fe) hfn hb (hW.1 gf) key2 hro
  · cases h0
end Go.Sx

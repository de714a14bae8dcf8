import Derived.Test.YtpennfojidpmeaaSx16
import Derived.Below
namespace Go.Sx
section
variable {P : Program} {w0 : World} {F : Nat → Prop}

theorem args_get (vs : List Value) : ∀ (t : Tr Value) (k j : Nat), (Fr.args t k vs).get j = (if k ≤ j ∧ j < k + vs.length then vs[j - k]? else t.get j) := by
  induction vs with
  | nil => intro t k j; simp only [Fr.args, List.length_nil, Nat.add_zero]; rw [if_neg (by omega)]
  | cons v vs ih =>
    intro t k j
    simp only [Fr.args, ih, List.length_cons, Tr.get_set]
    by_cases h1 : k + 1 ≤ j ∧ j < k + 1 + vs.length
    · rw [if_pos h1, if_pos (by omega)]
      rw [show j - k = (j - (k + 1)) + 1 from by omega, List.getElem?_cons_succ]
    · rw [if_neg h1]
      by_cases h2 : j = k
      · subst h2
        rw [if_pos rfl, if_pos (by omega)]; simp
      · rw [if_neg h2, if_neg (by omega)]
theorem init_frame [Den] {E : Env} {args args' : List Value} (h : LR E args args') (ntmps : Nat) :
    FR E none (Fr.init args (args.length + (ntmps - args.length))) { tmps := args'.toArray ++ Array.replicate (ntmps - args'.toArray.size) undef, defers := [] } := by
  have hl := h.len
  refine ⟨.nil, .none, ?_, fun k v hk => ?_⟩
  · simp [Fr.init, hl]
  · simp only [Fr.init, args_get, Nat.zero_le, true_and, Nat.zero_add, Nat.sub_zero] at hk ⊢
    by_cases hlt : k < args.length
    · rw [if_pos hlt] at hk
      obtain ⟨y, hy, hv⟩ := h.get hk
      have hlt' : k < args'.length := by omega
      refine ⟨by omega, ?_⟩
      rw [Array.getD_eq_getD_getElem?, Array.getElem?_append_left (by simpa using hlt')]
      have : args'.toArray[k]? = some y := by simpa using hy
      rw [this]; exact hv
    · rw [if_neg hlt] at hk
      cases hk

/-- What is asked of a table of summaries. -/
def TblSnd [Den] (P : Program) (w0 : World) (F : Nat → Prop) (tbl : Tbl) : Prop := ∀ g m, tbl g = some m → (∀ args, Local (m args)) ∧
  ∀ args c H v c' H' L, m args c H = .ok v c' H' L → Callable P g ∧
  ∀ E w args', HR P w0 F E H w → LR E args args' → ∀ Fe n, Wd Fe → CallsIn Fe n P g args'.toArray w (fun e w' => ∃ v' E', e = .returned v' ∧ E.le E' ∧ HR P w0 F E' H' w' ∧ VR E' v v')

theorem leaves_sound [Den] {Fe : Fence} {n : Nat} {fn : Func} {tmps : Array Value} {Rr : Ending → World → Prop} {E : Env} {H1 : Heap} {c1 : Nat} : ∀ {is : List Nat} {ds : List Deferred} {H : Heap} {w : World} {c : Nat} {u : Unit} {L : Lg},
    takeL is c H = .ok u c1 H1 L → HR P w0 F E H w → DsR E is ds → (∀ w1, HR P w0 F E H1 w1 → ∃ v, (results fn tmps).run P w1 = .ok v w1 ∧ Rr (.returned v) w1) → LeavesInM Fe n P fn tmps Rr ds .returning w
  | [], ds, H, w, c, u, L, h, hr, hd, hk => by
    obtain ⟨_, q2, q3, _⟩ := pure_ok.1 h
    subst q2 q3
    cases hd
    exact hk w hr
  | i :: is, ds, H, w, c, u, L, h, hr, hd, hk => by
    replace h := bind_ok.1 h
    obtain ⟨u2, c2, h2, _, _, ht, h, _⟩ := h
    cases hd with
    | cons he hd =>
      rename_i e ds
      unfold takeA at ht
      split at ht
      · rename_i hi
        cases ht
        obtain ⟨e', k1, k2⟩ := hr.obj i _ hi
        rw [he] at k1; cases k1
        have hr2 : HR P w0 F E (H.set i .dead) (w.putObj e.blk (.deferred none)) :=
          hr.turn hi rfl rfl he rfl rfl rfl World.putObj_size (fun b hb => World.putObj_heap_other hb) trivial
        exact ⟨by simp, .inl ⟨e.blk, _, rfl, run_takeDeferred k2, leaves_sound h hr2 hd hk⟩⟩
      · cases ht

theorem callS_sound [Den] {tbl : Tbl} {r : Rec} (ht : TblSnd P w0 F tbl) (he : ExecSnd P w0 F r) : CallSnd P w0 F ⟨r.exec, callS P tbl r⟩ := by
  intro g args c H v c' H' L h
  dsimp only at h
  unfold callS at h
  cases hm : tbl g with
  | some m => rw [hm] at h; exact (ht g m hm).2 args c H v c' H' L h
  | none =>
    rw [hm] at h
    simp only [nthL_eq, Array.getElem?_toList] at h
    cases hfn : P.funcs[g]? with
    | none => rw [hfn] at h; exact (bad_ok.1 h).elim
    | some fn =>
      rw [hfn] at h
      simp only at h
      cases hname : (fn.name == "runtime.NumGoroutine") with
      | true => rw [hname] at h; simp only [cond_true] at h; exact (bad_ok.1 h).elim
      | false =>
        rw [hname] at h
        simp only [cond_false] at h
        cases hb : fn.body with
        | none => rw [hb] at h; exact (bad_ok.1 h).elim
        | some code =>
          rw [hb] at h
          simp only at h
          refine ⟨⟨fn, code, hfn, hname, hb⟩, fun E w args' hr hargs Fe n hW => ?_⟩
          replace h := bind_ok.1 h
          obtain ⟨⟨x, f1⟩, c1, h1, _, _, hex, h, _⟩ := h
          have hW' : Wd Fe.plain := hW
          have key : code.wpIn Fe.plain n P (bodyPostM Fe.plain n P fn (fun e w' => ∃ v' E', e = .returned v' ∧ E.le E' ∧ HR P w0 F E' H' w' ∧ VR E' v v')) { tmps := args'.toArray ++ Array.replicate (fn.ntmps - args'.toArray.size) undef, defers := [] } w := by
            refine (he code Fe.plain n _ E H w _ f1 x _ _ _ _ _ hW' hex (init_frame hargs fn.ntmps) hr fun E1 a1 w1 hle hr1 hf1 => ?_).1
            have fin : ∀ {c2 : Nat} {H2 : Heap} {L2 : Lg}, M.bind (takeL f1.ds) (fun _ => resultsA P fn f1) c1 h1 = .ok v c2 H2 L2 → H2 = H' →
                LeavesInM Fe.plain n P fn a1.tmps (fun e w' => ∃ v' E', e = .returned v' ∧ E.le E' ∧ HR P w0 F E' H' w' ∧ VR E' v v') a1.defers .returning w1 := by
              intro c2 H2 L2 hres hH
              replace hres := bind_ok.1 hres
              obtain ⟨u, c3, h3, _, _, htk, hres, _⟩ := hres
              refine leaves_sound htk hr1 hf1.defers fun w2 hr2 => ?_
              obtain ⟨_, q2, v', q3, q4⟩ := results_sound hf1 hr2 hres
              subst hH q2
              exact ⟨v', q3, v', E1, rfl, hle, hr2, q4⟩
            cases x <;> (try simp only at h) <;> first
              | exact (bad_ok.1 h).elim
              | exact fin h rfl
          exact callsIn_of_wp_marks (F := Fe.plain) hfn hb (hW.1 g) key

theorem rec_sound [Den] [Asm] [AsmOK P] (hm : P.follows .mixedOrders = true) {tbl : Tbl} (ht : TblSnd P w0 F tbl) : ∀ n, ExecSnd P w0 F (rec P tbl n) ∧ CallSnd P w0 F (rec P tbl n)
  | 0 => ⟨(fun code Fe n Q E H w f f' x a c c' H' L _ h => by cases h), (fun g args c H v c' H' L h => by cases h)⟩
  | n + 1 => by
    obtain ⟨he, hc⟩ := rec_sound hm ht n
    have hl := recLocal P tbl (fun g m args h => (ht g m h).1 args) n
    exact ⟨execS_sound (draw_sound hm hc he hl) hc he, callS_sound ht he⟩
end

theorem noTbl_sound [Den] {P : Program} {w0 : World} {F : Nat → Prop} : TblSnd P w0 F noTbl := fun g m h => by cases h

theorem HR.start [Den] (P : Program) (w : World) : HR P w (fun _ => False) (fun _ => none) .nil w :=
  ⟨⟨rfl, rfl, rfl, Nat.le_refl _, fun _ _ _ => rfl⟩, (fun i e h => by cases h), (fun i o h => by cases h), (fun i j o p e e' _ h => by cases h), (fun i o e h => by cases h)⟩
theorem Keeps.below {w0 w : World} (h : Keeps w0 (fun _ => False) w) : Go.RowKit.Below w0.heap.size w0 w :=
  ⟨h.os, h.tape, h.output, h.size, fun k hk => h.block k hk (fun f => f)⟩

def saysTrue : R Value → Bool
  | .ok (.bool b) _ _ _ => b
  | _ => false
/-- A call of no arguments that the interpreter finds true. -/
theorem closed_true [Den] [Asm] {P : Program} [AsmOK P] (hm : P.follows .mixedOrders = true) {n : Nat} {g : FuncId} (h : saysTrue ((rec P noTbl n).call g [] 0 .nil) = true) (w : World) :
    Calls P g #[] w fun e w' => e = .returned (.bool true) ∧ Go.RowKit.Below w.heap.size w w' := by
  cases hr : (rec P noTbl n).call g [] 0 .nil with
  | bad k => rw [hr] at h; cases h
  | ok v c' H' L =>
    rw [hr] at h
    have hv : v = .bool true := by
      cases v <;> first | (cases h; done) | skip
      rename_i b
      simp only [saysTrue] at h
      rw [h]
    subst hv
    obtain ⟨_, hc⟩ := (rec_sound (P := P) (w0 := w) (F := fun _ => False) hm noTbl_sound n).2 _ _ _ _ _ _ _ _ hr
    have := hc _ w [] (HR.start P w) (LR.nil _) Fence.wide 0 ⟨fun _ => trivial, rfl⟩
    refine (callsIn_wide.1 this).mono fun e w' ⟨v', E', h1, h2, h3, h4⟩ => ?_
    cases h4
    exact ⟨h1, h3.keeps.below⟩
end Go.Sx
